/- Contracts of small functions: tuple.Right, armoireref03.Right, armoirelaw03.right, armoirehelp.Bytes. -/
import Derived.Test.YtikkknaofiafhaaProg
import Derived.Test.YtikkknaofiafhaaOrd
namespace Go.Proofs.Ytikkknaofiafhaa
open Go.RowKit

set_option maxHeartbeats 400000 in
theorem right_any (k i : Int) (s : ByteArray) (w : World) :
    Calls Try.prog 19 #[.agg #[.int .i64 k, .int .i64 i, .string s]] w fun e w' => e = .returned (.bool (rightB k i s)) ∧ Below w.heap.size w w' := by
  go_enter Try.func19, Try.ntmps19
  go_wp2
  all_goals
    go_ret
    exact ⟨ret_bool (by simp [rightB, *]), (Below.refl _ _).alloc (Nat.le_refl _) _⟩

set_option maxHeartbeats 400000 in
theorem refRight_any (k i : Int) (s : ByteArray) (w : World) :
    Calls Try.prog 20 #[.agg #[.int .i64 k, .int .i64 i, .string s]] w fun e w' => e = .returned (.bool (rightB k i s)) ∧ Below w.heap.size w w' := by
  go_enter Try.func20, Try.ntmps20
  go_wp2
  all_goals
    go_ret
    exact ⟨ret_bool (by simp [rightB, *]), (Below.refl _ _).alloc (Nat.le_refl _) _⟩

theorem allRight_take_succ (l : List Val) (k : Nat) (h : k < l.length) : allRight (l.take (k + 1)) = (allRight (l.take k) && rightB (l[k]).k (l[k]).i (l[k]).s) := by
  unfold allRight
  rw [List.take_succ_eq_append_getElem h, List.all_append]
  simp [Val.right]
theorem allRight_false (l : List Val) (k : Nat) (h : k < l.length) (hr : rightB (l[k]).k (l[k]).i (l[k]).s = false) : allRight l = false := by
  unfold allRight
  rw [List.all_eq_false]
  exact ⟨l[k], List.getElem_mem h, by simp [Val.right, hr]⟩

set_option maxHeartbeats 400000 in
theorem lawRight_any (A : Option Addr) (n c : Nat) (vs : List Val) (w : World) (hr : Rd w 3 A n (vcs vs)) (hm : n ≤ 9223372036854775807) :
    Calls Try.prog 22 #[.slice A n c] w fun e w' => e = .returned (.bool (allRight vs && decide ((n : Int) < 60))) ∧ Below w.heap.size w w' := by
  have hn : vs.length = n := by have := hr.1; rw [vcs_length] at this; omega
  have HN := Lib.hid hn; clear hn
  go_enter Try.func22, Try.ntmps22
  go_wp2
  go_loopw [3] (fun i wr => ∃ k : Nat, k ≤ n ∧ i = .int .i64 k ∧ Below w.heap.size w wr ∧ allRight (vs.take k) = true) (fun i _ => n - (intOf i).toNat)
  case atStart => exact ⟨0, Nat.zero_le _, rfl, Below.refl _ _, rfl⟩
  case round =>
    obtain ⟨k, hk, rfl, hb, hall⟩ := hrel
    by_cases hlt : k < n
    · have hlv : k < vs.length := by rw [HN.out]; exact hlt
      obtain ⟨b, off, rfl, h0, h1, h2⟩ := (hr.below hb).val hlv
      go_wp2_with fail
      refine (refRight_any _ _ _ _).mono ?_
      rintro e w1 ⟨rfl, hb1⟩
      cases hR : rightB (vs[k]).k (vs[k]).i (vs[k]).s
      · go_wp2
        go_ret
        refine ⟨ret_bool ?_, hb.trans (hb1.mono hb.size)⟩
        rw [allRight_false vs k hlv hR]; rfl
      · go_wp2
        go_roundw
        case rel => exact ⟨k + 1, by omega, by go_num, hb.trans (hb1.mono hb.size), by rw [allRight_take_succ vs k hlv, hall, hR]; rfl⟩
        case measure => simp [intOf]; omega
    · have hkn : vs.take k = vs := List.take_of_length_le (by rw [HN.out]; omega)
      go_wp2
      go_ret
      refine ⟨ret_bool ?_, hb⟩
      rw [hkn] at hall
      rw [hall]; rfl

set_option maxHeartbeats 400000 in
theorem bytes_any (A1 A2 : Option Addr) (n1 c1 n2 c2 : Nat) (l1 l2 : List UInt8) (w : World) (h1 : Rd w 1 A1 n1 (bs l1)) (h2 : Rd w 1 A2 n2 (bs l2)) :
    Calls Try.prog 18 #[.slice A1 n1 c1, .slice A2 n2 c2] w fun e w' => e = .returned (.bool (l1 == l2)) ∧ w = w' := by
  have e1 := run_str (c := c1) (P := Try.prog) 27 9 5 Try.underlying27 Try.underlying5 Try.underlying9 h1
  have e2 := run_str (c := c2) (P := Try.prog) 27 9 5 Try.underlying27 Try.underlying5 Try.underlying9 h2
  go_enter Try.func18, Try.ntmps18
  go_wp2
  go_ret
  exact ⟨ret_bool (by rw [str_toList, str_toList]), rfl⟩

set_option maxHeartbeats 400000 in
theorem enc1_any (k i : Int) (s : ByteArray) (w : World) :
    Calls Try.prog 61 #[.agg #[.int .i64 k, .int .i64 i, .string s]] w fun e w' => e = .returned (.bool (!rightB k i s)) ∧ Below w.heap.size w w' := by
  go_enter Try.func61, Try.ntmps61
  go_wp2_with fail
  refine (right_any _ _ _ _).mono ?_
  rintro e w1 ⟨rfl, hb1⟩
  go_wp2
  go_ret
  exact ⟨rfl, ((Below.refl _ _).alloc (Nat.le_refl _) _).trans (hb1.mono (by simp))⟩

theorem bytes_same (A1 A2 : Option Addr) (n1 c1 n2 c2 : Nat) (l : List UInt8) (w : World) (h1 : Rd w 1 A1 n1 (bs l)) (h2 : Rd w 1 A2 n2 (bs l)) :
    Calls Try.prog 18 #[.slice A1 n1 c1, .slice A2 n2 c2] w fun e w' => e = .returned (.bool true) ∧ w = w' :=
  (bytes_any A1 A2 n1 c1 n2 c2 l l w h1 h2).mono fun e w' ⟨he, hw⟩ => ⟨by rw [he, beq_self_eq_true], hw⟩

def FoundB (b : Bool) (w : World) (e : Ending) (w' : World) : Prop := (∃ q : Int, e = .returned (.int .i64 q) ∧ decide (0 ≤ q) = b) ∧ Below w.heap.size w w'

set_option maxHeartbeats 400000 in
theorem indexWrong_any (A : Option Addr) (n c : Nat) (vs : List Val) (w : World) (hr : Rd w 3 A n (vcs vs)) (hm : n ≤ 9223372036854775807) :
    Calls Try.prog 122 #[.slice A n c, .func (.func 61) #[] #[]] w (FoundB (!allRight vs) w) := by
  have hn : vs.length = n := by have := hr.1; rw [vcs_length] at this; omega
  have HN := Lib.hid hn; clear hn
  go_enter Try.func122, Try.ntmps122
  go_wp2
  go_loopw [8] (fun i wr => ∃ k : Nat, k ≤ n ∧ i = .int .i64 k ∧ Below w.heap.size w wr ∧ allRight (vs.take k) = true) (fun i _ => n - (intOf i).toNat)
  case atStart => exact ⟨0, Nat.zero_le _, rfl, Below.refl _ _, rfl⟩
  case round =>
    obtain ⟨k, hk, rfl, hb, hall⟩ := hrel
    by_cases hlt : k < n
    · have hlv : k < vs.length := by rw [HN.out]; exact hlt
      obtain ⟨b, off, rfl, h0, h1, h2⟩ := (hr.below hb).val hlv
      go_wp2_with fail
      refine (enc1_any _ _ _ _).mono ?_
      rintro e w1 ⟨rfl, hb1⟩
      cases hR : rightB (vs[k]).k (vs[k]).i (vs[k]).s
      · go_wp2
        go_ret
        refine ⟨⟨k, rfl, ?_⟩, hb.trans (hb1.mono hb.size)⟩
        rw [allRight_false vs k hlv hR]; simp
      · go_wp2
        go_roundw
        case rel => exact ⟨k + 1, by omega, by go_num, hb.trans (hb1.mono hb.size), by rw [allRight_take_succ vs k hlv, hall, hR]; rfl⟩
        case measure => simp [intOf]; omega
    · have hkn : vs.take k = vs := List.take_of_length_le (by rw [HN.out]; omega)
      go_wp2
      go_ret
      rw [hkn] at hall
      exact ⟨⟨-1, rfl, by rw [hall]; rfl⟩, hb⟩

set_option maxHeartbeats 400000 in
theorem containsWrong_any (A : Option Addr) (n c : Nat) (vs : List Val) (w : World) (hr : Rd w 3 A n (vcs vs)) (hm : n ≤ 9223372036854775807) :
    Calls Try.prog 60 #[.slice A n c, .func (.func 61) #[] #[]] w fun e w' => e = .returned (.bool (!allRight vs)) ∧ Below w.heap.size w w' := by
  go_enter Try.func60, Try.ntmps60
  go_wp2_with fail
  refine (indexWrong_any A n c vs _ hr hm).mono ?_
  rintro e w1 ⟨⟨q, rfl, hq⟩, hb1⟩
  have HQ := Lib.hid hq; clear hq
  go_wp2
  go_ret
  exact ⟨ret_bool HQ.out, hb1⟩

def markI (k : Int) : Int := if k = 2 then 3 else if k = 1 then 2 else 1
set_option maxHeartbeats 400000 in
theorem mark_any (k : Int) (w : World) :
    Calls Try.prog 123 #[.int .i64 k] w fun e w' => e = .returned (.int .u8 (markI k)) ∧ w = w' := by
  by_cases h2 : k = 2
  · subst h2
    go_enter Try.func123, Try.ntmps123
    go_wp2
    go_ret
    exact ⟨rfl, rfl⟩
  · by_cases h1 : k = 1
    · subst h1
      go_enter Try.func123, Try.ntmps123
      go_wp2
      go_ret
      exact ⟨rfl, rfl⟩
    · have e2 : (k == 2) = false := by simpa using h2
      have e1 : (k == 1) = false := by simpa using h1
      go_enter Try.func123, Try.ntmps123
      go_wp2
      go_ret
      exact ⟨ret_int (by simp [markI, h1, h2]), rfl⟩
end Go.Proofs.Ytikkknaofiafhaa
