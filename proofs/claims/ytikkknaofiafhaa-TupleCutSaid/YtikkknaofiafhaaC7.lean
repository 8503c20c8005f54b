/- Contracts: cmp.Compare, cmp.Or, tuple.one, slices.CompareFunc, tuple.Cmp, armoireref03.Cmp. -/
import Derived.Test.YtikkknaofiafhaaC1
import Derived.Test.YtikkknaofiafhaaTail
namespace Go.Proofs.Ytikkknaofiafhaa
open Go.RowKit

def cmpI (a b : Int) : Int := if a < b then -1 else if b < a then 1 else 0
def cmpS (a b : ByteArray) : Int := if Op.bytesLess a.toList b.toList then -1 else if a.toList == b.toList then 0 else 1

set_option maxHeartbeats 400000 in
theorem cmpInt_any (a b : Int) (w : World) :
    Calls Try.prog 157 #[.int .i64 a, .int .i64 b] w fun e w' => e = .returned (.int .i64 (cmpI a b)) ∧ w = w' := by
  go_enter Try.func157, Try.ntmps157
  go_wp2
  all_goals
    go_ret
    refine ⟨ret_int ?_, rfl⟩
    unfold cmpI
    first | (rw [if_pos ‹_›]) | (rw [if_neg (by omega), if_pos (by omega)]) | (rw [if_neg (by omega), if_neg (by omega)])

set_option maxHeartbeats 400000 in
theorem cmpInt64_any (a b : Int) (w : World) :
    Calls Try.prog 158 #[.int .i64 a, .int .i64 b] w fun e w' => e = .returned (.int .i64 (cmpI a b)) ∧ w = w' := by
  go_enter Try.func158, Try.ntmps158
  go_wp2
  all_goals
    go_ret
    refine ⟨ret_int ?_, rfl⟩
    unfold cmpI
    first | (rw [if_pos ‹_›]) | (rw [if_neg (by omega), if_pos (by omega)]) | (rw [if_neg (by omega), if_neg (by omega)])

set_option maxHeartbeats 400000 in
theorem cmpStr_any (a b : ByteArray) (w : World) :
    Calls Try.prog 159 #[.string a, .string b] w fun e w' => e = .returned (.int .i64 (cmpS a b)) ∧ w = w' := by
  go_enter Try.func159, Try.ntmps159
  go_wp2
  all_goals
    go_ret
    refine ⟨ret_int ?_, rfl⟩
    simp_all [cmpS]

def orI (a b c : Int) : Int := if a = 0 then (if b = 0 then c else b) else a

set_option maxHeartbeats 800000 in
theorem or_any (g : Nat) (a b c : Int) (w : World) (h0 : w.cell? ⟨g, 0, none⟩ = some (.int .i64 a)) (h1 : w.cell? ⟨g, 1, none⟩ = some (.int .i64 b)) (h2 : w.cell? ⟨g, 2, none⟩ = some (.int .i64 c)) :
    Calls Try.prog 156 #[.slice (some ⟨g, 0, none⟩) 3 3] w fun e w' => e = .returned (.int .i64 (orI a b c)) ∧ w = w' := by
  go_enter Try.func156, Try.ntmps156
  go_wp2
  go_loop [5, 8] (fun _ j => ∃ k : Nat, k ≤ 3 ∧ j = .int .i64 (k : Int) ∧ (0 < k → a = 0) ∧ (1 < k → b = 0) ∧ (2 < k → c = 0)) (fun _ j => 3 - (intOf j).toNat)
  case atStart => exact ⟨0, by omega, rfl, by omega, by omega, by omega⟩
  case round =>
    obtain ⟨k, hk, rfl, e0, e1, e2⟩ := hrel
    have E0 := Lib.hid e0; clear e0
    have E1 := Lib.hid e1; clear e1
    have E2 := Lib.hid e2; clear e2
    match k, hk with
    | 0, _ =>
      by_cases hz : a = 0
      · have ht : (a != 0) = false := by simp [hz]
        have HZ := Lib.hid hz; clear hz
        go_wp2
        go_round
        case rel => exact ⟨1, by omega, rfl, fun _ => HZ.out, by omega, by omega⟩
        case measure => simp [intOf]
      · have ht : (a != 0) = true := by simp [hz]
        have HZ := Lib.hid hz; clear hz
        go_wp2
        go_ret
        exact ⟨ret_int (by rw [orI, if_neg HZ.out]), rfl⟩
    | 1, _ =>
      by_cases hz : b = 0
      · have ht : (b != 0) = false := by simp [hz]
        have HZ := Lib.hid hz; clear hz
        go_wp2
        go_round
        case rel => exact ⟨2, by omega, rfl, fun _ => E0.out (by omega), fun _ => HZ.out, by omega⟩
        case measure => simp [intOf]
      · have ht : (b != 0) = true := by simp [hz]
        have HZ := Lib.hid hz; clear hz
        go_wp2
        go_ret
        exact ⟨ret_int (by rw [orI, if_pos (E0.out (by omega)), if_neg HZ.out]), rfl⟩
    | 2, _ =>
      by_cases hz : c = 0
      · have ht : (c != 0) = false := by simp [hz]
        have HZ := Lib.hid hz; clear hz
        go_wp2
        go_round
        case rel => exact ⟨3, by omega, rfl, fun _ => E0.out (by omega), fun _ => E1.out (by omega), fun _ => HZ.out⟩
        case measure => simp [intOf]
      · have ht : (c != 0) = true := by simp [hz]
        go_wp2
        go_ret
        exact ⟨ret_int (by rw [orI, if_pos (E0.out (by omega)), if_pos (E1.out (by omega))]), rfl⟩
    | 3, _ =>
      go_wp2
      go_ret
      exact ⟨ret_int (by rw [orI, if_pos (E0.out (by omega)), if_pos (E1.out (by omega)), E2.out (by omega)]), rfl⟩

/-- what tuple.one says of two values -/
def oneI (x y : Val) : Int := orI (cmpI x.k y.k) (cmpI x.i y.i) (cmpS x.s y.s)

set_option maxRecDepth 100000 in
set_option maxHeartbeats 800000 in
theorem one_any (k i : Int) (s : ByteArray) (k' i' : Int) (s' : ByteArray) (w : World) :
    Calls Try.prog 110 #[.agg #[.int .i64 k, .int .i64 i, .string s], .agg #[.int .i64 k', .int .i64 i', .string s']] w fun e w' => e = .returned (.int .i64 (oneI ⟨k, i, s⟩ ⟨k', i', s'⟩)) ∧ Below w.heap.size w w' := by
  obtain ⟨w1, hw1⟩ : ∃ w1, w1 = (w.alloc (.cells #[.int .i64 k, .int .i64 i, .string s] 24)).alloc (.cells #[.int .i64 k', .int .i64 i', .string s'] 24) := ⟨_, rfl⟩
  have c0 : w1.cell? ⟨w.heap.size, 0, none⟩ = some (.int .i64 k) ∧ w1.cell? ⟨w.heap.size, 1, none⟩ = some (.int .i64 i) ∧ w1.cell? ⟨w.heap.size, 2, none⟩ = some (.string s) := by
    subst hw1; simp [World.cell?_alloc_past]
  have c1 : w1.cell? ⟨w.heap.size + 1, 0, none⟩ = some (.int .i64 k') ∧ w1.cell? ⟨w.heap.size + 1, 1, none⟩ = some (.int .i64 i') ∧ w1.cell? ⟨w.heap.size + 1, 2, none⟩ = some (.string s') := by
    subst hw1; simp
  have hb : Below w.heap.size w w1 := by subst hw1; exact ((Below.refl _ _).alloc (Nat.le_refl _) _).alloc (by simp) _
  have l0 := Later.cell c0.1
  have l1 := Later.cell c0.2.1
  have l2 := Later.cell c0.2.2
  have m0 := Later.cell c1.1
  have m1 := Later.cell c1.2.1
  have m2 := Later.cell c1.2.2
  have HW := Lib.hid hw1; clear hw1 c0 c1
  go_enter Try.func110, Try.ntmps110
  go_wp2
  rw [← HW.out]
  refine wp_region_later_tail 15 (by kernel_rfl) (by kernel_rfl) ?_
  simp only [List.take_succ_cons, List.take_zero, List.drop_succ_cons, List.drop_zero]
  repeat (go_big_quiet_step ((first
    | (go_at_call 157; exact Later.call_same (cmpInt_any _ _ _))
    | (go_at_call 158; exact Later.call_same (cmpInt64_any _ _ _))
    | (go_at_call 159; exact Later.call_same (cmpStr_any _ _ _)))))
  refine wpQuiet_nil ?_
  intro s1
  go_wp2_with fail
  refine (or_any s1.val.heap.size (cmpI k k') (cmpI i i') (cmpS s s') _ (by simp) (by simp) (by simp)).mono ?_
  rintro e w2 ⟨rfl, rfl⟩
  go_wp2
  go_ret
  exact ⟨rfl, (hb.trans (s1.below.mono hb.size)).alloc (Nat.le_trans hb.size s1.below.size) _⟩

/-- what tuple.Cmp says of two lists -/
def cmpA : List Val → List Val → Int
  | [], [] => 0
  | [], _ :: _ => -1
  | _ :: _, [] => 1
  | x :: a, y :: b => if oneI x y = 0 then cmpA a b else oneI x y
theorem cmpA_nil_r (x : List Val) (h : x ≠ []) : cmpA x [] = 1 := by cases x with | nil => exact absurd rfl h | cons _ _ => rfl
theorem cmpA_nil_l (x : List Val) (h : x ≠ []) : cmpA [] x = -1 := by cases x with | nil => exact absurd rfl h | cons _ _ => rfl
theorem drop_cons {α : Type} (l : List α) (k : Nat) (h : k < l.length) : l.drop k = l[k] :: l.drop (k + 1) := List.drop_eq_getElem_cons h

set_option maxRecDepth 100000 in
set_option maxHeartbeats 1600000 in
theorem compareFunc_any (A : Option Addr) (n c : Nat) (A2 : Option Addr) (n2 c2 : Nat) (vs us : List Val) (w : World) (hr : Rd w 3 A n (vcs vs)) (hr2 : Rd w 3 A2 n2 (vcs us)) (hm : n ≤ 9223372036854775807) (hm2 : n2 ≤ 9223372036854775807) :
    Calls Try.prog 109 #[.slice A n c, .slice A2 n2 c2, .func (.func 110) #[] #[]] w fun e w' => e = .returned (.int .i64 (cmpA vs us)) ∧ Below w.heap.size w w' := by
  have hn : vs.length = n := by have := hr.1; rw [vcs_length] at this; omega
  have hn2 : us.length = n2 := by have := hr2.1; rw [vcs_length] at this; omega
  have HN := Lib.hid hn; clear hn
  have HN2 := Lib.hid hn2; clear hn2
  go_enter Try.func109, Try.ntmps109
  go_wp2
  go_loopw [13] (fun j wr => ∃ k : Nat, k ≤ n ∧ k ≤ n2 ∧ j = .int .i64 (k : Int) ∧ Below w.heap.size w wr ∧ cmpA vs us = cmpA (vs.drop k) (us.drop k)) (fun j _ => n - (intOf j).toNat)
  case atStart => exact ⟨0, by omega, by omega, rfl, Below.refl _ _, rfl⟩
  case round =>
    obtain ⟨k, hk, hk2, rfl, hb, hE⟩ := hrel
    have HE := Lib.hid hE; clear hE
    by_cases hlt : k < n
    · have hlv : k < vs.length := by rw [HN.out]; exact hlt
      obtain ⟨b, off, rfl, hlb, g0, g1, g2⟩ := hr.valB hlv
      obtain ⟨h0, h1, h2⟩ := val_later hb hlb g0 g1 g2
      clear g0 g1 g2
      by_cases hlt2 : k < n2
      · have hlv2 : k < us.length := by rw [HN2.out]; exact hlt2
        obtain ⟨b', off', rfl, hlb', g0', g1', g2'⟩ := hr2.valB hlv2
        obtain ⟨h0', h1', h2'⟩ := val_later hb hlb' g0' g1' g2'
        clear g0' g1' g2'
        have hne : b' ≠ wr.heap.size := by have := hb.size; omega
        have q0 : (wr.alloc (.cells #[.int .i64 (vs[k]).k, .int .i64 (vs[k]).i, .string (vs[k]).s] 24)).cell? ⟨b', off' + k * 3, none⟩ = some (.int .i64 (us[k]).k) := by
          rw [World.cell?_alloc_old _ _ _ hne]; exact h0'
        have q1 : (wr.alloc (.cells #[.int .i64 (vs[k]).k, .int .i64 (vs[k]).i, .string (vs[k]).s] 24)).cell? ⟨b', off' + k * 3 + 1, none⟩ = some (.int .i64 (us[k]).i) := by
          rw [World.cell?_alloc_old _ _ _ hne]; exact h1'
        have q2 : (wr.alloc (.cells #[.int .i64 (vs[k]).k, .int .i64 (vs[k]).i, .string (vs[k]).s] 24)).cell? ⟨b', off' + k * 3 + 2, none⟩ = some (.string (us[k]).s) := by
          rw [World.cell?_alloc_old _ _ _ hne]; exact h2'
        go_wp2_with fail
        refine (one_any _ _ _ _ _ _ _).mono ?_
        rintro e w2 ⟨rfl, hb2⟩
        obtain ⟨q, hq⟩ : ∃ q, q = oneI vs[k] us[k] := ⟨_, rfl⟩
        rw [show oneI ⟨(vs[k]).k, (vs[k]).i, (vs[k]).s⟩ ⟨(us[k]).k, (us[k]).i, (us[k]).s⟩ = q from hq.symm]
        have hbb : Below w.heap.size w w2 := ((hb.alloc hb.size _).alloc (by have := hb.size; simp; omega) _).trans (hb2.mono (by have := hb.size; simp; omega))
        by_cases hz : q = 0
        · have ht : (q != 0) = false := by simp [hz]
          have HE2 : Hid (cmpA vs us = cmpA (vs.drop (k + 1)) (us.drop (k + 1))) := by
            rw [HE.out, drop_cons vs k hlv, drop_cons us k hlv2, cmpA, if_pos (by rw [← hq]; exact hz)]; rfl
          clear hz hq
          go_wp2
          go_roundw
          case rel => exact ⟨k + 1, by omega, by omega, by go_num, hbb, HE2.out⟩
          case measure => simp [intOf]; omega
        · have ht : (q != 0) = true := by simp [hz]
          have HE2 : Hid (cmpA vs us = q) := by
            rw [HE.out, drop_cons vs k hlv, drop_cons us k hlv2, cmpA, if_neg (by rw [← hq]; exact hz), hq]; rfl
          clear hz hq
          go_wp2
          go_ret
          exact ⟨ret_int HE2.out.symm, hbb⟩
      · go_wp2
        go_ret
        refine ⟨ret_int ?_, hb.alloc hb.size _⟩
        rw [HE.out, drop_cons vs k hlv, List.drop_of_length_le (l := us) (by rw [HN2.out]; omega), cmpA]
    · have hvd : vs.drop k = [] := List.drop_of_length_le (by rw [HN.out]; omega)
      by_cases hlt2 : n < n2
      · go_wp2
        go_ret
        refine ⟨ret_int ?_, hb⟩
        rw [HE.out, hvd, cmpA_nil_l]
        intro h
        have := congrArg List.length h
        simp [HN2.out] at this
        omega
      · go_wp2
        go_ret
        refine ⟨ret_int ?_, hb⟩
        rw [HE.out, hvd, List.drop_of_length_le (l := us) (by rw [HN2.out]; omega)]
        rfl

theorem cmp_any (A : Option Addr) (n c : Nat) (A2 : Option Addr) (n2 c2 : Nat) (vs us : List Val) (w : World) (hr : Rd w 3 A n (vcs vs)) (hr2 : Rd w 3 A2 n2 (vcs us)) (hm : n ≤ 9223372036854775807) (hm2 : n2 ≤ 9223372036854775807) :
    Calls Try.prog 50 #[.slice A n c, .slice A2 n2 c2] w fun e w' => e = .returned (.int .i64 (cmpA vs us)) ∧ Below w.heap.size w w' := by
  go_enter Try.func50, Try.ntmps50
  go_wp2_with fail
  refine (compareFunc_any A n c A2 n2 c2 vs us _ hr hr2 hm hm2).mono ?_
  rintro e w1 ⟨rfl, hb1⟩
  go_wp2
  go_ret
  exact ⟨rfl, hb1⟩

/-- what armoireref03.Cmp says of two unlike values -/
def rless (x y : Val) : Bool := decide (x.k < y.k) || ((decide (x.k = y.k) && decide (x.k = 1) && decide (x.i < y.i)) || (decide (x.k = y.k) && decide (x.k = 2) && Op.bytesLess x.s.toList y.s.toList))
def cmpR : List Val → List Val → Int
  | [], [] => 0
  | [], _ :: _ => -1
  | _ :: _, [] => 1
  | x :: a, y :: b => if x = y then cmpR a b else if rless x y then -1 else 1

theorem cmpR_zero : ∀ (a b : List Val), cmpR a b = 0 ↔ a = b
  | [], [] => by simp [cmpR]
  | [], _ :: _ => by simp [cmpR]
  | _ :: _, [] => by simp [cmpR]
  | x :: a, y :: b => by
    by_cases h : x = y
    · subst h; simp [cmpR, cmpR_zero a b]
    · cases hr : rless x y <;> simp [cmpR, h, hr]

set_option maxRecDepth 100000 in
set_option maxHeartbeats 3200000 in
theorem refCmp_any (A : Option Addr) (n c : Nat) (A2 : Option Addr) (n2 c2 : Nat) (vs us : List Val) (w : World) (hr : Rd w 3 A n (vcs vs)) (hr2 : Rd w 3 A2 n2 (vcs us)) (hm : n ≤ 9223372036854775807) (hm2 : n2 ≤ 9223372036854775807) :
    Calls Try.prog 24 #[.slice A n c, .slice A2 n2 c2] w fun e w' => e = .returned (.int .i64 (cmpR vs us)) ∧ Below w.heap.size w w' := by
  have hn : vs.length = n := by have := hr.1; rw [vcs_length] at this; omega
  have hn2 : us.length = n2 := by have := hr2.1; rw [vcs_length] at this; omega
  have HN := Lib.hid hn; clear hn
  have HN2 := Lib.hid hn2; clear hn2
  go_enter Try.func24, Try.ntmps24
  go_wp2
  go_loopw [5] (fun j wr => ∃ k : Nat, k ≤ n ∧ k ≤ n2 ∧ j = .int .i64 (k : Int) ∧ Below w.heap.size w wr ∧ cmpR vs us = cmpR (vs.drop k) (us.drop k)) (fun j _ => n - (intOf j).toNat)
  case atStart => exact ⟨0, by omega, by omega, rfl, Below.refl _ _, rfl⟩
  case round =>
    obtain ⟨k, hk, hk2, rfl, hb, hE⟩ := hrel
    have HE := Lib.hid hE; clear hE
    by_cases hlt : k < n
    · have hlv : k < vs.length := by rw [HN.out]; exact hlt
      obtain ⟨b, off, rfl, hlb, g0, g1, g2⟩ := hr.valB hlv
      obtain ⟨h0, h1, h2⟩ := val_later hb hlb g0 g1 g2
      clear g0 g1 g2
      by_cases hlt2 : k < n2
      · have hlv2 : k < us.length := by rw [HN2.out]; exact hlt2
        obtain ⟨b', off', rfl, hlb', g0', g1', g2'⟩ := hr2.valB hlv2
        obtain ⟨h0', h1', h2'⟩ := val_later hb hlb' g0' g1' g2'
        clear g0' g1' g2'
        have HEQ : Hid (vs[k] = us[k] → cmpR vs us = cmpR (vs.drop (k + 1)) (us.drop (k + 1))) := fun h => by
          rw [HE.out, drop_cons vs k hlv, drop_cons us k hlv2, cmpR, if_pos h]
        have HNE : Hid (vs[k] ≠ us[k] → cmpR vs us = if rless vs[k] us[k] then -1 else 1) := fun h => by
          rw [HE.out, drop_cons vs k hlv, drop_cons us k hlv2, cmpR, if_neg h]
        obtain ⟨⟨xk, xi, xs⟩, hx⟩ : ∃ x, x = vs[k] := ⟨_, rfl⟩
        obtain ⟨⟨yk, yi, ys⟩, hy⟩ : ∃ x, x = us[k] := ⟨_, rfl⟩
        rw [← hx] at h0 h1 h2 HEQ HNE
        rw [← hy] at h0' h1' h2' HEQ HNE
        clear hx hy
        simp only [] at h0 h1 h2 h0' h1' h2'
        have a0 := alloc1 h0
        have a1 := alloc1 h1
        have a2 := alloc1 h2
        have a0' := alloc1 h0'
        have a1' := alloc1 h1'
        have a2' := alloc1 h2'
        have d0 := alloc2 h0
        have d1 := alloc2 h1
        have d2 := alloc2 h2
        have d0' := alloc2 h0'
        have d1' := alloc2 h1'
        have d2' := alloc2 h2'
        have hbs := hb.size
        have hb2 : ∀ o o', Below w.heap.size w ((wr.alloc o).alloc o').drew := fun o o' => ((hb.alloc hb.size _).alloc (by have := hb.size; simp; omega) _).drew
        go_wp2
        go_region
        all_goals
          clear a0 a1 a2 a0' a1' a2' d0 d1 d2 d0' d1' d2' h0 h1 h2 h0' h1' h2'
          go_wp2
        all_goals first
          | (go_roundw
             case rel => exact ⟨k + 1, by omega, by omega, by go_num, hb2 _ _, HEQ.out (by
              have h3 : xs.toList = ys.toList := by assumption
              simp [toList_inj h3, *])⟩
             case measure => simp [intOf]; omega)
          | (go_ret
             refine ⟨ret_int ?_, hb2 _ _⟩
             rw [HNE.out (by
              intro h
              simp only [Val.mk.injEq] at h
              obtain ⟨h1, h2, h3⟩ := h
              subst h3
              simp_all)]
             simp_all [rless])
      · go_wp2
        go_ret
        refine ⟨ret_int ?_, hb⟩
        rw [HE.out, drop_cons vs k hlv, List.drop_of_length_le (l := us) (by rw [HN2.out]; omega), cmpR]
    · have hvd : vs.drop k = [] := List.drop_of_length_le (by rw [HN.out]; omega)
      by_cases hlt2 : n < n2
      · go_wp2
        go_ret
        refine ⟨ret_int ?_, hb⟩
        rw [HE.out, hvd]
        have hlv2 : k < us.length := by rw [HN2.out]; omega
        rw [drop_cons us k hlv2, cmpR]
      · go_wp2
        go_ret
        refine ⟨ret_int ?_, hb⟩
        rw [HE.out, hvd, List.drop_of_length_le (l := us) (by rw [HN2.out]; omega)]
        rfl
end Go.Proofs.Ytikkknaofiafhaa
