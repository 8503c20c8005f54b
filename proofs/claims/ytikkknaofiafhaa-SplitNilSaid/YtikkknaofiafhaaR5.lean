/- Contracts: rows.null, ContainsFunc of it; slices.Index; bytes.Equal, HasPrefix, CutPrefix; rows.Pair. -/
import Derived.Test.YtikkknaofiafhaaR4
namespace Go.Proofs.Ytikkknaofiafhaa
open Go.RowKit

def hasNull (l : List Val) : Bool := l.any fun v => v.k == 0
theorem hasNull_yes (l : List Val) (k : Nat) (h : k < l.length) (h0 : (l[k].k == 0) = true) : hasNull l = true := List.any_eq_true.2 ⟨_, List.getElem_mem h, h0⟩
theorem hasNull_no (l : List Val) (h : ∀ k (hk : k < l.length), (l[k].k == 0) = false) : hasNull l = false := by
  unfold hasNull
  rw [List.any_eq_false]
  intro x hx
  obtain ⟨k, hk, rfl⟩ := List.getElem_of_mem hx
  rw [h k hk]
  simp

theorem null_any (k i : Int) (s : ByteArray) (w : World) :
    Calls Try.prog 116 #[.agg #[.int .i64 k, .int .i64 i, .string s]] w fun e w' => e = .returned (.bool (k == 0)) ∧ Below w.heap.size w w' := by
  go_enter Try.func116, Try.ntmps116
  go_wp2
  go_ret
  exact ⟨rfl, (Below.refl _ _).alloc (Nat.le_refl _) _⟩

set_option maxHeartbeats 800000 in
theorem indexNull_any (A : Option Addr) (n c : Nat) (vs : List Val) (w : World) (hr : Rd w 3 A n (vcs vs)) (hm : n ≤ 9223372036854775807) :
    Calls Try.prog 122 #[.slice A n c, .func (.func 116) #[] #[]] w (FoundB (hasNull vs) w) := by
  have hn : vs.length = n := by have := hr.1; rw [vcs_length] at this; omega
  have HN := Lib.hid hn; clear hn
  go_enter Try.func122, Try.ntmps122
  go_wp2
  go_loopw [8] (fun i wr => ∃ k : Nat, k ≤ n ∧ i = .int .i64 k ∧ Below w.heap.size w wr ∧ Hid (∀ q (h : q < vs.length), q < k → (vs[q].k == 0) = false)) (fun i _ => n - (intOf i).toNat)
  case atStart => exact ⟨0, Nat.zero_le _, rfl, Below.refl _ _, fun q _ h => absurd h (by omega)⟩
  case round =>
    obtain ⟨k, hk, rfl, hb, HA⟩ := hrel
    by_cases hlt : k < n
    · have hlv : k < vs.length := by rw [HN.out]; exact hlt
      obtain ⟨b, off, rfl, h0, h1, h2⟩ := (hr.below hb).val hlv
      go_wp2_with fail
      refine (null_any _ _ _ _).mono ?_
      rintro e w1 ⟨rfl, hb1⟩
      cases hR : (vs[k].k == 0)
      · go_wp2
        go_roundw
        case rel => exact ⟨k + 1, by omega, by go_num, hb.trans (hb1.mono hb.size), fun q h hq => by
          rcases Nat.lt_or_ge q k with h' | h'
          · exact HA.out q h h'
          · obtain rfl : q = k := by omega
            exact hR⟩
        case measure => simp [intOf]; omega
      · have HY := Lib.hid (hasNull_yes vs k hlv hR)
        go_wp2
        go_ret
        refine ⟨⟨k, rfl, ?_⟩, hb.trans (hb1.mono hb.size)⟩
        rw [HY.out]; simp
    · have HY := Lib.hid (hasNull_no vs fun q hq => HA.out q hq (by rw [HN.out] at hq; omega))
      go_wp2
      go_ret
      exact ⟨⟨-1, rfl, by rw [HY.out]; rfl⟩, hb⟩

theorem containsNull_any {ok : Nat → Prop} (v : Value) (vs : List Val) (w : World) (hr : RV ok w v vs) :
    Calls Try.prog 60 #[v, .func (.func 116) #[] #[]] w fun e w' => e = .returned (.bool (hasNull vs)) ∧ Below w.heap.size w w' := by
  obtain ⟨A, c, rfl, _, hm, hrd, _, _⟩ := hr.open_
  go_enter Try.func60, Try.ntmps60
  go_wp2_with fail
  refine (indexNull_any A _ c vs _ hrd (by omega)).mono ?_
  rintro e w1 ⟨⟨q, rfl, hq⟩, hb1⟩
  have HQ := Lib.hid hq; clear hq
  go_wp2
  go_ret
  exact ⟨ret_bool HQ.out, hb1⟩

/-- the first place of a number -/
def idxI : List Int → Int → Nat → Int
  | [], _, _ => -1
  | x :: l, k, n => if k = x then (n : Int) else idxI l k (n + 1)
theorem idxI_drop (l : List Int) (k : Int) (n : Nat) (h : n < l.length) : idxI (l.drop n) k n = if k = l[n] then (n : Int) else idxI (l.drop (n + 1)) k (n + 1) := by
  rw [List.drop_eq_getElem_cons h, idxI]

set_option maxHeartbeats 800000 in
theorem indexInt_any {ok : Nat → Prop} (v : Value) (l : List Int) (k : Int) (w : World) (hr : RSl rInt ok w v l) :
    Calls Try.prog 119 #[v, .int .i64 k] w fun e w' => e = .returned (.int .i64 (idxI l k 0)) ∧ w = w' := by
  obtain ⟨A, c, rfl, hc, hbd⟩ := hr.form
  have hbd' : l.length * 8 ≤ 140737488351232 := hbd
  clear hbd
  go_enter Try.func119, Try.ntmps119
  go_wp2
  go_loop [8] (fun i => ∃ n : Nat, n ≤ l.length ∧ i = .int .i64 (n : Int) ∧ Hid (idxI l k 0 = idxI (l.drop n) k n)) (fun i => l.length - (intOf i).toNat)
  case atStart => exact ⟨0, by omega, rfl, rfl⟩
  case round =>
    obtain ⟨n, hn, rfl, HE⟩ := hrel
    by_cases hlt : n < l.length
    · obtain ⟨b1, off1, c1', cs1, hv1, _, ⟨rfl, _⟩, hcell1⟩ := hr.at_ hlt
      simp only [Value.slice.injEq, true_and] at hv1
      obtain ⟨rfl, rfl⟩ := hv1
      have p0 := hcell1 0 _ rfl
      simp only [Nat.add_zero, show rInt.sz = 1 from rfl, Nat.mul_one] at p0
      clear hcell1
      have HS := Lib.hid (idxI_drop l k n hlt)
      obtain ⟨x, hx⟩ : ∃ x, x = l[n] := ⟨_, rfl⟩
      rw [← hx] at p0 HS
      clear hx
      by_cases h : k = x
      · have ht : (k == x) = true := by simp [h]
        have HK := Lib.hid h
        clear h
        go_wp2
        go_ret
        exact ⟨ret_int (by rw [HE.out, HS.out, if_pos HK.out]), rfl⟩
      · have ht : (k == x) = false := by simpa using h
        have HK := Lib.hid h
        clear h
        go_wp2
        go_round
        case rel => exact ⟨n + 1, by omega, by go_num, by rw [HE.out, HS.out, if_neg HK.out]; trivial⟩
        case measure => simp [intOf]; omega
    · go_wp2
      go_ret
      exact ⟨ret_int (by rw [HE.out, List.drop_of_length_le (by omega)]; rfl), rfl⟩

theorem beqB (l p : List UInt8) : ((str l).toList == (str p).toList) = decide (l = p) := by
  rw [str_toList, str_toList]
  by_cases h : l = p
  · simp [h]
  · simp [h]
set_option maxHeartbeats 800000 in
theorem equal_rb {ok ok2 : Nat → Prop} (u v : Value) (l p : List UInt8) (w : World) (h1 : RB ok w u l) (h2 : RB ok2 w v p) :
    Calls Try.prog 178 #[u, v] w fun e w' => e = .returned (.bool (decide (l = p))) ∧ w = w' := by
  obtain ⟨A, c, rfl, _, _, r1, _⟩ := h1.open_
  obtain ⟨A2, c2, rfl, _, _, r2, _⟩ := h2.open_
  have e1 := run_str (c := c) (P := Try.prog) 27 9 5 Try.underlying27 Try.underlying5 Try.underlying9 r1
  have e2 := run_str (c := c2) (P := Try.prog) 27 9 5 Try.underlying27 Try.underlying5 Try.underlying9 r2
  have HB := Lib.hid (beqB l p)
  go_enter Try.func178, Try.ntmps178
  go_wp2
  go_ret
  exact ⟨ret_bool HB.out, rfl⟩
/-- Bytes over data -/
theorem bytes_rb {ok ok2 : Nat → Prop} (u v : Value) (l p : List UInt8) (w : World) (h1 : RB ok w u l) (h2 : RB ok2 w v p) :
    Calls Try.prog 18 #[u, v] w fun e w' => e = .returned (.bool (decide (l = p))) ∧ w = w' := by
  obtain ⟨A, c, rfl, _, _, r1, _⟩ := h1.open_
  obtain ⟨A2, c2, rfl, _, _, r2, _⟩ := h2.open_
  have hE : (l == p) = decide (l = p) := by
    by_cases h : l = p
    · simp [h]
    · simp [h]
  exact (bytes_any A A2 _ c _ c2 l p w r1 r2).mono fun e w' ⟨he, hw⟩ => ⟨by rw [he]; exact ret_bool hE, hw⟩
def preB (l p : List UInt8) : Bool := decide (p.length ≤ l.length) && decide (l.take p.length = p)
set_option maxHeartbeats 800000 in
theorem hasPrefix_rb {ok ok2 : Nat → Prop} (u v : Value) (l p : List UInt8) (w : World) (h1 : RB ok w u l) (h2 : RB ok2 w v p) :
    Calls Try.prog 176 #[u, v] w fun e w' => e = .returned (.bool (preB l p)) ∧ w = w' := by
  obtain ⟨A, c, rfl, hc, hm⟩ := h1.form
  obtain ⟨A2, c2, rfl, hc2, hm2⟩ := h2.form
  have hm' : l.length * 1 ≤ 140737488351232 := hm
  have hm2' : p.length * 1 ≤ 140737488351232 := hm2
  clear hm hm2
  by_cases hle : p.length ≤ l.length
  · have HB : Hid (preB l p = decide (l.take p.length = p)) := by unfold preB; simp [hle]; trivial
    have d1 : decide ((p.length : Int) ≤ (l.length : Int)) = true := decide_eq_true (by omega)
    have d2 : decide (p.length ≤ l.length) = true := decide_eq_true hle
    go_enter Try.func176, Try.ntmps176
    go_wp2_with fail
    refine (equal_rb _ _ (l.take p.length) p _ (h1.take hle) h2).mono ?_
    rintro e w1 ⟨rfl, rfl⟩
    go_wp2
    go_ret
    exact ⟨ret_bool HB.out.symm, rfl⟩
  · have HB : Hid (preB l p = false) := by unfold preB; simp [hle]; trivial
    have d1 : decide ((p.length : Int) ≤ (l.length : Int)) = false := decide_eq_false (by omega)
    have d2 : decide (p.length ≤ l.length) = false := decide_eq_false hle
    go_enter Try.func176, Try.ntmps176
    go_wp2
    go_ret
    exact ⟨ret_bool HB.out.symm, rfl⟩
theorem preB_len {l p : List UInt8} (h : preB l p = true) : p.length ≤ l.length := by simp [preB] at h; exact h.1
def cutB (l p : List UInt8) : List UInt8 := if preB l p then l.drop p.length else l
set_option maxRecDepth 100000 in
set_option maxHeartbeats 800000 in
theorem cutPrefix_rb {ok ok2 : Nat → Prop} (u v : Value) (l p : List UInt8) (w : World) (h1 : RB ok w u l) (h2 : RB ok2 w v p) :
    Calls Try.prog 162 #[u, v] w fun e w' => (∃ v', e = .returned (.tuple #[v', .bool (preB l p)]) ∧ RB ok w' v' (cutB l p)) ∧ w = w' := by
  obtain ⟨A, c, rfl, hc, hm⟩ := h1.form
  obtain ⟨A2, c2, rfl, hc2, hm2⟩ := h2.form
  have hm' : l.length * 1 ≤ 140737488351232 := hm
  have hm2' : p.length * 1 ≤ 140737488351232 := hm2
  clear hm hm2
  cases hP : preB l p
  · have HP := Lib.hid hP
    clear hP
    go_enter Try.func162, Try.ntmps162
    go_wp2_with fail
    refine (hasPrefix_rb _ _ l p _ h1 h2).mono ?_
    rintro e w1 ⟨rfl, rfl⟩
    rw [HP.out]
    go_wp2
    go_ret2
    refine ⟨⟨_, rfl, ?_⟩, rfl⟩
    unfold cutB
    rw [HP.out]
    exact h1
  · have HP := Lib.hid hP
    have hle := preB_len hP
    have hle2 : p.length ≤ c := by omega
    clear hP
    by_cases hcp : c = p.length
    · subst hcp
      have hd := h1.drop hle
      rw [if_pos rfl] at hd
      have HD := Lib.hid hd
      clear hd
      go_enter Try.func162, Try.ntmps162
      go_wp2_with fail
      refine (hasPrefix_rb _ _ l p _ h1 h2).mono ?_
      rintro e w1 ⟨rfl, rfl⟩
      rw [HP.out]
      go_wp2
      go_ret2
      refine ⟨⟨_, rfl, ?_⟩, rfl⟩
      unfold cutB
      rw [HP.out]
      have := HD.out
      simpa [show l.length - p.length = 0 by omega] using this
    · have hd := h1.drop hle
      rw [if_neg hcp] at hd
      have HD := Lib.hid hd
      clear hd
      go_enter Try.func162, Try.ntmps162
      go_wp2_with fail
      refine (hasPrefix_rb _ _ l p _ h1 h2).mono ?_
      rintro e w1 ⟨rfl, rfl⟩
      rw [HP.out]
      go_wp2
      go_ret2
      refine ⟨⟨_, rfl, ?_⟩, rfl⟩
      unfold cutB
      rw [HP.out]
      have := HD.out
      simp only [show rU8.sz = 1 from rfl, Nat.mul_one] at this
      simpa [hcp] using this
end Go.Proofs.Ytikkknaofiafhaa
