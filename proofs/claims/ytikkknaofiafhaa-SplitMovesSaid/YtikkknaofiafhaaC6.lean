/- Contracts: CopyBytes, Clone, End, ref End, Begins, and bytes of one's own. -/
import Derived.Test.YtikkknaofiafhaaC2
import Derived.Test.YtikkknaofiafhaaNum
namespace Go.Proofs.Ytikkknaofiafhaa
open Go.RowKit

set_option maxRecDepth 100000 in
set_option maxHeartbeats 400000 in
theorem copy_any (A : Option Addr) (n c : Nat) (l : List UInt8) (w : World) (hr : Rd w 1 A n (bs l)) (hm : n ≤ 140737488355328) :
    Calls Try.prog 25 #[.slice A n c] w fun e w' => (∃ A' c', e = .returned (.slice A' n c') ∧ OwnB w.heap.size w' A' n c' l) ∧ Below w.heap.size w w' := by
  go_enter Try.func25, Try.ntmps25
  go_wp2_with (at_builtin; refine wp_append_bytes rfl _ _ rfl w.heap.size none 0 0 [] w rfl (OwnB.nil_ _ _) A n c l rfl hr (by omega) (Nat.le_refl _) ?_; intro A' c' w1 hown1 hb1)
  go_ret
  rw [Nat.zero_add, List.nil_append] at hown1
  exact ⟨⟨A', c', by simp, hown1⟩, hb1⟩

theorem own_empty (w : World) (base : Nat) (hb : base ≤ w.heap.size) : OwnB base (w.alloc (.cells #[] 5)) (some ⟨w.heap.size, 0, none⟩) 0 0 [] :=
  World.ownsRow_lit (base := base) (e := 5) (size := 1) w #[] 0 hb (by decide) rfl

set_option maxRecDepth 100000 in
set_option maxHeartbeats 400000 in
theorem clone_any (A : Option Addr) (n c : Nat) (l : List UInt8) (w : World) (hr : Rd w 1 A n (bs l)) (hm : n ≤ 140737488355328) :
    Calls Try.prog 64 #[.slice A n c] w fun e w' => (∃ A' c', e = .returned (.slice A' n c') ∧ OwnB w.heap.size w' A' n c' l) ∧ Below w.heap.size w w' := by
  have hE := fun (x : Option Addr) (w : World) => Lib.run_eql_slice_nil (P := Try.prog) w 27 5 x n c 0 0 Try.underlying27
  rcases A with _ | ad
  · have hn : n = 0 := by
      rcases Nat.eq_zero_or_pos n with h0 | h0
      · exact h0
      · obtain ⟨_, _, h, _⟩ := hr.2 h0
        cases h
    subst hn
    have hl : l = [] := List.eq_nil_of_length_eq_zero (by have := hr.1; simpa using this)
    subst hl
    go_enter Try.func64, Try.ntmps64
    go_wp2
    go_ret
    exact ⟨⟨none, 0, rfl, OwnB.nil_ _ _⟩, Below.refl _ _⟩
  · go_enter Try.func64, Try.ntmps64
    go_wp2_with (at_builtin; refine wp_append_bytes rfl _ _ rfl w.heap.size _ 0 0 [] _ rfl (own_empty w w.heap.size (Nat.le_refl _)) (some ad) n c l rfl (hr.below ((Below.refl _ _).alloc (Nat.le_refl _) _)) (by omega) (by simp) ?_; intro A' c' w1 hown1 hb1)
    go_ret
    rw [Nat.zero_add, List.nil_append] at hown1
    exact ⟨⟨A', c', by simp, hown1⟩, ((Below.refl _ _).alloc (Nat.le_refl _) _).trans hb1⟩

/-- a byte stored into one's own row -/
theorem OwnB.set_ {base : Nat} {w : World} {A : Option Addr} {n c k : Nat} {l : List UInt8} (h : OwnB base w A n c l) (hk : k < n) (b : UInt8) :
    ∃ g, A = some ⟨g, 0, none⟩ ∧ base ≤ g ∧ w.cell? ⟨g, k, none⟩ = some (.int .u8 ((l.getD k 0).toNat : Int)) ∧ w.frozen? ⟨g, k, none⟩ = false ∧
      OwnB base (w.setCell ⟨g, k, none⟩ (.int .u8 (b.toNat : Int))) A n c (l.set k b) ∧ Below base w (w.setCell ⟨g, k, none⟩ (.int .u8 (b.toNat : Int))) := by
  have hl := h.len
  rcases h.2 with ⟨_, h0⟩ | ⟨g, cap, cur, hv, hg, hh, r⟩
  · omega
  · simp only [Value.slice.injEq] at hv
    obtain ⟨rfl, _, rfl⟩ := hv
    have hw : w.ownsRow base 5 1 (.slice (some ⟨g, 0, none⟩) n c) n (bs l) := h
    refine ⟨g, rfl, hg, ?_, hw.frozenAt k, ?_, (Below.refl _ _).setCell hg _⟩
    · rw [hw.cellAt k (by omega), bs_get l k (by omega)]
      simp [List.getD, show k < l.length by omega]
    · have := (hw.stored k (.int .u8 (b.toNat : Int))).1
      unfold OwnB
      have e : bs (l.set k b) = (bs l).set k (.int .u8 (b.toNat : Int)) := by simp [bs, List.map_set]
      rw [e]
      exact this

theorem inc_byte (b : UInt8) : ((b.toNat : Int) + 1) % 256 = ((b + 1).toNat : Int) := by
  rw [UInt8.toNat_add]
  simp

set_option maxRecDepth 100000 in
set_option maxHeartbeats 800000 in
theorem end_any (A : Option Addr) (n c : Nat) (l : List UInt8) (w : World) (hr : Rd w 1 A n (bs l)) (hc : n ≤ c) (hm : n ≤ 140737488355328) :
    Calls Try.prog 23 #[.slice A n c] w fun e w' => (∃ A' n' c', e = .returned (.slice A' n' c') ∧ OwnB w.heap.size w' A' n' c' (endB l)) ∧ Below w.heap.size w w' := by
  have hn : l.length = n := by have := hr.1; simpa using this
  have HN := Lib.hid hn; clear hn
  go_enter Try.func23, Try.ntmps23
  go_wp2
  go_loop [3] (fun j => ∃ k : Nat, k ≤ n ∧ j = .int .i64 (k : Int) ∧ endB l = endAt l k) (fun j => (intOf j).toNat)
  case atStart => exact ⟨n, Nat.le_refl _, rfl, by rw [← HN.out]; rfl⟩
  case round =>
    obtain ⟨k, hk, rfl, hE⟩ := hrel
    have HE := Lib.hid hE; clear hE
    rcases Nat.eq_zero_or_pos k with h0 | h0
    · subst h0
      go_wp2
      go_ret
      rw [HE.out]
      exact ⟨⟨none, 0, 0, rfl, OwnB.nil_ _ _⟩, Below.refl _ _⟩
    · obtain ⟨j, rfl⟩ : ∃ j, k = j + 1 := ⟨k - 1, by omega⟩
      obtain ⟨b, off, rfl, h1⟩ := hr.byte (k := j) (by rw [HN.out]; omega)
      obtain ⟨x, hx⟩ : ∃ x, x = l[j]'(by rw [HN.out]; omega) := ⟨_, rfl⟩
      have hg : l.getD j 0 = x := by rw [hx]; simp [List.getD, show j < l.length by rw [HN.out]; omega]
      rw [← hx] at h1
      clear hx
      by_cases h255 : x = 255
      · have ht : ((x.toNat : Int) != 255) = false := by rw [h255]; rfl
        have HE2 : Hid (endB l = endAt l j) := by rw [HE.out, endAt, hg, if_pos h255]; rfl
        clear h255 hg
        go_wp2
        go_round
        case rel => exact ⟨j, by omega, rfl, HE2.out⟩
        case measure => simp [intOf]
      · have ht : ((x.toNat : Int) != 255) = true := u8_bne (b := 255) h255
        have HE2 : Hid (endB l = l.take j ++ [x + 1]) := by rw [HE.out, endAt, hg, if_neg h255]; rfl
        have hT : (l.take (j + 1)).getD j 0 = x := by rw [← hg]; simp [List.getD]
        have HT := Lib.hid hT; clear hT
        clear h255 hg
        have hrt : Rd w 1 (some ⟨b, off, none⟩) (j + 1) (bs (l.take (j + 1))) := by
          have := hr.take (k := j + 1) hk
          rwa [Nat.mul_one, bs_take] at this
        go_wp2_with (go_at_call 64; refine (clone_any _ _ _ _ _ hrt (by omega)).mono ?_; rintro e w1 ⟨⟨A', c', rfl, hown⟩, hb1⟩; obtain ⟨g, rfl, hg2, hc2, hf2, hs2, hb2⟩ := hown.set_ (k := j) (by omega) (x + 1); rw [HT.out] at hc2)
        go_ret
        have hfin := take_set_last l j (by rw [HN.out]; omega) (x + 1)
        rw [HE2.out, ← hfin]
        refine ⟨⟨_, _, _, rfl, ?_⟩, hb1.trans (hb2.mono (by have := hb1.size; omega))⟩
        rw [inc_byte x]
        exact hs2

set_option maxRecDepth 100000 in
set_option maxHeartbeats 800000 in
theorem refEnd_any (A : Option Addr) (n c : Nat) (l : List UInt8) (w : World) (hr : Rd w 1 A n (bs l)) (hc : n ≤ c) (hm : n ≤ 140737488355328) :
    Calls Try.prog 47 #[.slice A n c] w fun e w' => (∃ A' n' c', e = .returned (.slice A' n' c') ∧ OwnB w.heap.size w' A' n' c' (endB l)) ∧ Below w.heap.size w w' := by
  have hn : l.length = n := by have := hr.1; simpa using this
  have HN := Lib.hid hn; clear hn
  go_enter Try.func47, Try.ntmps47
  go_wp2
  go_loop [3] (fun j => ∃ k : Nat, k ≤ n ∧ j = .int .i64 (k : Int) ∧ endB l = endAt l k) (fun j => (intOf j).toNat)
  case atStart => exact ⟨n, Nat.le_refl _, rfl, by rw [← HN.out]; rfl⟩
  case round =>
    obtain ⟨k, hk, rfl, hE⟩ := hrel
    have HE := Lib.hid hE; clear hE
    rcases Nat.eq_zero_or_pos k with h0 | h0
    · subst h0
      go_wp2
      go_ret
      rw [HE.out]
      exact ⟨⟨none, 0, 0, rfl, OwnB.nil_ _ _⟩, Below.refl _ _⟩
    · obtain ⟨j, rfl⟩ : ∃ j, k = j + 1 := ⟨k - 1, by omega⟩
      obtain ⟨b, off, rfl, h1⟩ := hr.byte (k := j) (by rw [HN.out]; omega)
      obtain ⟨x, hx⟩ : ∃ x, x = l[j]'(by rw [HN.out]; omega) := ⟨_, rfl⟩
      have hg : l.getD j 0 = x := by rw [hx]; simp [List.getD, show j < l.length by rw [HN.out]; omega]
      rw [← hx] at h1
      clear hx
      by_cases h255 : x = 255
      · have ht : ((x.toNat : Int) == 255) = true := by rw [h255]; rfl
        have HE2 : Hid (endB l = endAt l j) := by rw [HE.out, endAt, hg, if_pos h255]; rfl
        clear h255 hg
        go_wp2
        go_round
        case rel => exact ⟨j, by omega, rfl, HE2.out⟩
        case measure => simp [intOf]
      · have ht : ((x.toNat : Int) == 255) = false := u8_beq_no (b := 255) h255
        have HE2 : Hid (endB l = l.take j ++ [x + 1]) := by rw [HE.out, endAt, hg, if_neg h255]; rfl
        have hT : (l.take (j + 1)).getD j 0 = x := by rw [← hg]; simp [List.getD]
        have HT := Lib.hid hT; clear hT
        clear h255 hg
        have hrt : Rd w 1 (some ⟨b, off, none⟩) (j + 1) (bs (l.take (j + 1))) := by
          have := hr.take (k := j + 1) hk
          rwa [Nat.mul_one, bs_take] at this
        go_wp2_with (at_builtin; refine wp_append_bytes rfl _ _ rfl w.heap.size none 0 0 [] w rfl (OwnB.nil_ _ _) _ (j + 1) c (l.take (j + 1)) rfl hrt (by omega) (Nat.le_refl _) ?_; intro A' c' w1 hown hb1; rw [Nat.zero_add, List.nil_append] at hown; obtain ⟨g, rfl, hg2, hc2, hf2, hs2, hb2⟩ := hown.set_ (k := j) (by omega) (x + 1); rw [HT.out] at hc2)
        go_ret
        have hfin := take_set_last l j (by rw [HN.out]; omega) (x + 1)
        rw [HE2.out, ← hfin]
        refine ⟨⟨_, _, _, rfl, ?_⟩, hb1.trans (hb2.mono (by have := hb1.size; omega))⟩
        rw [inc_byte x]
        exact hs2

set_option maxRecDepth 100000 in
set_option maxHeartbeats 800000 in
theorem begins_any (A1 A2 : Option Addr) (n1 c1 n2 c2 : Nat) (l p : List UInt8) (w : World) (h1 : Rd w 1 A1 n1 (bs l)) (h2 : Rd w 1 A2 n2 (bs p)) (hc1 : n1 ≤ c1) (_ : n1 ≤ 140737488355328) (hm2 : n2 ≤ 140737488355328) :
    Calls Try.prog 26 #[.slice A1 n1 c1, .slice A2 n2 c2] w fun e w' => e = .returned (.bool (beginsB l p)) ∧ Below w.heap.size w w' := by
  have hn1 : l.length = n1 := by have := h1.1; simpa using this
  have hn2 : p.length = n2 := by have := h2.1; simpa using this
  by_cases hle : n2 ≤ n1
  · have hle' : (n2 : Int) ≤ n1 := by omega
    have hrt := h1.take (k := n2) hle
    rw [Nat.mul_one, bs_take] at hrt
    have e1 := fun s : Later w => run_str (c := c1) (P := Try.prog) 27 9 5 Try.underlying27 Try.underlying5 Try.underlying9 (s.rd hrt)
    have e2 := fun s : Later w => run_str (c := c2) (P := Try.prog) 27 9 5 Try.underlying27 Try.underlying5 Try.underlying9 (s.rd h2)
    have hB : beginsB l p = ((str (l.take n2)).toList == (str p).toList) := by
      rw [str_toList, str_toList, beginsB, hn1, hn2]; simp [hle]
    have HB := Lib.hid hB
    clear hB hn1 hn2 hrt
    go_enter Try.func26, Try.ntmps26
    go_wp2
    refine wp_region_later (by kernel_rfl) (by kernel_rfl) ?_
    repeat (go_big_quiet_step (fail))
    refine wpQuiet_nil ?_
    intro s
    go_wp2
    go_ret
    exact ⟨ret_bool HB.out.symm, s.below⟩
  · have hd : decide ((n2 : Int) ≤ n1) = false := by simp; omega
    have HB : Hid (beginsB l p = false) := by unfold beginsB; rw [hn1, hn2]; simp [hle]; trivial
    clear hn1 hn2
    go_enter Try.func26, Try.ntmps26
    go_wp2
    refine wp_region_later (by kernel_rfl) (by kernel_rfl) ?_
    repeat (go_big_quiet_step (fail))
    refine wpQuiet_nil ?_
    intro s
    go_wp2
    go_ret
    exact ⟨ret_bool HB.out.symm, s.below⟩
end Go.Proofs.Ytikkknaofiafhaa
