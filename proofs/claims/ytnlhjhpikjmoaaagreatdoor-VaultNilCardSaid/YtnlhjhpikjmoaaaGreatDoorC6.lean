/- Contracts: CopyBytes, Clone, End, ref End, Begins, and bytes of one's own. -/
import Derived.Test.YtnlhjhpikjmoaaaGreatDoorC2
import Derived.Test.YtnlhjhpikjmoaaaGreatDoorNum
namespace Go.Proofs.YtnlhjhpikjmoaaaGreatDoor
open Go.RowKit

set_option maxRecDepth 100000 in
set_option maxHeartbeats 400000 in
theorem copy_any (A : Option Addr) (n c : Nat) (l : List UInt8) (w : World) (hr : Rd w 1 A n (bs l)) (hm : n ≤ 140737488355328) :
    Calls Tryz.prog 26 #[.slice A n c] w fun e w' => (∃ A' c', e = .returned (.slice A' n c') ∧ OwnB w.heap.size w' A' n c' l) ∧ Below w.heap.size w w' := by
  go_enter Tryz.func26, Tryz.ntmps26
  go_wp2_with (at_builtin; refine wp_append_bytes rfl _ _ rfl w.heap.size none 0 0 [] w rfl (OwnB.nil_ _ _) A n c l rfl hr (by omega) (Nat.le_refl _) ?_; intro A' c' w1 hown1 hb1)
  go_ret
  rw [Nat.zero_add, List.nil_append] at hown1
  exact ⟨⟨A', c', by simp, hown1⟩, hb1⟩

theorem own_empty (w : World) (base : Nat) (hb : base ≤ w.heap.size) : OwnB base (w.alloc (.cells #[] 5)) (some ⟨w.heap.size, 0, none⟩) 0 0 [] :=
  World.ownsRow_lit (base := base) (e := 5) (size := 1) w #[] 0 hb (by decide) rfl

set_option maxRecDepth 100000 in
set_option maxHeartbeats 400000 in
theorem clone_any (A : Option Addr) (n c : Nat) (l : List UInt8) (w : World) (hr : Rd w 1 A n (bs l)) (hm : n ≤ 140737488355328) :
    Calls Tryz.prog 74 #[.slice A n c] w fun e w' => (∃ A' c', e = .returned (.slice A' n c') ∧ OwnB w.heap.size w' A' n c' l) ∧ Below w.heap.size w w' := by
  have hE := fun (x : Option Addr) (w : World) => Lib.run_eql_slice_nil (P := Tryz.prog) w 25 5 x n c 0 0 Tryz.underlying25
  rcases A with _ | ad
  · have hn : n = 0 := by
      rcases Nat.eq_zero_or_pos n with h0 | h0
      · exact h0
      · obtain ⟨_, _, h, _⟩ := hr.2 h0
        cases h
    subst hn
    have hl : l = [] := List.eq_nil_of_length_eq_zero (by have := hr.1; simpa using this)
    subst hl
    go_enter Tryz.func74, Tryz.ntmps74
    go_wp2
    go_ret
    exact ⟨⟨none, 0, rfl, OwnB.nil_ _ _⟩, Below.refl _ _⟩
  · go_enter Tryz.func74, Tryz.ntmps74
    go_wp2_with (at_builtin; refine wp_append_bytes rfl _ _ rfl w.heap.size _ 0 0 [] _ rfl (own_empty w w.heap.size (Nat.le_refl _)) (some ad) n c l rfl (hr.below ((Below.refl _ _).alloc (Nat.le_refl _) _)) (by omega) (by simp) ?_; intro A' c' w1 hown1 hb1)
    go_ret
    rw [Nat.zero_add, List.nil_append] at hown1
    exact ⟨⟨A', c', by simp, hown1⟩, ((Below.refl _ _).alloc (Nat.le_refl _) _).trans hb1⟩

/-- a byte stored into one's own row -/
theorem OwnB.set_ {base : Nat} {w : World} {A : Option Addr} {n c k : Nat} {l : List UInt8} (h : OwnB base w A n c l) (hk : k < n) (b : UInt8) :
    ∃ g, A = some ⟨g, 0, none⟩ ∧ base ≤ g ∧ w.cell? ⟨g, k, none⟩ = some (.int .u8 ((l.getD k 0).toNat : Int)) ∧ w.frozen? ⟨g, k, none⟩ = false ∧
      OwnB base (w.setCell ⟨g, k, none⟩ (.int .u8 (b.toNat : Int))) A n c (l.set k b) ∧ Below base w (w.setCell ⟨g, k, none⟩ (.int .u8 (b.toNat : Int))) := by
  have hl := h.len
  rcases h.2 with ⟨_, h0⟩ | ⟨g, cap, cur, hv, hg, hh, r⟩
  · omega
  · simp only [Value.slice.injEq] at hv
    obtain ⟨rfl, _, rfl⟩ := hv
    have hw : w.ownsRow base 5 1 (.slice (some ⟨g, 0, none⟩) n c) n (bs l) := h
    refine ⟨g, rfl, hg, ?_, hw.frozenAt k, ?_, (Below.refl _ _).setCell hg _⟩
    · rw [hw.cellAt k (by omega), bs_get l k (by omega)]
      simp [List.getD, show k < l.length by omega]
    · have := (hw.stored k (.int .u8 (b.toNat : Int))).1
      unfold OwnB
      have e : bs (l.set k b) = (bs l).set k (.int .u8 (b.toNat : Int)) := by simp [bs, List.map_set]
      rw [e]
      exact this

theorem inc_byte (b : UInt8) : ((b.toNat : Int) + 1) % 256 = ((b + 1).toNat : Int) := by
  rw [UInt8.toNat_add]
  simp

end Go.Proofs.YtnlhjhpikjmoaaaGreatDoor
