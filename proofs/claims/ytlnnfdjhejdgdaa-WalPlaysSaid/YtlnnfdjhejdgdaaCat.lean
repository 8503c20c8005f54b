/- Contracts: slices.Grow of nil bytes, slices.Concat of two byte slices. -/
import Derived.Test.YtlnnfdjhejdgdaaS0
import Derived.Lib.AppendZeros
namespace Go.Proofs.Ytlnnfdjhejdgdaa
open Go.RowKit

theorem grow_zero (w : World) : Calls Try.prog 55 #[.slice none 0 0, .int .i64 0] w fun e w' => e = .returned (.slice none 0 0) ∧ w' = w := by
  go_enter Try.func55, Try.ntmps55
  go_wp2
  go_ret
  exact ⟨rfl, rfl⟩
set_option maxRecDepth 100000 in
theorem grow_some (n : Nat) (w : World) (h0 : 0 < n) (hn : n ≤ 1000000000) : Calls Try.prog 55 #[.slice none 0 0, .int .i64 n] w fun e w' =>
    (∃ c, e = .returned (.slice (some ⟨w.heap.size, 0, none⟩) 0 c) ∧ OwnB w.heap.size w' (some ⟨w.heap.size, 0, none⟩) 0 c []) ∧ Below w.heap.size w w' := by
  obtain ⟨i0, hi0, hz0, hz1, hz2⟩ := info_parts Try.infoU8
  have hr := fun ty w => Lib.run_append_nil_zeros (P := Try.prog) w 33 3 ty 5 i0 _ .i64 .i64 Try.underlying33 Try.underlying3 hi0 hz0 n h0 (by omega) (by omega) (by rw [hz2]; omega)
  have h1 : ¬ ((n : Int) < 0) := by omega
  have h4 : (n : Int) > 0 := by omega
  have h3 : wrap64 ((n : Int) - 0) = n := by unfold wrap64; omega
  go_enter Try.func55, Try.ntmps55
  go_wp2_with (at_builtin; refine Lib.wpList_append_run _ rfl _ _ _ _ rfl _ _ rfl rfl _ _ (hr _ _) ?_)
  have hge := grownCap_ge w n 0 5
  have hle := grownCap_le_maxLen w n 0 5 (by unfold maxLen; omega)
  go_ret
  refine ⟨⟨_, rfl, ?_⟩, ((Below.refl _ _).alloc (Nat.le_refl _) _).drew⟩
  exact World.ownsRow_made w _ _ (Nat.le_refl _) hle (by rw [Array.size_append, size_zeroCells, size_zeroCells]; simp; omega)

theorem grow_any (n : Nat) (w : World) (hn : n ≤ 1000000000) : Calls Try.prog 55 #[.slice none 0 0, .int .i64 n] w fun e w' =>
    (∃ A c, e = .returned (.slice A 0 c) ∧ OwnB w.heap.size w' A 0 c []) ∧ Below w.heap.size w w' := by
  rcases Nat.eq_zero_or_pos n with h0 | h0
  · subst h0
    exact (grow_zero w).mono fun e w' ⟨he, hw⟩ => by subst hw; exact ⟨⟨none, 0, he, OwnB.nil_ _ _⟩, Below.refl _ _⟩
  · exact (grow_some n w h0 hn).mono fun e w' ⟨⟨c, he, ho⟩, hb⟩ => ⟨⟨_, c, he, ho⟩, hb⟩

set_option maxRecDepth 100000 in
set_option maxHeartbeats 3200000 in
/-- slices.Concat of two. -/
theorem concat_any {ok ok2 : Nat → Prop} (g : Nat) (u v : Value) (l p : List UInt8) (w : World) (h0 : w.cell? ⟨g, 0, none⟩ = some u) (h1 : w.cell? ⟨g, 1, none⟩ = some v) (hu : RB ok w u l) (hv : RB ok2 w v p) (hl : l.length ≤ 100000000) (hp : p.length ≤ 100000000) :
    Calls Try.prog 36 #[.slice (some ⟨g, 0, none⟩) 2 2] w fun e w' => (∃ A c, e = .returned (.slice A (l ++ p).length c) ∧ OwnB w.heap.size w' A (l ++ p).length c (l ++ p)) ∧ Below w.heap.size w w' := by
  obtain ⟨A, c, rfl, _, _, ru, _⟩ := hu.open_
  obtain ⟨B, d, rfl, _, _, rv, _⟩ := hv.open_
  have e1 : wrap64 (0 + (l.length : Int)) = (l.length : Int) := by unfold wrap64; omega
  have e2 : wrap64 ((l.length : Int) + (p.length : Int)) = ((l.length + p.length : Nat) : Int) := by unfold wrap64; omega
  have g1 : ¬ ((l.length : Int) < 0) := by omega
  have g2 : ¬ (((l.length + p.length : Nat) : Int) < 0) := by omega
  rw [List.length_append]
  generalize hL : l.length = L at *
  generalize hM : p.length = M at *
  go_enter Try.func36, Try.ntmps36
  go_wp2
  refine wp_loop_rounds 3 ?_
  rw [rounds_succ]
  go_wp2
  rw [rounds_succ]
  go_wp2
  rw [rounds_succ]
  go_wp2_with fail
  refine (grow_any (L + M) _ (by omega)).mono ?_
  rintro e w1 ⟨⟨A1, c1, rfl, ho1⟩, hb1⟩
  have hlt := World.block_lt_of_cell? w _ h0
  have k0 : w1.cell? ⟨g, 0, none⟩ = some (.slice A L c) := (hb1.cell (p := ⟨g, 0, none⟩) hlt).trans h0
  have k1 : w1.cell? ⟨g, 1, none⟩ = some (.slice B M d) := (hb1.cell (p := ⟨g, 1, none⟩) hlt).trans h1
  clear h0 h1
  go_wp2
  refine wp_loop_rounds 3 ?_
  rw [rounds_succ]
  go_wp2_with (at_builtin; refine wp_append_bytes rfl _ _ rfl w.heap.size A1 0 c1 [] _ rfl ho1 A L c l rfl (ru.below hb1) (by omega) hb1.size ?_)
  intro A2 c2 w2 ho2 hb2
  have k1' : w2.cell? ⟨g, 1, none⟩ = some (.slice B M d) := (hb2.cell (p := ⟨g, 1, none⟩) hlt).trans k1
  clear k0 k1
  go_wp2
  rw [rounds_succ]
  go_wp2_with (at_builtin; refine wp_append_bytes rfl _ _ rfl w.heap.size A2 L c2 l _ rfl ho2 B M d p rfl (rv.below (hb1.trans hb2)) (by omega) (hb1.trans hb2).size ?_)
  intro A3 c3 w3 ho3 hb3
  go_wp2
  rw [rounds_succ]
  go_wp2
  go_ret
  exact ⟨⟨A3, c3, rfl, ho3⟩, (hb1.trans hb2).trans hb3⟩
end Go.Proofs.Ytlnnfdjhejdgdaa
