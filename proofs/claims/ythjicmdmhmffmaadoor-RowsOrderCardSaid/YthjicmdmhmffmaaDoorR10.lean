/- Contracts: law 13's may, awake. -/
import Derived.Test.YthjicmdmhmffmaaDoorK4
import Derived.Test.YthjicmdmhmffmaaDoorR9
namespace Go.Proofs.YthjicmdmhmffmaaDoor
open Go.RowKit

def MayOk (t : TabD) (x : IdxD) : Prop := t.cols.length < 30 ∧ t.key.length < 30 ∧ x.cols.length < 30 ∧ t.id ≠ x.id ∧ t.id < 1048576 ∧ x.id < 1048576 ∧ CatOk ⟨0, 1048576, [t], [x]⟩

set_option maxRecDepth 100000 in
set_option maxHeartbeats 3200000 in
theorem mayLaw_any {ok ok3 : Nat → Prop} (t : TabD) (x : IdxD) (a b xa : Value) (w : World) (ht : TabR ok w a b t) (hx : IdxR ok3 w xa x) :
    Calls Tryd.prog 5 #[.agg (tabCs t a b), .agg (idxCs x xa)] w fun e w' => RetB e (MayOk t x) ∧ Below w.heap.size w w' := by
  obtain ⟨A, c, rfl, _, _⟩ := ht.cols.form
  obtain ⟨A3, c3, rfl, _, _⟩ := ht.key.form
  obtain ⟨A4, c4, rfl, _, _⟩ := hx.cols.form
  go_enter Tryd.func5, Tryd.ntmps5
  unfold tabCs idxCs
  go_upto_region 1 with fail
  refine name_world (fun w1 => Below w.heap.size w w1 ∧ w.heap.size + 2 ≤ w1.heap.size ∧ Blk w1 w.heap.size 25 (tabCs t (.slice A t.cols.length c) (.slice A3 t.key.length c3)) ∧ Blk w1 (w.heap.size + 1) 27 (idxCs x (.slice A4 x.cols.length c4)))
    ⟨((Below.refl _ _).alloc (Nat.le_refl _) _).alloc (by simp) _, by simp, (Blk.new w _ _).alloc _, Blk.new_ (by simp)⟩ ?_
  rintro w1 ⟨hb1, hz1, kt, kx⟩
  have a0 : w1.cell? ⟨w.heap.size, 0, none⟩ = some (.int .i64 t.id) := kt.cell 0
  have a1 : w1.cell? ⟨w.heap.size, 1, none⟩ = some (.string t.name) := kt.cell 1
  have a2 : w1.cell? ⟨w.heap.size, 2, none⟩ = some (.slice A t.cols.length c) := kt.cell 2
  have a3 : w1.cell? ⟨w.heap.size, 3, none⟩ = some (.slice A3 t.key.length c3) := kt.cell 3
  have i0 : w1.cell? ⟨w.heap.size + 1, 0, none⟩ = some (.int .i64 x.id) := kx.cell 0
  have i1 : w1.cell? ⟨w.heap.size + 1, 1, none⟩ = some (.int .i64 x.table) := kx.cell 1
  have i2 : w1.cell? ⟨w.heap.size + 1, 2, none⟩ = some (.string x.name) := kx.cell 2
  have i3 : w1.cell? ⟨w.heap.size + 1, 3, none⟩ = some (.slice A4 x.cols.length c4) := kx.cell 3
  have i4 : w1.cell? ⟨w.heap.size + 1, 4, none⟩ = some (.bool x.uniq) := kx.cell 4
  have i5 : w1.cell? ⟨w.heap.size + 1, 5, none⟩ = some (.int .i64 x.state) := kx.cell 5
  have i6 : w1.cell? ⟨w.heap.size + 1, 6, none⟩ = some (.bool x.bad) := kx.cell 6
  by_cases h0 : t.cols.length < 30
  · have d0 : decide ((t.cols.length : Int) < 30) = true := decide_eq_true (by omega)
    have d0' : decide (t.cols.length < 30) = true := decide_eq_true (by omega)
    by_cases h1 : t.key.length < 30
    · have d1 : decide ((t.key.length : Int) < 30) = true := decide_eq_true (by omega)
      have d1' : decide (t.key.length < 30) = true := decide_eq_true (by omega)
      by_cases h2 : x.cols.length < 30
      · have d2 : decide ((x.cols.length : Int) < 30) = true := decide_eq_true (by omega)
        have d2' : decide (x.cols.length < 30) = true := decide_eq_true (by omega)
        by_cases h3 : t.id = x.id
        · have NN : Hid (¬ MayOk t x) := fun h => h.2.2.2.1 h3
          have d3 : (t.id != x.id) = false := by simp [h3]
          clear h3
          go_wp2
          go_ret
          exact ⟨RetB.no rfl NN.out, hb1⟩
        · have d3 : (t.id != x.id) = true := by simpa using h3
          have H3 := Lib.hid h3
          clear h3
          by_cases h4 : t.id < 1048576
          · have d4 : decide (t.id < 1048576) = true := decide_eq_true h4
            by_cases h5 : x.id < 1048576
            · have d5 : decide (x.id < 1048576) = true := decide_eq_true h5
              have HH : Hid (t.cols.length < 30 ∧ t.key.length < 30 ∧ x.cols.length < 30 ∧ t.id < 1048576 ∧ x.id < 1048576) := ⟨h0, h1, h2, h4, h5⟩
              clear h0 h1 h2 h4 h5
              have j0 := fun o => alloc1 i0 o
              have j1 := fun o => alloc1 i1 o
              have j2 := fun o => alloc1 i2 o
              have j3 := fun o => alloc1 i3 o
              have j4 := fun o => alloc1 i4 o
              have j5 := fun o => alloc1 i5 o
              have j6 := fun o => alloc1 i6 o
              go_wp2_with fail
              refine (catRight_any (ok := fun b => ok b ∨ ok3 b ∨ w1.heap.size ≤ b) ⟨0, 1048576, [t], [x]⟩ _ _ _ ⟨?_, ?_⟩).mono ?_
              · exact (RSl.one_new (ok := fun b => ok b ∨ ok3 b ∨ w1.heap.size ≤ b) (E := rTab) _ ⟨_, _, rfl, (ht.below hb1).mono fun b h _ => .inl h⟩ (.inr (.inr (Nat.le_refl _))) (by decide)).below ((Below.refl _ _).alloc (Nat.le_refl _) _)
              · have h := RSl.one_new (ok := fun b => ok b ∨ ok3 b ∨ w1.heap.size ≤ b) (E := rIdx) (w := w1.alloc (.cells #[.int .i64 t.id, .string t.name, .slice A t.cols.length c, .slice A3 t.key.length c3] 25)) (cs := #[.int .i64 x.id, .int .i64 x.table, .string x.name, .slice A4 x.cols.length c4, .bool x.uniq, .int .i64 x.state, .bool x.bad]) (d := x) 27 ⟨_, rfl, ((hx.below hb1).below ((Below.refl _ _).alloc (Nat.le_refl _) _)).mono fun b h _ => .inr (.inl h)⟩ (.inr (.inr (by simp))) (by decide)
                rw [World.size_alloc] at h
                exact h
              rintro e w2 ⟨⟨bb, rfl, hbb⟩, hb2⟩
              have hB2 := hb1.trans ((((Below.refl _ _).alloc (Nat.le_refl _) _).alloc (by simp) _).trans (hb2.mono (by simp; omega)) |>.mono hb1.size)
              have RR : Hid (bb = true ↔ MayOk t x) := ⟨fun h => ⟨HH.out.1, HH.out.2.1, HH.out.2.2.1, H3.out, HH.out.2.2.2.1, HH.out.2.2.2.2, hbb.1 h⟩, fun h => hbb.2 h.2.2.2.2.2.2⟩
              clear hbb
              go_wp2
              go_ret
              exact ⟨RetB.mk bb rfl RR.out, hB2⟩
            · have NN : Hid (¬ MayOk t x) := fun h => h5 h.2.2.2.2.2.1
              have d5 : decide (x.id < 1048576) = false := decide_eq_false h5
              go_wp2
              go_ret
              exact ⟨RetB.no rfl NN.out, hb1⟩
          · have NN : Hid (¬ MayOk t x) := fun h => h4 h.2.2.2.2.1
            have d4 : decide (t.id < 1048576) = false := decide_eq_false h4
            go_wp2
            go_ret
            exact ⟨RetB.no rfl NN.out, hb1⟩
      · have NN : Hid (¬ MayOk t x) := fun h => h2 h.2.2.1
        have d2 : decide ((x.cols.length : Int) < 30) = false := decide_eq_false (by omega)
        have d2' : decide (x.cols.length < 30) = false := decide_eq_false (by omega)
        go_wp2
        go_ret
        exact ⟨RetB.no rfl NN.out, hb1⟩
    · have NN : Hid (¬ MayOk t x) := fun h => h1 h.2.1
      have d1 : decide ((t.key.length : Int) < 30) = false := decide_eq_false (by omega)
      have d1' : decide (t.key.length < 30) = false := decide_eq_false (by omega)
      go_wp2
      go_ret
      exact ⟨RetB.no rfl NN.out, hb1⟩
  · have NN : Hid (¬ MayOk t x) := fun h => h0 h.1
    have d0 : decide ((t.cols.length : Int) < 30) = false := decide_eq_false (by omega)
    have d0' : decide (t.cols.length < 30) = false := decide_eq_false (by omega)
    go_wp2
    go_ret
    exact ⟨RetB.no rfl NN.out, hb1⟩
end Go.Proofs.YthjicmdmhmffmaaDoor
