/- Contract: rows.Span. -/
import Derived.Test.YthjicmdmhmffmaaDoorD4
import Derived.Test.YthjicmdmhmffmaaDoorRegE
namespace Go.Proofs.YthjicmdmhmffmaaDoor
open Go.RowKit

/-- a fault of a fault of a code -/
def Sp.fault (g1 : Nat) (x : Int) : Sp :=
  ⟨fun v => ∃ g, v = .iface 83 (.pointer (some ⟨g, 0, none⟩)), .iface 83 (.pointer (some ⟨0, 0, none⟩)), ⟨0, rfl⟩, fun v w => ∃ g, v = .iface 83 (.pointer (some ⟨g, 0, none⟩)) ∧ w.cell? ⟨g, 1, none⟩ = some (.iface 83 (.pointer (some ⟨g1, 0, none⟩))) ∧ w.cell? ⟨g1, 1, none⟩ = some (.iface 44 (.int .i64 x)),
    fun _ _ ⟨g, h, _⟩ => ⟨g, h⟩, fun _ w1 _ hb ⟨g, h, h1, h2⟩ => ⟨g, h, (hb.cell (p := ⟨g, 1, none⟩) (World.block_lt_of_cell? w1 _ h1)).trans h1, (hb.cell (p := ⟨g1, 1, none⟩) (World.block_lt_of_cell? w1 _ h2)).trans h2⟩⟩

set_option maxRecDepth 100000 in
set_option maxHeartbeats 3200000 in
theorem rowsSpan_ok {ok ok2 ok3 : Nat → Prop} (t : TabD) (a b f u : Value) (fr ut : List Val) (w : World) (ht : TabR ok w a b t) (hf : RV ok2 w f fr) (hu : RV ok3 w u ut) (ef : (encSpec fr).2 = 0) (eu : (encSpec ut).2 = 0) (P1 P2 : List UInt8) (hP : P1 = headB 114 t.id ++ encL fr) (hR : P2 = if ut.length = 0 then endB (headB 114 t.id) else headB 114 t.id ++ encL ut) :
    Calls Tryd.prog 12 #[.agg (tabCs t a b), f, u] w fun e w' => (∃ s1 s2, e = .returned (.tuple #[.agg #[s1, s2], .int .i64 0]) ∧ RB (fun b => w.heap.size ≤ b) w' s1 P1 ∧ RB (fun b => w.heap.size ≤ b) w' s2 P2) ∧ Below w.heap.size w w' := by
  obtain ⟨Af, cf, rfl, _, _⟩ := hf.form
  obtain ⟨Au, cu, rfl, _, _⟩ := hu.form
  obtain ⟨Aa, ca, rfl, _, _⟩ := ht.cols.form
  obtain ⟨Ab, cb, rfl, _, _⟩ := ht.key.form
  have HI := Lib.hid ht.id
  have HP := Lib.hid hP
  have HR := Lib.hid hR
  clear hP hR
  go_enter Tryd.func12, Tryd.ntmps12
  unfold tabCs
  go_upto_region 1 with fail
  refine name_world (fun w1 => Below w.heap.size w w1 ∧ w.heap.size + 2 ≤ w1.heap.size ∧ w1.cell? ⟨w.heap.size, 0, none⟩ = some (.int .i64 t.id) ∧ Blk w1 (w.heap.size + 1) 43 #[.slice none 0 0, .slice none 0 0]) ⟨((Below.refl _ _).alloc (Nat.le_refl _) _).alloc (by simp) _, by simp, by simp, Blk.new_ (by simp)⟩ ?_
  rintro w1 ⟨hB1, hz1, h0, k1⟩
  go_wp2_with fail
  refine (head_any 114 t.id _ HI.out).mono ?_
  rintro e w2 ⟨⟨A2, c2, rfl, ho2⟩, hb2⟩
  have hB2 := hB1.trans (hb2.mono hB1.size)
  have k2 := k1.below hb2 k1.lt
  have r2 : RB (fun b => w1.heap.size ≤ b) w2 (.slice A2 10 c2) (headB 114 t.id) := ho2.rb (by omega)
  have hl := headB_length 114 t.id
  clear ho2 h0
  go_wp2_with fail
  refine (between_ok _ _ _ (headB 114 t.id) fr ut _ r2 (hf.below hB2) (hu.below hB2) (by omega) ef eu _ rfl).mono ?_
  rintro e w3 ⟨⟨s1, s2, rfl, x3, y3⟩, hb3⟩
  have hB3 := hB2.trans (hb3.mono hB2.size)
  have k3 := k2.below hb3 k2.lt
  have q1 : w1.heap.size ≤ w2.heap.size := hb2.size
  have q2 : w2.heap.size ≤ w3.heap.size := hb3.size
  rw [← HP.out] at x3
  have y3' : RB (fun b => w2.heap.size ≤ b) w3 s2 P2 := by
    rw [HR.out]
    by_cases h : ut.length = 0
    · rw [decide_eq_true h, if_pos rfl] at y3; rw [if_pos h]; exact y3
    · rw [decide_eq_false h, if_neg (by decide)] at y3; rw [if_neg h]; exact y3
  clear y3
  have y3 := y3'
  clear y3'
  obtain ⟨A4, c4, rfl, _, _⟩ := x3.form
  obtain ⟨A5, c5, rfl, _, _⟩ := y3.form
  have HX := Lib.hid x3
  have HY := Lib.hid y3
  clear x3 y3
  go_upto_region 2 with fail
  have hal := (Below.refl w3.heap.size w3).alloc (Nat.le_refl _) (.cells #[.slice A4 P1.length c4, .slice A5 P2.length c5] 43)
  refine name_world (fun w4 => Below w.heap.size w w4 ∧ w3.heap.size < w4.heap.size ∧ Blk w4 (w.heap.size + 1) 43 #[.slice none 0 0, .slice none 0 0] ∧ Blk w4 w3.heap.size 43 #[.slice A4 P1.length c4, .slice A5 P2.length c5] ∧ RB (fun b => w.heap.size + 2 ≤ b) w4 (.slice A4 P1.length c4) P1 ∧ RB (fun b => w.heap.size + 2 ≤ b) w4 (.slice A5 P2.length c5) P2)
    ⟨hB3.alloc hB3.size _, by simp, k3.alloc _, Blk.new w3 _ _, (HX.out.below hal).mono (by decide) fun b h _ => by omega, (HY.out.below hal).mono (by decide) fun b h _ => by omega⟩ ?_
  rintro w4 ⟨hB4, hz4, k4, s4, x4, y4⟩
  obtain ⟨i0, i1⟩ : (∀ s : Later w4, s.val.cell? ⟨w3.heap.size, 0, none⟩ = some (.slice A4 P1.length c4)) ∧ ∀ s : Later w4, s.val.cell? ⟨w3.heap.size, 1, none⟩ = some (.slice A5 P2.length c5) := ⟨s4.later rfl, s4.later rfl⟩
  refine wp_later_many_tail 4 [(2, Sp.val .nilIface), (3, Sp.val (.int .i64 0))] [2, 3] (by as_aux_lemma => kernel_rfl) (by as_aux_lemma => kernel_rfl) (by as_aux_lemma => kernel_rfl) ?_
  intro vv hv
  have e2 : vv 2 = .nilIface := hv 2 (by decide)
  have e3 : vv 3 = .int .i64 0 := hv 3 (by decide)
  simp only [List.take_succ_cons, List.take_zero, List.drop_succ_cons, List.drop_zero]
  refine many_pre 2 (by decide) ?_
  simp only [List.take_succ_cons, List.take_zero, List.drop_succ_cons, List.drop_zero]
  repeat (go_big_quiet_step (fail))
  refine wpQuiet_nil (many_wild (by decide) rfl ?_ ?_)
  · intro s _
    unfold Gives
    go_simp
    refine (wrap_nil _ _).mono ?_
    rintro e w5 ⟨rfl, rfl⟩
    exact ⟨_, rfl, rfl, Below.refl _ _⟩
  intro a' ha'
  subst ha'
  simp only [Act.put, List.setIfInBounds_toArray, List.set_cons_succ, List.set_cons_zero]
  rw [e2]
  refine many_wild (by decide) rfl ?_ ?_
  · intro s _
    unfold Gives
    go_simp
    refine (code_nil _).mono ?_
    rintro e w5 ⟨rfl, rfl⟩
    exact ⟨_, rfl, rfl, Below.refl _ _⟩
  intro a' ha'
  subst ha'
  simp only [Act.put, List.setIfInBounds_toArray, List.set_cons_succ, List.set_cons_zero]
  rw [e3]
  refine many_end ?_
  intro s _
  have hB5 := hB4.trans (s.below.mono hB4.size)
  have k5 := k4.below s.below k4.lt
  have x5 := x4.below s.below
  have y5 := y4.below s.below
  obtain ⟨j0, j1⟩ : s.val.cell? ⟨w.heap.size + 1, 0, none⟩ = some (.slice none 0 0) ∧ s.val.cell? ⟨w.heap.size + 1, 1, none⟩ = some (.slice none 0 0) := ⟨k5.cell 0, k5.cell 1⟩
  have fy := fun i => k5.frozen i
  go_wp2
  have hk8 : Kp (fun b => w.heap.size + 2 ≤ b) s.val ((s.val.setCell ⟨w.heap.size + 1, 0, none⟩ (.slice A4 P1.length c4)).setCell ⟨w.heap.size + 1, 1, none⟩ (.slice A5 P2.length c5)) :=
    ((Kp.refl _ _).setCell (fun _ h => by have : w.heap.size + 2 ≤ w.heap.size + 1 := h; omega) _).setCell (fun _ h => by have : w.heap.size + 2 ≤ w.heap.size + 1 := h; omega) _
  have kz2 := (k5.set_ 0 (.slice A4 P1.length c4)).set_ 1 (.slice A5 P2.length c5)
  obtain ⟨d0, d1⟩ := And.intro (kz2.cell 0) (kz2.cell 1)
  simp at d0 d1
  refine bodyPost_ret (v := .tuple #[.agg #[.slice A4 P1.length c4, .slice A5 P2.length c5], .int .i64 0]) (by simp [results, Tryd.results12, go_sem, d0, d1]) rfl ?_
  exact ⟨⟨_, _, rfl, (x5.kp hk8).mono (by decide) fun b h _ => by omega, (y5.kp hk8).mono (by decide) fun b h _ => by omega⟩, (hB5.setCell (by simp) _).setCell (by simp) _⟩

set_option maxRecDepth 100000 in
set_option maxHeartbeats 3200000 in
theorem rowsSpan_err {ok ok2 ok3 : Nat → Prop} (t : TabD) (a b f u : Value) (fr ut : List Val) (w : World) (hg : w.cell? ⟨0, 0, none⟩ = some (.iface 104 (.agg #[.pointer (some ⟨1, 65, none⟩)]))) (ht : TabR ok w a b t) (hf : RV ok2 w f fr) (hu : RV ok3 w u ut) (he : ¬ (encSpec fr).2 = 0 ∨ ¬ (encSpec ut).2 = 0) :
    Calls Tryd.prog 12 #[.agg (tabCs t a b), f, u] w fun e w' => e = .returned (.tuple #[.agg #[.slice none 0 0, .slice none 0 0], .int .i64 9]) ∧ Below w.heap.size w w' := by
  obtain ⟨Af, cf, rfl, _, _⟩ := hf.form
  obtain ⟨Au, cu, rfl, _, _⟩ := hu.form
  obtain ⟨Aa, ca, rfl, _, _⟩ := ht.cols.form
  obtain ⟨Ab, cb, rfl, _, _⟩ := ht.key.form
  have HI := Lib.hid ht.id
  have hlt0 := World.block_lt_of_cell? w _ hg
  go_enter Tryd.func12, Tryd.ntmps12
  unfold tabCs
  go_upto_region 1 with fail
  refine name_world (fun w1 => Below w.heap.size w w1 ∧ w.heap.size + 2 ≤ w1.heap.size ∧ w1.cell? ⟨w.heap.size, 0, none⟩ = some (.int .i64 t.id) ∧ Blk w1 (w.heap.size + 1) 43 #[.slice none 0 0, .slice none 0 0]) ⟨((Below.refl _ _).alloc (Nat.le_refl _) _).alloc (by simp) _, by simp, by simp, Blk.new_ (by simp)⟩ ?_
  rintro w1 ⟨hB1, hz1, h0, k1⟩
  go_wp2_with fail
  refine (head_any 114 t.id _ HI.out).mono ?_
  rintro e w2 ⟨⟨A2, c2, rfl, ho2⟩, hb2⟩
  have hB2 := hB1.trans (hb2.mono hB1.size)
  have k2 := k1.below hb2 k1.lt
  have r2 : RB (fun b => w1.heap.size ≤ b) w2 (.slice A2 10 c2) (headB 114 t.id) := ho2.rb (by omega)
  have hl := headB_length 114 t.id
  clear ho2 h0
  go_wp2_with fail
  have BT : Calls Tryd.prog 26 #[.slice A2 10 c2, .slice Af fr.length cf, .slice Au ut.length cu] w2 fun e w' => (∃ g, e = .returned (.tuple #[.agg #[.slice none 0 0, .slice none 0 0], .iface 83 (.pointer (some ⟨g, 0, none⟩))]) ∧ w'.cell? ⟨g, 1, none⟩ = some (.iface 44 (.int .i64 9))) ∧ Below w2.heap.size w2 w' := by
    by_cases ef : (encSpec fr).2 = 0
    · exact between_upto _ _ _ fr ut _ (hf.below hB2) (hu.below hB2) ef (he.resolve_left fun h => h ef)
    · exact between_from _ _ _ fr _ (hf.below hB2) ef
  refine BT.mono ?_
  rintro e w3 ⟨⟨g, rfl, hc3⟩, hb3⟩
  have hB3 := hB2.trans (hb3.mono hB2.size)
  have k3 := k2.below hb3 k2.lt
  clear BT
  go_upto_region 2 with fail
  refine name_world (fun w4 => Below w.heap.size w w4 ∧ w3.heap.size < w4.heap.size ∧ Blk w4 (w.heap.size + 1) 43 #[.slice none 0 0, .slice none 0 0] ∧ Blk w4 w3.heap.size 43 #[.slice none 0 0, .slice none 0 0] ∧ w4.cell? ⟨g, 1, none⟩ = some (.iface 44 (.int .i64 9)))
    ⟨hB3.alloc hB3.size _, by simp, k3.alloc _, Blk.new w3 _ _, alloc1 hc3 _⟩ ?_
  rintro w4 ⟨hB4, hz4, k4, s4, hc4⟩
  have hg4 : w4.cell? ⟨0, 0, none⟩ = some (.iface 104 (.agg #[.pointer (some ⟨1, 65, none⟩)])) := (hB4.cell (p := ⟨0, 0, none⟩) hlt0).trans hg
  obtain ⟨i0, i1⟩ : (∀ s : Later w4, s.val.cell? ⟨w3.heap.size, 0, none⟩ = some (.slice none 0 0)) ∧ ∀ s : Later w4, s.val.cell? ⟨w3.heap.size, 1, none⟩ = some (.slice none 0 0) := ⟨s4.later rfl, s4.later rfl⟩
  refine wp_later_many_tail 4 [(2, Sp.fault g 9), (3, Sp.val (.int .i64 9))] [2, 3] (by as_aux_lemma => kernel_rfl) (by as_aux_lemma => kernel_rfl) (by as_aux_lemma => kernel_rfl) ?_
  intro vv hv
  obtain ⟨g2, e2⟩ : ∃ g, vv 2 = .iface 83 (.pointer (some ⟨g, 0, none⟩)) := hv 2 (by decide)
  have e3 : vv 3 = .int .i64 9 := hv 3 (by decide)
  simp only [List.take_succ_cons, List.take_zero, List.drop_succ_cons, List.drop_zero]
  refine many_pre 2 (by decide) ?_
  simp only [List.take_succ_cons, List.take_zero, List.drop_succ_cons, List.drop_zero]
  repeat (go_big_quiet_step (fail))
  refine wpQuiet_nil (many_wild (by decide) rfl ?_ ?_)
  · intro s _
    unfold Gives
    go_simp
    refine (wrap_fault g _ _).mono ?_
    rintro e w5 ⟨rfl, rfl⟩
    exact ⟨_, rfl, ⟨_, rfl, by simp, alloc1 (Later.cell hc4 s) _⟩, (Below.refl _ _).alloc (Nat.le_refl _) _⟩
  intro a' ha'
  subst ha'
  simp only [Act.put, List.setIfInBounds_toArray, List.set_cons_succ, List.set_cons_zero]
  rw [e2]
  refine many_wild (by decide) rfl ?_ ?_
  · intro s hf'
    obtain ⟨g2', e2', f1, f2⟩ := hf' 2 (by decide) (by kernel_rfl)
    rw [e2] at e2'
    simp only [Value.iface.injEq, Value.pointer.injEq, Option.some.injEq, Addr.mk.injEq, true_and, and_true] at e2'
    subst e2'
    unfold Gives
    go_simp
    refine (code_fault g2 g 9 (.nilIface) (.nilIface) _ (Later.cell hg4 s) f1 f2).mono ?_
    rintro e w5 ⟨rfl, hb5⟩
    exact ⟨_, rfl, rfl, hb5⟩
  intro a' ha'
  subst ha'
  simp only [Act.put, List.setIfInBounds_toArray, List.set_cons_succ, List.set_cons_zero]
  rw [e3]
  refine many_end ?_
  intro s _
  have hB5 := hB4.trans (s.below.mono hB4.size)
  have k5 := k4.below s.below k4.lt
  obtain ⟨j0, j1⟩ : s.val.cell? ⟨w.heap.size + 1, 0, none⟩ = some (.slice none 0 0) ∧ s.val.cell? ⟨w.heap.size + 1, 1, none⟩ = some (.slice none 0 0) := ⟨k5.cell 0, k5.cell 1⟩
  have fy := fun i => k5.frozen i
  go_wp2
  have kz2 := (k5.set_ 0 (.slice none 0 0)).set_ 1 (.slice none 0 0)
  obtain ⟨d0, d1⟩ := And.intro (kz2.cell 0) (kz2.cell 1)
  simp at d0 d1
  refine bodyPost_ret (v := .tuple #[.agg #[.slice none 0 0, .slice none 0 0], .int .i64 9]) (by simp [results, Tryd.results12, go_sem, d0, d1]) rfl ?_
  exact ⟨rfl, (hB5.setCell (by simp) _).setCell (by simp) _⟩
end Go.Proofs.YthjicmdmhmffmaaDoor
