/- Contract: (*Job).Next, as awake calls it. -/
import Derived.Test.YtikkknaofiafhaaS9
import Derived.Test.YtikkknaofiafhaaJob
namespace Go.Proofs.Ytikkknaofiafhaa
open Go.RowKit

theorem next3 : nextG rd1.s rd1.b 1 (min (2 : Int) 4).toNat = 3 := by decide

set_option maxRecDepth 100000 in
set_option maxHeartbeats 6400000 in
theorem jobNext_awake {ok : Nat → Prop} (a c : Value) (g : Nat) (w : World) (hr : RouteR ok w a c rd1) (hok : ∀ b, ok b → b ≠ g) (hk : Blk w g 129 (jobCs 0 false 0 zC nl)) :
    Calls Try.prog 32 #[.pointer (some ⟨g, 0, none⟩), .agg (routeCs rd1 a c), .int .i64 2] w fun e w' => (∃ key fr ut ps, e = .returned (.tuple #[.int .i64 2, .agg (cmdCs 5 0 false key fr ut ps), .bool true]) ∧ CmdR (fun b => b ≠ g) w' key fr ut ps ⟨5, 0, false, [120, 1], [], [], []⟩) ∧ Kp (fun b => b ≠ g) w w' := by
  obtain ⟨A, cc, rfl, hc, hbd⟩ := hr.s.form
  obtain ⟨A2, cc2, rfl, _, hbd2⟩ := hr.c.form
  have hgl := hk.lt
  simp only [show rd1.s.length = 1 from rfl, show rd1.c.length = 2 from rfl] at *
  go_enter Try.func32, Try.ntmps32
  go_upto_region 1 with fail
  refine name_world (fun w1 => Below w.heap.size w w1 ∧ w.heap.size + 2 ≤ w1.heap.size ∧ Blk w1 w.heap.size 42 (routeCs rd1 (.slice A 1 cc) (.slice A2 2 cc2)) ∧ Blk w1 (w.heap.size + 1) 60 zC)
    ⟨((Below.refl _ _).alloc (Nat.le_refl _) _).alloc (by simp) _, by simp, (Blk.new w _ _).alloc _, Blk.new_ (by simp)⟩ ?_
  rintro w1 ⟨hB1, hz1, k1, k2⟩
  have kg := hk.below hB1 hgl
  have hr1 := hr.below hB1
  obtain ⟨j0, j1, j2⟩ := job0 0 false 0 zC nl
  have p1 : w1.cell? ⟨g, 1, none⟩ = some (.bool false) := (kg.cell 1).trans j1
  obtain ⟨r0, r1, r2, r3, r4⟩ := route_cells k1
  simp only [rd1] at r0 r1 r3
  go_wp2_with fail
  refine (routeNext_any rd1 _ _ 2 _ hr1 (by decide)).mono ?_
  rw [next3]
  rintro e w2 ⟨rfl, hb2⟩
  have hB2 := hB1.trans (hb2.mono hB1.size)
  have hz2 : w.heap.size + 2 ≤ w2.heap.size := Nat.le_trans hz1 hb2.size
  have k12 := k1.below hb2 k1.lt
  have k22 := k2.below hb2 k2.lt
  have kg2 := kg.below hb2 kg.lt
  have hr2 := hr1.below hb2
  have fz := fun i => kg2.frozen i
  have p1' : w2.cell? ⟨g, 1, none⟩ = some (.bool false) := (kg2.cell 1).trans j1
  clear r0 r1 r2 r3 r4 p1 k1 k2 kg hr1
  obtain ⟨r0, r1, r2, r3, r4⟩ := route_cells k12
  simp only [rd1] at r0 r1 r3
  go_upto_region 9 with fail
  have hne0 : w.heap.size ≠ g := by omega
  have hne1 : w.heap.size + 1 ≠ g := by omega
  refine name_world (fun w3 => Kp (fun b => b ≠ g) w w3 ∧ w.heap.size + 2 ≤ w3.heap.size ∧ Blk w3 w.heap.size 42 (routeCs rd1 (.slice A 1 cc) (.slice A2 2 cc2)) ∧ Blk w3 (w.heap.size + 1) 60 zC ∧ Blk w3 g 129 (jobCs 0 true 0 zC nl) ∧ RouteR ok w3 (.slice A 1 cc) (.slice A2 2 cc2) rd1)
    ⟨(Kp.of_below hB2).setCell (fun _ h => h rfl) _, by simp; omega, k12.far hne0 _, k22.far hne1 _, ?_, hr2.kp ((Kp.refl _ _).setCell (fun _ h => hok _ h rfl) _)⟩ ?_
  · have := kg2.set_ 1 (.bool true)
    rwa [job_set1] at this
  clear r0 r1 r2 r3 r4 p1' fz k12 k22 kg2 hr2
  rintro w3 ⟨hK3, hz3, k13, k23, kg3, hr3⟩
  obtain ⟨r0, r1, r2, r3, r4⟩ := route_cells k13
  simp only [rd1] at r0 r1 r3
  refine wp_region_split 14 ?_
  simp only [List.take_succ_cons, List.take_zero, List.drop_succ_cons, List.drop_zero]
  go_wp2_with fail
  refine (next0_any rd1 _ _ 3 g true 0 zC nl _ hr3 kg3).mono ?_
  rintro e w4 ⟨⟨key, fr, ut, ps, rfl, hc4⟩, hb4⟩
  obtain ⟨A5, c5, rfl, _⟩ := hc4.key.form
  obtain ⟨A6, c6, rfl, _⟩ := hc4.fr.form
  obtain ⟨A7, c7, rfl, _⟩ := hc4.upto.form
  obtain ⟨A8, c8, rfl, _⟩ := hc4.pairs.form
  simp only [show rd1.m = 2 from rfl, show rd1.c.length = 2 from rfl, show ([] : List UInt8).length = 0 from rfl, show ([] : List PairD).length = 0 from rfl] at *
  have hK4 := hK3.trans (Kp.of_below hb4 |>.mono (ok' := fun b => b ≠ g) fun _ _ => trivial)
  have hz4 : w3.heap.size ≤ w4.heap.size := hb4.size
  have k14 := k13.below hb4 k13.lt
  have k24 := k23.below hb4 k23.lt
  have kg4 := kg3.below hb4 kg3.lt
  have fz := fun i => kg4.frozen i
  obtain ⟨_, _, j2'⟩ := job0 0 true 0 zC nl
  have p2 : w4.cell? ⟨g, 2, none⟩ = some (.int .i64 0) := (kg4.cell 2).trans j2'
  clear r0 r1 r2 r3 r4 k13 k23 kg3 hr3
  go_wp2
  show wpList _ _ _ _ _ _
  have kg5 := kg4.set_ 2 (.int .i64 2)
  rw [job_set2] at kg5
  refine wpList_storeC rfl rfl (cmdCs 5 0 false (.slice A5 2 c5) (.slice A6 0 c6) (.slice A7 0 c7) (.slice A8 0 c8)) rfl rfl kg5 rfl rfl Try.infoCmd (cmdCs_one rfl rfl rfl rfl) ?_ rfl
  intro kg6
  have hkp : Kp (fun b => b ≠ g) w4 ((w4.setCell ⟨g, 2, none⟩ (.int .i64 2)).setCells g 3 (cmdCs 5 0 false (.slice A5 2 c5) (.slice A6 0 c6) (.slice A7 0 c7) (.slice A8 0 c8)).toList) := Kp.setCells (fun _ h => h rfl) _ _ ((Kp.refl _ _).setCell (fun _ h => h rfl) _)
  have k25 := far_setCells hne1 (cmdCs 5 0 false (.slice A5 2 c5) (.slice A6 0 c6) (.slice A7 0 c7) (.slice A8 0 c8)).toList 3 (k24.far (p := ⟨g, 2, none⟩) hne1 (.int .i64 2))
  have hc6 := (hc4.mono (ok' := fun b => b ≠ g) fun b h _ => by have : w3.heap.size ≤ b := h; omega).kp hkp
  have hK6 := hK4.trans hkp
  clear fz p2 k14 k24 kg4 kg5 hc4
  go_upto_region 10 with fail
  refine name_world (fun w6 => Kp (fun b => b ≠ g) w w6 ∧ w.heap.size + 2 ≤ w6.heap.size ∧ Blk w6 (w.heap.size + 1) 60 zC ∧ Blk w6 g 129 (jobCs 0 true 2 (cmdCs 5 0 false (.slice A5 2 c5) (.slice A6 0 c6) (.slice A7 0 c7) (.slice A8 0 c8)) nl) ∧ CmdR (fun b => b ≠ g) w6 (.slice A5 2 c5) (.slice A6 0 c6) (.slice A7 0 c7) (.slice A8 0 c8) ⟨5, 0, false, [120, 1], [], [], []⟩)
    ⟨hK6, by simp; omega, k25, kg6, hc6⟩ ?_
  clear hK6 k25 kg6 hc6 hkp
  rintro w6 ⟨hK6, hz6, k26, kg6, hc6⟩
  have l2 : ∀ s : Later w6, s.val.cell? ⟨g, 2, none⟩ = some (.int .i64 2) := fun s => ((kg6.below s.below kg6.lt).cell 2).trans (job0 _ _ _ _ _).2.2
  refine wp_later_many_tail 9 [(1, Sp.val (.pointer (some ⟨g, 0, none⟩))), (5, Sp.val (.pointer (some ⟨g, 0, none⟩))), (7, Sp.val (.agg (cmdCs 5 0 false (.slice A5 2 c5) (.slice A6 0 c6) (.slice A7 0 c7) (.slice A8 0 c8)))), (8, Sp.cmd (fun b => b ≠ g ∧ b ≠ w.heap.size + 1) 5 0 false ⟨5, 0, false, [120, 1], [], [], []⟩)] [1, 5, 7, 8] (by as_aux_lemma => kernel_rfl) (by as_aux_lemma => kernel_rfl) (by as_aux_lemma => kernel_rfl) ?_
  intro vv hv
  have e1 : vv 1 = .pointer (some ⟨g, 0, none⟩) := hv 1 (by decide)
  have e5 : vv 5 = .pointer (some ⟨g, 0, none⟩) := hv 5 (by decide)
  have e7 : vv 7 = .agg (cmdCs 5 0 false (.slice A5 2 c5) (.slice A6 0 c6) (.slice A7 0 c7) (.slice A8 0 c8)) := hv 7 (by decide)
  obtain ⟨B1, d1, B2, d2, B3, d3, B4, d4, e8⟩ : ∃ A1 c1 A2 c2 A3 c3 A4 c4, vv 8 = .agg (cmdCs 5 0 false (.slice A1 2 c1) (.slice A2 0 c2) (.slice A3 0 c3) (.slice A4 0 c4)) := hv 8 (by decide)
  simp only [List.take_succ_cons, List.take_zero, List.drop_succ_cons, List.drop_zero]
  refine many_pre 1 (by decide) ?_
  simp only [List.take_succ_cons, List.take_zero, List.drop_succ_cons, List.drop_zero]
  repeat (go_big_quiet_step (fail))
  refine wpQuiet_nil (many_wild (by decide) rfl ?_ ?_)
  · intro s _
    unfold Gives
    go_simp
    exact ⟨rfl, Below.refl _ _⟩
  intro a' ha'
  subst ha'
  simp only [Act.put, List.setIfInBounds_toArray, List.set_cons_succ, List.set_cons_zero]
  rw [e1]
  refine many_pre 3 (by decide) ?_
  simp only [List.take_succ_cons, List.take_zero, List.drop_succ_cons, List.drop_zero]
  repeat (go_big_quiet_step (fail))
  refine wpQuiet_nil (many_wild (by decide) rfl ?_ ?_)
  · intro s _
    unfold Gives
    go_simp
    exact ⟨rfl, Below.refl _ _⟩
  intro a' ha'
  subst ha'
  simp only [Act.put, List.setIfInBounds_toArray, List.set_cons_succ, List.set_cons_zero]
  rw [e5]
  refine many_pre 1 (by decide) ?_
  simp only [List.take_succ_cons, List.take_zero, List.drop_succ_cons, List.drop_zero]
  repeat (go_big_quiet_step (fail))
  refine wpQuiet_nil (many_wild (by decide) rfl ?_ ?_)
  · intro s _
    exact gives_loadC rfl rfl (kg6.below s.below kg6.lt) Try.underlying60 rfl Try.infoCmd ⟨rfl, Below.refl _ _⟩
  intro a' ha'
  subst ha'
  simp only [Act.put, List.setIfInBounds_toArray, List.set_cons_succ, List.set_cons_zero]
  rw [e7]
  refine many_wild (by decide) rfl ?_ ?_
  · intro s _
    unfold Gives
    go_simp
    refine (own_any (ok := fun b => b ≠ g) (.slice A5 2 c5) (.slice A6 0 c6) (.slice A7 0 c7) (.slice A8 0 c8) ⟨5, 0, false, [120, 1], [], [], []⟩ _ (hc6.below s.below)).mono ?_
    rintro e w7 ⟨⟨key, fr, ut, ps, rfl, hc7⟩, hb7⟩
    obtain ⟨_, _, rfl, _⟩ := hc7.key.form
    obtain ⟨_, _, rfl, _⟩ := hc7.fr.form
    obtain ⟨_, _, rfl, _⟩ := hc7.upto.form
    obtain ⟨_, _, rfl, _⟩ := hc7.pairs.form
    have hzs : w6.heap.size ≤ s.val.heap.size := s.below.size
    exact ⟨_, rfl, ⟨_, _, _, _, _, _, _, _, rfl, hc7.mono fun b hb _ => ⟨by have : s.val.heap.size ≤ b := hb; omega, by have : s.val.heap.size ≤ b := hb; omega⟩⟩, hb7⟩
  intro a' ha'
  subst ha'
  simp only [Act.put, List.setIfInBounds_toArray, List.set_cons_succ, List.set_cons_zero]
  rw [e8]
  refine many_end ?_
  intro s hf
  obtain ⟨_, _, _, _, _, _, _, _, e8', hcm⟩ : ∃ A1 c1 A2 c2 A3 c3 A4 c4, vv 8 = .agg (cmdCs 5 0 false (.slice A1 2 c1) (.slice A2 0 c2) (.slice A3 0 c3) (.slice A4 0 c4)) ∧ CmdR (fun b => b ≠ g ∧ b ≠ w.heap.size + 1) s.val (.slice A1 2 c1) (.slice A2 0 c2) (.slice A3 0 c3) (.slice A4 0 c4) ⟨5, 0, false, [120, 1], [], [], []⟩ := hf 8 (by decide)
  rw [e8] at e8'
  simp only [cmdCs, Value.agg.injEq, Array.mk.injEq, List.cons.injEq, Value.slice.injEq, true_and, and_true] at e8'
  obtain ⟨⟨rfl, rfl⟩, ⟨rfl, rfl⟩, ⟨rfl, rfl⟩, rfl, rfl⟩ := e8'
  have hK7 := hK6.trans ((Kp.of_below s.below).mono (ok' := fun b => b ≠ g) fun _ _ => trivial)
  have k7 := k26.below s.below k26.lt
  clear e1 e5 e7 e8 hv hf l2
  refine wpList_split 1 ?_
  simp only [List.take_succ_cons, List.take_zero, List.drop_succ_cons, List.drop_zero]
  go_wp2
  show wpList _ _ _ _ _ _
  refine wpList_storeB rfl rfl (cmdCs 5 0 false (.slice B1 2 d1) (.slice B2 0 d2) (.slice B3 0 d3) (.slice B4 0 d4)) rfl rfl k7 rfl Try.infoCmd (cmdCs_one rfl rfl rfl rfl) ?_
  intro k8
  have lv := k8.loadVar (P := Try.prog) Try.underlying60 rfl Try.infoCmd
  have hk8 := Kp.setCells (ok := fun b => b ≠ g ∧ b ≠ w.heap.size + 1) (a := s.val) (b := w.heap.size + 1) (fun _ h => h.2 rfl) (cmdCs 5 0 false (.slice B1 2 d1) (.slice B2 0 d2) (.slice B3 0 d3) (.slice B4 0 d4)).toList 0 (Kp.refl _ _)
  have hk9 := Kp.setCells (ok := fun b => b ≠ g) (a := w) (b := w.heap.size + 1) (fun h => by omega) (cmdCs 5 0 false (.slice B1 2 d1) (.slice B2 0 d2) (.slice B3 0 d3) (.slice B4 0 d4)).toList 0 hK7
  go_wp2
  refine bodyPost_ret (v := .tuple #[.int .i64 2, .agg (cmdCs 5 0 false (.slice B1 2 d1) (.slice B2 0 d2) (.slice B3 0 d3) (.slice B4 0 d4)), .bool true]) ?_ rfl ⟨⟨_, _, _, _, rfl, (hcm.kp hk8).mono fun b h _ => h.1⟩, hk9⟩
  simp [results, Try.results32, Act.put, Sem.run_bind, Sem.run_pure, asAddr_ok, lv]
end Go.Proofs.Ytikkknaofiafhaa
