/- Contract: the document's Cut, as awake calls it. -/
import Derived.Test.YtikkknaofiafhaaS7
namespace Go.Proofs.Ytikkknaofiafhaa
open Go.RowKit

def kb2 : List UInt8 := [120, 1]
def rdM : RouteD := ⟨0, 1, [⟨2, [120]⟩], 2, [120, 1]⟩
set_option maxRecDepth 100000 in
set_option maxHeartbeats 6400000 in
theorem cut_any {ok ok2 : Nat → Prop} (a c k : Value) (w : World) (hr : RouteR ok w a c rd0) (hk : RB ok2 w k [120, 1]) :
    Calls Try.prog 66 #[.agg (routeCs rd0 a c), .int .i64 2, k] w fun e w' => (∃ a' c', e = .returned (.tuple #[.agg (routeCs rd1 a' c'), .int .i64 0]) ∧ RouteR (fun b => w.heap.size ≤ b) w' a' c' rd1) ∧ Below w.heap.size w w' := by
  obtain ⟨A, cc, rfl, hc, hbd⟩ := hr.s.form
  obtain ⟨A2, cc2, rfl, _, hbd2⟩ := hr.c.form
  obtain ⟨A3, c3, rfl, _, _⟩ := hk.form
  simp only [show rd0.s.length = 1 from rfl, show rd0.c.length = 0 from rfl, show ([120, 1] : List UInt8).length = 2 from rfl] at *
  go_enter Try.func66, Try.ntmps66
  go_upto_region 1 with fail
  refine name_world (fun w1 => Below w.heap.size w w1 ∧ w.heap.size + 2 ≤ w1.heap.size ∧ Blk w1 w.heap.size 42 (routeCs rd0 (.slice A 1 cc) (.slice A2 0 cc2)) ∧ Blk w1 (w.heap.size + 1) 42 (routeCs rdZ nl nl))
    ⟨((Below.refl _ _).alloc (Nat.le_refl _) _).alloc (by simp) _, by simp, (Blk.new w _ _).alloc _, Blk.new_ (by simp)⟩ ?_
  rintro w1 ⟨hB1, hz1, k1, k2⟩
  obtain ⟨r0, r1, r2, r3, r4⟩ := route_cells k1
  simp only [rd0] at r0 r1 r3
  go_wp2_with fail
  refine (refAt_any rd0 _ _ 2 _ (hr.below hB1)).mono ?_
  rintro e w2 ⟨rfl, hb2⟩
  rw [show atG rd0.s 2 0 = 0 from rfl]
  have hB2 := hB1.trans (hb2.mono hB1.size)
  have k12 := k1.below hb2 k1.lt
  have k22 := k2.below hb2 k2.lt
  clear r0 r1 r2 r3 r4 k1 k2
  obtain ⟨r0, r1, r2, r3, r4⟩ := route_cells k12
  simp only [rd0] at r0 r1 r3
  go_upto_region 6 with fail
  clear r0 r1 r2 r3 r4
  obtain ⟨r0, r1, r2, r3, r4⟩ := route_laters k12
  simp only [rd0] at r0 r1 r3
  obtain ⟨b1, off1, c1', cs1, hv1, _, ⟨a1, rfl, ha1, hg64⟩, hcell1⟩ := ((hr.below hB2).s).at_ (i := 0) (by decide)
  simp only [Value.slice.injEq, true_and] at hv1
  obtain ⟨rfl, hx1, rfl⟩ := hv1
  clear hx1
  have q1 := hcell1 1 _ rfl
  simp only [Nat.add_zero, Nat.zero_mul] at q1
  clear hcell1
  obtain ⟨A1, n1, rfl, _, _⟩ := ha1.form
  have l1 : ∀ s : Later w2, s.val.cell? ⟨b1, off1 + 1, none⟩ = some (.slice A1 1 n1) := Later.cell q1
  clear q1
  have f1 : RB ok w2 (.slice A1 1 n1) [120] := ha1
  have v1 : ∀ s : Later w2, (convert 27 9 (.slice A1 1 n1)).run Try.prog s.val = .ok (.string (str [120])) s.val := fun s => rb_str (f1.below s.below)
  have v2 : ∀ s : Later w2, (convert 27 9 (.slice A3 2 c3)).run Try.prog s.val = .ok (.string (str [120, 1])) s.val := fun s => rb_str (hk.below (hB2.trans (s.below.mono hB2.size)))
  have t1 : Op.bytesLess (str [120, 1]).toList (str [120]).toList = false := by rw [str_toList, str_toList]; decide
  have t2 : Op.bytesLess (str [120]).toList (str [120, 1]).toList = true := by rw [str_toList, str_toList]; decide
  have t3 : ((str [120, 1]).toList == (str [120]).toList) = false := by rw [str_toList, str_toList]; decide
  clear ha1
  refine wp_later_many [(1, Sp.val (.int .i64 2)), (18, Sp.span (fun _ => True) [120] [121]), (20, Sp.val (.bool true))] [1, 18, 20] (by as_aux_lemma => kernel_rfl) (by as_aux_lemma => kernel_rfl) ?_
  intro vv hv
  have e1 : vv 1 = .int .i64 2 := hv 1 (by decide)
  obtain ⟨A5, c5, A6, c6, e18⟩ : ∃ A c A2 c2, vv 18 = .agg #[.slice A 1 c, .slice A2 1 c2] := hv 18 (by decide)
  have e20 : vv 20 = .bool true := hv 20 (by decide)
  refine many_pre 1 (by decide) ?_
  simp only [List.take_succ_cons, List.take_zero, List.drop_succ_cons, List.drop_zero]
  repeat (go_big_quiet_step (fail))
  refine wpQuiet_nil (many_wild (by decide) rfl ?_ ?_)
  · intro s _
    unfold Gives
    go_simp
    exact ⟨rfl, Below.refl _ _⟩
  intro a' ha'
  subst ha'
  simp only [Act.put, List.setIfInBounds_toArray, List.set_cons_succ, List.set_cons_zero]
  rw [e1]
  refine many_pre 16 (by decide) ?_
  simp only [List.take_succ_cons, List.take_zero, List.drop_succ_cons, List.drop_zero]
  repeat (go_big_quiet_step (fail))
  refine wpQuiet_nil (many_wild (by decide) rfl ?_ ?_)
  · intro s _
    unfold Gives
    go_simp
    have hbs := hB2.trans (s.below.mono hB2.size)
    refine (span_any rd0 _ _ 0 (by decide) _ (hr.below hbs)).mono ?_
    rintro e w3 ⟨⟨fr, ut, rfl, h1, h2⟩, hb3⟩
    obtain ⟨Af, cf, rfl, _, _⟩ := h1.form
    obtain ⟨Au, cu, rfl, _, _⟩ := h2.form
    exact ⟨_, rfl, ⟨_, _, _, _, rfl, h1.mono (by decide) fun _ _ _ => trivial, h2.mono (by decide) fun _ _ _ => trivial⟩, hb3⟩
  intro a' ha'
  subst ha'
  simp only [Act.put, List.setIfInBounds_toArray, List.set_cons_succ, List.set_cons_zero]
  rw [e18]
  refine many_pre 1 (by decide) ?_
  simp only [List.take_succ_cons, List.take_zero, List.drop_succ_cons, List.drop_zero]
  repeat (go_big_quiet_step (fail))
  refine wpQuiet_nil (many_wild (by decide) rfl ?_ ?_)
  · intro s hf
    obtain ⟨_, _, _, _, e18', g1, g2⟩ : ∃ A c A2 c2, vv 18 = .agg #[.slice A 1 c, .slice A2 1 c2] ∧ RB (fun _ => True) s.val (.slice A 1 c) [120] ∧ RB (fun _ => True) s.val (.slice A2 1 c2) [121] := hf 18 (by decide) (by kernel_rfl)
    rw [e18] at e18'
    simp only [Value.agg.injEq, Array.mk.injEq, List.cons.injEq, Value.slice.injEq, true_and, and_true] at e18'
    obtain ⟨⟨rfl, rfl⟩, rfl, rfl⟩ := e18'
    unfold Gives
    go_simp
    refine (within_any _ _ _ [120] [121] [120, 1] _ g1 g2 (hk.below (hB2.trans (s.below.mono hB2.size)))).mono ?_
    rintro e w3 ⟨rfl, hb3⟩
    exact ⟨_, rfl, rfl, hb3⟩
  intro a' ha'
  subst ha'
  simp only [Act.put, List.setIfInBounds_toArray, List.set_cons_succ, List.set_cons_zero]
  rw [e20]
  refine many_pre 3 (by decide) ?_
  simp only [List.take_succ_cons, List.take_zero, List.drop_succ_cons, List.drop_zero]
  repeat (go_big_quiet_step (fail))
  refine wpQuiet_nil (many_end ?_)
  intro s _
  have hB3 := hB2.trans (s.below.mono hB2.size)
  have k13 := k12.below s.below k12.lt
  have k23 := k22.below s.below k22.lt
  clear e1 e18 e20 hv l1 v1 v2 t1 t2 t3 r0 r1 r2 r3 r4 k12 k22 f1
  obtain ⟨r0, r1, r2, r3, r4⟩ := route_cells k13
  simp only [rd0] at r0 r1 r3
  go_wp2_with fail
  refine (copied_any rd0 _ _ _ (hr.below hB3)).mono ?_
  rintro e w4 ⟨⟨a4, x4, rfl, hr4⟩, hb4⟩
  obtain ⟨B1, d1, rfl, _, _⟩ := hr4.s.form
  obtain ⟨B2, d2, rfl, _, _⟩ := hr4.c.form
  simp only [show rd0.s.length = 1 from rfl, show rd0.c.length = 0 from rfl] at *
  have hB4 := hB3.trans (hb4.mono hB3.size)
  have k24 := k23.below hb4 k23.lt
  have hz34 : s.val.heap.size ≤ w4.heap.size := hb4.size
  have hz3 : w.heap.size + 2 ≤ s.val.heap.size := k23.lt
  clear r0 r1 r2 r3 r4 k13 k23
  unfold routeCs
  go_upto_region 9 with fail
  refine name_world (fun w5 => Below w.heap.size w w5 ∧ w4.heap.size < w5.heap.size ∧ Blk w5 (w.heap.size + 1) 42 (routeCs rdZ nl nl) ∧ Blk w5 w4.heap.size 42 (routeCs rd0 (.slice B1 1 d1) (.slice B2 0 d2)) ∧ RouteR (fun b => w.heap.size + 2 ≤ b ∧ b ≠ w4.heap.size) w5 (.slice B1 1 d1) (.slice B2 0 d2) rd0)
    ⟨hB4.alloc hB4.size _, by simp, k24.alloc _, Blk.new_ rfl, ?_⟩ ?_
  · exact (hr4.mono fun b h hlt => ⟨by omega, by omega⟩).below ((Below.refl _ _).alloc (Nat.le_refl _) _)
  rintro w5 ⟨hB5, hz5, k25, k5, hr5⟩
  go_wp2_with fail
  refine (copy_rb _ [120, 1] _ (hk.below hB5)).mono ?_
  rintro e w6 ⟨⟨y, rfl, hy⟩, hb6⟩
  obtain ⟨B3, d3, rfl, _, _⟩ := hy.form
  simp only [show ([120, 1] : List UInt8).length = 2 from rfl] at *
  have hB6 := hB5.trans (hb6.mono hB5.size)
  have k6 := k5.below hb6 k5.lt
  have k26 := k25.below hb6 k25.lt
  have hr6 := hr5.below hb6
  have hy6 := hy.mono (ok' := fun b => w.heap.size + 2 ≤ b ∧ b ≠ w4.heap.size) (by decide) fun b h _ => ⟨by omega, by omega⟩
  obtain ⟨r0, r1, r2, r3, r4⟩ := route_cells k6
  simp only [rd0] at r0 r1 r3
  have fz := fun i => k6.frozen i
  clear k5 k25 hr5 hy
  go_upto_region 11 with fail
  have hkp : Kp (fun b => w.heap.size + 2 ≤ b ∧ b ≠ w4.heap.size) w6 (((w6.setCell ⟨w4.heap.size, 3, none⟩ (.int .i64 2)).setCell ⟨w4.heap.size, 4, none⟩ (.slice B3 2 d3)).setCell ⟨w4.heap.size, 0, none⟩ (.int .i64 1)) :=
    (((Kp.refl _ _).setCell (fun _ h => h.2 rfl) _).setCell (fun _ h => h.2 rfl) _).setCell (fun _ h => h.2 rfl) _
  refine name_world (fun w7 => Below w.heap.size w w7 ∧ Blk w7 (w.heap.size + 1) 42 (routeCs rdZ nl nl) ∧ Blk w7 w4.heap.size 42 (routeCs rd1 (.slice B1 1 d1) (.slice B3 2 d3)) ∧ RSl rOwner (fun b => w.heap.size + 2 ≤ b) w7 (.slice B1 1 d1) rd1.s ∧ RB (fun b => w.heap.size + 2 ≤ b) w7 (.slice B3 2 d3) [120, 1])
    ⟨((hB6.setCell (by simp; omega) _).setCell (by simp; omega) _).setCell (by simp; omega) _, ((k26.far (by simp; omega) _).far (by simp; omega) _).far (by simp; omega) _, ?_, (hr6.s.kp hkp).mono (by decide) fun b h _ => h.1, (hy6.kp hkp).mono (by decide) fun b h _ => h.1⟩ ?_
  · have := ((k6.set_ 3 (.int .i64 2)).set_ 4 (.slice B3 2 d3)).set_ 0 (.int .i64 1)
    simpa [routeCs, rd0, rd1] using this
  rintro w7 ⟨hB7, k27, k7, o7, y7⟩
  refine wp_region_list ?_
  refine wpList_loadB rfl rfl rfl k7 Try.underlying42 rfl Try.infoRoutes ?_
  refine wpList_storeB rfl rfl (routeCs rd1 (.slice B1 1 d1) (.slice B3 2 d3)) rfl rfl k27 rfl Try.infoRoutes routeCs_one ?_
  intro k8
  have lv := route_res k8
  have hk8 := Kp.setCells (ok := fun b => w.heap.size + 2 ≤ b) (a := w7) (b := w.heap.size + 1) (fun _ h => by have : w.heap.size + 2 ≤ w.heap.size + 1 := h; omega) (routeCs rd1 (.slice B1 1 d1) (.slice B3 2 d3)).toList 0 (Kp.refl _ _)
  go_wp2
  refine bodyPost_ret (v := .tuple #[.agg (routeCs rd1 (.slice B1 1 d1) (.slice B3 2 d3)), .int .i64 0]) ?_ rfl ⟨⟨_, _, rfl, (o7.kp hk8).mono (by decide) fun b h _ => by omega, (y7.kp hk8).mono (by decide) fun b h _ => by omega, ⟨by decide, by decide⟩, ⟨by decide, by decide⟩, ⟨by decide, by decide⟩⟩, below_setCells (by omega) _ _ hB7⟩
  simp [results, Try.results66, Act.put, Sem.run_bind, Sem.run_pure, asAddr_ok, lv]
end Go.Proofs.Ytikkknaofiafhaa
