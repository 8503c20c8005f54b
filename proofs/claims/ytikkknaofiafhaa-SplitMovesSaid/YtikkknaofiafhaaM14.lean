/- Contracts: ref14's New at any spare, Cut at any key. -/
import Derived.Test.YtikkknaofiafhaaM13
namespace Go.Proofs.Ytikkknaofiafhaa
open Go.RowKit

set_option maxRecDepth 100000 in
set_option maxHeartbeats 3200000 in
theorem refNewS_any (s : Int) (h1 : 1 ≤ s) (h4 : s ≤ 4) (w : World) :
    Calls Try.prog 65 #[.int .i64 1, .int .i64 s] w fun e w' => (∃ a c, e = .returned (.tuple #[.agg (routeCs rd0 a c), .int .i64 0]) ∧ RouteR (fun b => w.heap.size ≤ b) w' a c rd0) ∧ Below w.heap.size w w' := by
  have t1 : decide (s < 1) = false := decide_eq_false (by omega)
  have t2 : decide (4 < s) = false := decide_eq_false (by omega)
  have t1' : decide (s ≤ 0) = false := decide_eq_false (by omega)
  clear h1 h4
  go_enter Try.func65, Try.ntmps65
  go_wp2
  refine name_post (fun w1 => Below w.heap.size w w1 ∧ Blk w1 w.heap.size 42 (routeCs rd0 (.slice (some ⟨w.heap.size + 1 + 1, 0, none⟩) 1 1) (.slice none 0 0)) ∧ RSl rOwner (fun b => w.heap.size ≤ b) w1 (.slice (some ⟨w.heap.size + 1 + 1, 0, none⟩) 1 1) rd0.s)
    ⟨(((Below.refl _ _).alloc (Nat.le_refl _) _).alloc (by simp) _).alloc (by simp; omega) _, ((Blk.new w _ _).alloc _).alloc _, ?_⟩ ?_
  · have h1 := RSl.one_new (ok := fun b => w.heap.size ≤ b) (E := rU8) (w := w.alloc (.cells (routeCs rd0 (.slice (some ⟨w.heap.size + 1 + 1, 0, none⟩) 1 1) (.slice none 0 0)) 42)) (cs := #[.int .u8 120]) (d := 120) 5 rfl (by simp) (by decide)
    have h2 := RSl.one_new (ok := fun b => w.heap.size ≤ b) (E := rOwner) (w := (w.alloc (.cells (routeCs rd0 (.slice (some ⟨w.heap.size + 1 + 1, 0, none⟩) 1 1) (.slice none 0 0)) 42)).alloc (.cells #[.int .u8 120] 5)) (cs := #[.int .i64 2, .slice (some ⟨w.heap.size + 1, 0, none⟩) 1 1]) (d := ⟨2, [120]⟩) 104 ⟨_, rfl, by simpa using h1, ⟨by decide, by decide⟩⟩ (by simp; omega) (by decide)
    simpa [routeCs, rd0] using h2
  rintro w1 ⟨hb1, kb, ho⟩
  have lv := route_res kb
  refine bodyPost_ret (v := .tuple #[.agg (routeCs rd0 (.slice (some ⟨w.heap.size + 1 + 1, 0, none⟩) 1 1) (.slice none 0 0)), .int .i64 0]) ?_ rfl ⟨⟨_, _, rfl, ho, RSl.nil_ _ _ _, ⟨by decide, by decide⟩, ⟨by decide, by decide⟩, ⟨by decide, by decide⟩⟩, hb1⟩
  simp [results, Try.results65, Sem.run_bind, Sem.run_pure, asAddr_ok, lv]

def rdc (k : List UInt8) : RouteD := ⟨1, 1, [⟨2, [120]⟩], 2, k⟩
def cutE (k : List UInt8) : Int := if 600 < k.length then 1 else if (Op.bytesLess k [120] || k == [120]) = true then 1 else if withinB [120] [121] k = false then 1 else 0
def CutPost (k : List UInt8) (a c : Value) (E : Int) (w : World) (e : Ending) (w' : World) : Prop :=
  ((E = 0 ∧ ∃ a' c', e = .returned (.tuple #[.agg (routeCs (rdc k) a' c'), .int .i64 0]) ∧ RouteR (fun b => w.heap.size ≤ b) w' a' c' (rdc k)) ∨ (E = 1 ∧ e = .returned (.tuple #[.agg (routeCs rd0 a c), .int .i64 1]))) ∧ Below w.heap.size w w'
set_option maxRecDepth 100000 in
set_option maxHeartbeats 12800000 in
theorem cutK_any {ok ok2 : Nat → Prop} (a c kv : Value) (k : List UInt8) (w : World) (hr : RouteR ok w a c rd0) (hk : RB ok2 w kv k) :
    Calls Try.prog 66 #[.agg (routeCs rd0 a c), .int .i64 2, kv] w (CutPost k a c (cutE k) w) := by
  obtain ⟨A, cc, rfl, hc, hbd⟩ := hr.s.form
  obtain ⟨A2, cc2, rfl, _, hbd2⟩ := hr.c.form
  obtain ⟨A3, c3, rfl, _, _⟩ := hk.form
  simp only [show rd0.s.length = 1 from rfl, show rd0.c.length = 0 from rfl] at *
  go_enter Try.func66, Try.ntmps66
  go_upto_region 1 with fail
  refine name_world (fun w1 => Below w.heap.size w w1 ∧ w.heap.size + 2 ≤ w1.heap.size ∧ Blk w1 w.heap.size 42 (routeCs rd0 (.slice A 1 cc) (.slice A2 0 cc2)) ∧ Blk w1 (w.heap.size + 1) 42 (routeCs rdZ nl nl))
    ⟨((Below.refl _ _).alloc (Nat.le_refl _) _).alloc (by simp) _, by simp, (Blk.new w _ _).alloc _, Blk.new_ (by simp)⟩ ?_
  rintro w1 ⟨hB1, hz1, k1, k2⟩
  obtain ⟨r0, r1, r2, r3, r4⟩ := route_cells k1
  simp only [rd0] at r0 r1 r3
  go_wp2_with fail
  refine (refAt_any rd0 _ _ 2 _ (hr.below hB1)).mono ?_
  rintro e w2 ⟨rfl, hb2⟩
  rw [show atG rd0.s 2 0 = 0 from rfl]
  have hB2 := hB1.trans (hb2.mono hB1.size)
  have k12 := k1.below hb2 k1.lt
  have k22 := k2.below hb2 k2.lt
  clear r0 r1 r2 r3 r4 k1 k2
  obtain ⟨r0, r1, r2, r3, r4⟩ := route_cells k12
  simp only [rd0] at r0 r1 r3
  go_upto_region 6 with fail
  clear r0 r1 r2 r3 r4
  obtain ⟨r0, r1, r2, r3, r4⟩ := route_laters k12
  simp only [rd0] at r0 r1 r3
  obtain ⟨b1, off1, c1', cs1, hv1, _, ⟨a1, rfl, ha1, hg64⟩, hcell1⟩ := ((hr.below hB2).s).at_ (i := 0) (by decide)
  simp only [Value.slice.injEq, true_and] at hv1
  obtain ⟨rfl, hx1, rfl⟩ := hv1
  clear hx1
  have q1 := hcell1 1 _ rfl
  simp only [Nat.add_zero, Nat.zero_mul] at q1
  clear hcell1
  obtain ⟨A1, n1, rfl, _, _⟩ := ha1.form
  have l1 : ∀ s : Later w2, s.val.cell? ⟨b1, off1 + 1, none⟩ = some (.slice A1 1 n1) := Later.cell q1
  clear q1
  have f1 : RB ok w2 (.slice A1 1 n1) [120] := ha1
  have v1 : ∀ s : Later w2, (convert 27 9 (.slice A1 1 n1)).run Try.prog s.val = .ok (.string (str [120])) s.val := fun s => rb_str (f1.below s.below)
  have v2 : ∀ s : Later w2, (convert 27 9 (.slice A3 k.length c3)).run Try.prog s.val = .ok (.string (str k)) s.val := fun s => rb_str (hk.below (hB2.trans (s.below.mono hB2.size)))
  clear ha1
  have hz2 : w.heap.size + 2 ≤ w2.heap.size := k22.lt
  by_cases hlen : 600 < k.length
  · have tl : decide (600 < k.length) = true := decide_eq_true hlen
    have tl' : decide ((600 : Int) < (k.length : Int)) = true := decide_eq_true (by omega)
    refine wp_seqL [18, 20] (by as_aux_lemma => kernel_rfl) (by as_aux_lemma => kernel_rfl) fun w3 hb3 => ?_
    refine seqL_pre 18 (by kernel_rfl) ?_
    simp only [List.take_succ_cons, List.take_zero, List.drop_succ_cons, List.drop_zero]
    repeat (go_big_quiet_step (fail))
    refine wpQuiet_nil ?_
    refine seqL_skip rfl ?_
    simp only [Act.put, List.setIfInBounds_toArray, List.set_cons_succ, List.set_cons_zero]
    refine seqL_pre 1 (by kernel_rfl) ?_
    simp only [List.take_succ_cons, List.take_zero, List.drop_succ_cons, List.drop_zero]
    repeat (go_big_quiet_step (fail))
    refine wpQuiet_nil ?_
    refine seqL_skip rfl ?_
    simp only [Act.put, List.setIfInBounds_toArray, List.set_cons_succ, List.set_cons_zero]
    refine seqL_pre 3 (by kernel_rfl) ?_
    simp only [List.take_succ_cons, List.take_zero, List.drop_succ_cons, List.drop_zero]
    repeat (go_big_quiet_step (fail))
    refine wpQuiet_nil ?_
    refine seqL_nil ?_
    have hB3 := hB2.trans (hb3.mono hB2.size)
    have k13 := k12.below hb3 k12.lt
    have k23 := k22.below hb3 k22.lt
    clear l1 v1 v2 r0 r1 r2 r3 r4 tl tl'
    have HE : Hid (cutE k = 1) := by
      have : cutE k = 1 := by
        unfold cutE
        rw [if_pos hlen]
      exact Lib.hid this
    go_upto_region 7 with fail
    refine wp_region_split 1 ?_
    simp only [List.take_succ_cons, List.take_zero, List.drop_succ_cons, List.drop_zero]
    refine wpList_loadB rfl rfl rfl k13 Try.underlying42 rfl Try.infoRoutes ?_
    simp only [Act.put, List.setIfInBounds_toArray, List.set_cons_succ, List.set_cons_zero]
    go_wp2
    show wpList _ _ _ _ _ _
    refine wpList_storeB rfl rfl (routeCs rd0 (.slice (some ⟨b1, off1, none⟩) 1 cc) (.slice A2 0 cc2)) rfl rfl k23 rfl Try.infoRoutes routeCs_one ?_
    intro k8
    have lv := route_res k8
    have hBe := below_setCells (B := w.heap.size) (a := w) (b := w.heap.size + 1) (by omega) (routeCs rd0 (.slice (some ⟨b1, off1, none⟩) 1 cc) (.slice A2 0 cc2)).toList 0 hB3
    generalize hwr : World.setCells w3 (w.heap.size + 1) 0 (routeCs rd0 (.slice (some ⟨b1, off1, none⟩) 1 cc) (.slice A2 0 cc2)).toList = wz at k8 lv hBe ⊢
    clear hwr
    go_wp2
    refine bodyPost_ret (v := .tuple #[.agg (routeCs rd0 (.slice (some ⟨b1, off1, none⟩) 1 cc) (.slice A2 0 cc2)), .int .i64 1]) ?_ rfl ?_
    · simp [results, Try.results66, Act.put, Sem.run_bind, Sem.run_pure, asAddr_ok, lv]
    · unfold CutPost
      rw [HE.out]
      exact ⟨.inr ⟨rfl, rfl⟩, hBe⟩
  have tl : decide (600 < k.length) = false := decide_eq_false hlen
  have tl' : decide ((600 : Int) < (k.length : Int)) = false := decide_eq_false (by omega)
  cases hL : Op.bytesLess k [120]
  case true =>
    have t1 : Op.bytesLess (str k).toList (str [120]).toList = true := by rw [str_toList, str_toList]; exact hL
    have t2 : Op.bytesLess (str [120]).toList (str k).toList = false := by rw [str_toList, str_toList]; exact bl_asymm _ _ hL
    have HL := Lib.hid hL
    clear hL
    refine wp_seqL [18, 20] (by as_aux_lemma => kernel_rfl) (by as_aux_lemma => kernel_rfl) fun w3 hb3 => ?_
    refine seqL_pre 18 (by kernel_rfl) ?_
    simp only [List.take_succ_cons, List.take_zero, List.drop_succ_cons, List.drop_zero]
    repeat (go_big_quiet_step (fail))
    refine wpQuiet_nil ?_
    refine seqL_skip rfl ?_
    simp only [Act.put, List.setIfInBounds_toArray, List.set_cons_succ, List.set_cons_zero]
    refine seqL_pre 1 (by kernel_rfl) ?_
    simp only [List.take_succ_cons, List.take_zero, List.drop_succ_cons, List.drop_zero]
    repeat (go_big_quiet_step (fail))
    refine wpQuiet_nil ?_
    refine seqL_skip rfl ?_
    simp only [Act.put, List.setIfInBounds_toArray, List.set_cons_succ, List.set_cons_zero]
    refine seqL_pre 3 (by kernel_rfl) ?_
    simp only [List.take_succ_cons, List.take_zero, List.drop_succ_cons, List.drop_zero]
    repeat (go_big_quiet_step (fail))
    refine wpQuiet_nil ?_
    refine seqL_nil ?_
    have hB3 := hB2.trans (hb3.mono hB2.size)
    have k13 := k12.below hb3 k12.lt
    have k23 := k22.below hb3 k22.lt
    clear l1 v1 v2 r0 r1 r2 r3 r4 tl tl' t1 t2
    have HE : Hid (cutE k = 1) := by
      have : cutE k = 1 := by
        unfold cutE
        rw [if_neg hlen, HL.out]; rfl
      exact Lib.hid this
    go_upto_region 7 with fail
    refine wp_region_split 1 ?_
    simp only [List.take_succ_cons, List.take_zero, List.drop_succ_cons, List.drop_zero]
    refine wpList_loadB rfl rfl rfl k13 Try.underlying42 rfl Try.infoRoutes ?_
    simp only [Act.put, List.setIfInBounds_toArray, List.set_cons_succ, List.set_cons_zero]
    go_wp2
    show wpList _ _ _ _ _ _
    refine wpList_storeB rfl rfl (routeCs rd0 (.slice (some ⟨b1, off1, none⟩) 1 cc) (.slice A2 0 cc2)) rfl rfl k23 rfl Try.infoRoutes routeCs_one ?_
    intro k8
    have lv := route_res k8
    have hBe := below_setCells (B := w.heap.size) (a := w) (b := w.heap.size + 1) (by omega) (routeCs rd0 (.slice (some ⟨b1, off1, none⟩) 1 cc) (.slice A2 0 cc2)).toList 0 hB3
    generalize hwr : World.setCells w3 (w.heap.size + 1) 0 (routeCs rd0 (.slice (some ⟨b1, off1, none⟩) 1 cc) (.slice A2 0 cc2)).toList = wz at k8 lv hBe ⊢
    clear hwr
    go_wp2
    refine bodyPost_ret (v := .tuple #[.agg (routeCs rd0 (.slice (some ⟨b1, off1, none⟩) 1 cc) (.slice A2 0 cc2)), .int .i64 1]) ?_ rfl ?_
    · simp [results, Try.results66, Act.put, Sem.run_bind, Sem.run_pure, asAddr_ok, lv]
    · unfold CutPost
      rw [HE.out]
      exact ⟨.inr ⟨rfl, rfl⟩, hBe⟩
  have HL := Lib.hid hL
  have t1 : Op.bytesLess (str k).toList (str [120]).toList = false := by rw [str_toList, str_toList]; exact hL
  by_cases hk0 : k = [120]
  · have t2 : Op.bytesLess (str [120]).toList (str k).toList = false := by rw [str_toList, str_toList, hk0]; rfl
    have t3 : ((str k).toList == (str [120]).toList) = true := by rw [str_toList, str_toList, hk0]; rfl
    have HK : Hid ((k == [120]) = true) := by
      have : (k == [120]) = true := by rw [hk0]; rfl
      exact Lib.hid this
    clear hk0 hL
    refine wp_seqL [18, 20] (by as_aux_lemma => kernel_rfl) (by as_aux_lemma => kernel_rfl) fun w3 hb3 => ?_
    refine seqL_pre 18 (by kernel_rfl) ?_
    simp only [List.take_succ_cons, List.take_zero, List.drop_succ_cons, List.drop_zero]
    repeat (go_big_quiet_step (fail))
    refine wpQuiet_nil ?_
    refine seqL_skip rfl ?_
    simp only [Act.put, List.setIfInBounds_toArray, List.set_cons_succ, List.set_cons_zero]
    refine seqL_pre 1 (by kernel_rfl) ?_
    simp only [List.take_succ_cons, List.take_zero, List.drop_succ_cons, List.drop_zero]
    repeat (go_big_quiet_step (fail))
    refine wpQuiet_nil ?_
    refine seqL_skip rfl ?_
    simp only [Act.put, List.setIfInBounds_toArray, List.set_cons_succ, List.set_cons_zero]
    refine seqL_pre 3 (by kernel_rfl) ?_
    simp only [List.take_succ_cons, List.take_zero, List.drop_succ_cons, List.drop_zero]
    repeat (go_big_quiet_step (fail))
    refine wpQuiet_nil ?_
    refine seqL_nil ?_
    have hB3 := hB2.trans (hb3.mono hB2.size)
    have k13 := k12.below hb3 k12.lt
    have k23 := k22.below hb3 k22.lt
    clear l1 v1 v2 r0 r1 r2 r3 r4 tl tl' t1 t2 t3
    have HE : Hid (cutE k = 1) := by
      have : cutE k = 1 := by
        unfold cutE
        rw [if_neg hlen, HL.out, HK.out]; rfl
      exact Lib.hid this
    go_upto_region 7 with fail
    refine wp_region_split 1 ?_
    simp only [List.take_succ_cons, List.take_zero, List.drop_succ_cons, List.drop_zero]
    refine wpList_loadB rfl rfl rfl k13 Try.underlying42 rfl Try.infoRoutes ?_
    simp only [Act.put, List.setIfInBounds_toArray, List.set_cons_succ, List.set_cons_zero]
    go_wp2
    show wpList _ _ _ _ _ _
    refine wpList_storeB rfl rfl (routeCs rd0 (.slice (some ⟨b1, off1, none⟩) 1 cc) (.slice A2 0 cc2)) rfl rfl k23 rfl Try.infoRoutes routeCs_one ?_
    intro k8
    have lv := route_res k8
    have hBe := below_setCells (B := w.heap.size) (a := w) (b := w.heap.size + 1) (by omega) (routeCs rd0 (.slice (some ⟨b1, off1, none⟩) 1 cc) (.slice A2 0 cc2)).toList 0 hB3
    generalize hwr : World.setCells w3 (w.heap.size + 1) 0 (routeCs rd0 (.slice (some ⟨b1, off1, none⟩) 1 cc) (.slice A2 0 cc2)).toList = wz at k8 lv hBe ⊢
    clear hwr
    go_wp2
    refine bodyPost_ret (v := .tuple #[.agg (routeCs rd0 (.slice (some ⟨b1, off1, none⟩) 1 cc) (.slice A2 0 cc2)), .int .i64 1]) ?_ rfl ?_
    · simp [results, Try.results66, Act.put, Sem.run_bind, Sem.run_pure, asAddr_ok, lv]
    · unfold CutPost
      rw [HE.out]
      exact ⟨.inr ⟨rfl, rfl⟩, hBe⟩
  have t2 : Op.bytesLess (str [120]).toList (str k).toList = true := by rw [str_toList, str_toList, bl_total _ _ (Ne.symm hk0), hL]; rfl
  have t3 : ((str k).toList == (str [120]).toList) = false := by rw [str_toList, str_toList]; simpa using hk0
  have HK : Hid ((k == [120]) = false) := by
    have : (k == [120]) = false := by simpa using hk0
    exact Lib.hid this
  clear hk0 hL
  refine wp_seqL [18, 20] (by as_aux_lemma => kernel_rfl) (by as_aux_lemma => kernel_rfl) fun w3 hb3 => ?_
  refine seqL_pre 18 (by kernel_rfl) ?_
  simp only [List.take_succ_cons, List.take_zero, List.drop_succ_cons, List.drop_zero]
  repeat (go_big_quiet_step (fail))
  refine wpQuiet_nil ?_
  have hB3 := hB2.trans (hb3.mono hB2.size)
  refine seqL_wild hb3 rfl rfl fun K hK => ?_
  unfold Gives
  go_simp
  refine (span_any rd0 _ _ 0 (by decide) _ (hr.below hB3)).mono ?_
  rintro e w4 ⟨⟨fr, ut, rfl, g1, g2⟩, hb4⟩
  obtain ⟨Af, cf, rfl, _, _⟩ := g1.form
  obtain ⟨Au, cu, rfl, _, _⟩ := g2.form
  refine ⟨_, rfl, hK _ _ (hb4) fun hb4x => ?_⟩
  clear hK
  clear K
  simp only [Act.put, List.setIfInBounds_toArray, List.set_cons_succ, List.set_cons_zero]
  refine seqL_pre 1 (by kernel_rfl) ?_
  simp only [List.take_succ_cons, List.take_zero, List.drop_succ_cons, List.drop_zero]
  repeat (go_big_quiet_step (fail))
  refine wpQuiet_nil ?_
  refine seqL_wild hb4x rfl rfl fun K hK => ?_
  unfold Gives
  go_simp
  refine (within_any _ _ _ [120] [121] k _ g1 g2 ((hk.below hB2).below hb4x)).mono ?_
  rintro e w5 ⟨rfl, hb5⟩
  refine ⟨_, rfl, hK _ _ (hb5) fun hb5x => ?_⟩
  clear hK
  clear K
  simp only [Act.put, List.setIfInBounds_toArray, List.set_cons_succ, List.set_cons_zero]
  refine seqL_pre 3 (by kernel_rfl) ?_
  simp only [List.take_succ_cons, List.take_zero, List.drop_succ_cons, List.drop_zero]
  repeat (go_big_quiet_step (fail))
  refine wpQuiet_nil ?_
  refine seqL_nil ?_
  have hB5 := hB2.trans (hb5x.mono hB2.size)
  have k13 := k12.below hb5x k12.lt
  have k23 := k22.below hb5x k22.lt
  clear l1 v1 v2 r0 r1 r2 r3 r4 tl tl' t1 t2 t3
  cases hW : withinB [120] [121] k
  case false =>
    have HW := Lib.hid hW
    clear hW
    have HE : Hid (cutE k = 1) := by
      have : cutE k = 1 := by
        unfold cutE
        rw [if_neg hlen, HL.out, HK.out, HW.out]; rfl
      exact Lib.hid this
    go_upto_region 7 with fail
    refine wp_region_split 1 ?_
    simp only [List.take_succ_cons, List.take_zero, List.drop_succ_cons, List.drop_zero]
    refine wpList_loadB rfl rfl rfl k13 Try.underlying42 rfl Try.infoRoutes ?_
    simp only [Act.put, List.setIfInBounds_toArray, List.set_cons_succ, List.set_cons_zero]
    go_wp2
    show wpList _ _ _ _ _ _
    refine wpList_storeB rfl rfl (routeCs rd0 (.slice (some ⟨b1, off1, none⟩) 1 cc) (.slice A2 0 cc2)) rfl rfl k23 rfl Try.infoRoutes routeCs_one ?_
    intro k8
    have lv := route_res k8
    have hBe := below_setCells (B := w.heap.size) (a := w) (b := w.heap.size + 1) (by omega) (routeCs rd0 (.slice (some ⟨b1, off1, none⟩) 1 cc) (.slice A2 0 cc2)).toList 0 hB5
    generalize hwr : World.setCells w5 (w.heap.size + 1) 0 (routeCs rd0 (.slice (some ⟨b1, off1, none⟩) 1 cc) (.slice A2 0 cc2)).toList = wz at k8 lv hBe ⊢
    clear hwr
    go_wp2
    refine bodyPost_ret (v := .tuple #[.agg (routeCs rd0 (.slice (some ⟨b1, off1, none⟩) 1 cc) (.slice A2 0 cc2)), .int .i64 1]) ?_ rfl ?_
    · simp [results, Try.results66, Act.put, Sem.run_bind, Sem.run_pure, asAddr_ok, lv]
    · unfold CutPost
      rw [HE.out]
      exact ⟨.inr ⟨rfl, rfl⟩, hBe⟩
  have HE : Hid (cutE k = 0) := by
    have : cutE k = 0 := by
      unfold cutE
      rw [if_neg hlen, HL.out, HK.out, hW]; rfl
    exact Lib.hid this
  clear hW HL HK hlen
  obtain ⟨r0, r1, r2, r3, r4⟩ := route_cells k13
  simp only [rd0] at r0 r1 r3
  go_wp2_with fail
  refine (copied_any rd0 _ _ _ (hr.below hB5)).mono ?_
  rintro e w6 ⟨⟨a4, x4, rfl, hr4⟩, hb6⟩
  obtain ⟨B1, d1, rfl, _, _⟩ := hr4.s.form
  obtain ⟨B2, d2, rfl, _, _⟩ := hr4.c.form
  simp only [show rd0.s.length = 1 from rfl, show rd0.c.length = 0 from rfl] at *
  have hB4 := hB5.trans (hb6.mono hB5.size)
  have k24 := k23.below hb6 k23.lt
  have hz34 : w5.heap.size ≤ w6.heap.size := hb6.size
  have hz3 : w.heap.size + 2 ≤ w5.heap.size := k23.lt
  clear r0 r1 r2 r3 r4 k13 k23
  unfold routeCs
  go_upto_region 9 with fail
  refine name_world (fun w7 => Below w.heap.size w w7 ∧ w6.heap.size < w7.heap.size ∧ Blk w7 (w.heap.size + 1) 42 (routeCs rdZ nl nl) ∧ Blk w7 w6.heap.size 42 (routeCs rd0 (.slice B1 1 d1) (.slice B2 0 d2)) ∧ RouteR (fun b => w.heap.size + 2 ≤ b ∧ b ≠ w6.heap.size) w7 (.slice B1 1 d1) (.slice B2 0 d2) rd0)
    ⟨hB4.alloc hB4.size _, by simp, k24.alloc _, Blk.new_ rfl, ?_⟩ ?_
  · exact (hr4.mono fun b h hlt => ⟨by omega, by omega⟩).below ((Below.refl _ _).alloc (Nat.le_refl _) _)
  rintro w7 ⟨hB7, hz5, k25, k5, hr5⟩
  go_wp2_with fail
  refine (copy_rb _ k _ (hk.below hB7)).mono ?_
  rintro e w8 ⟨⟨y, rfl, hy⟩, hb8⟩
  obtain ⟨B3, d3, rfl, _, _⟩ := hy.form
  have hB8 := hB7.trans (hb8.mono hB7.size)
  have k6 := k5.below hb8 k5.lt
  have k26 := k25.below hb8 k25.lt
  have hr6 := hr5.below hb8
  have hy6 := hy.mono (ok' := fun b => w.heap.size + 2 ≤ b ∧ b ≠ w6.heap.size) (by decide) fun b h _ => ⟨by omega, by omega⟩
  obtain ⟨r0, r1, r2, r3, r4⟩ := route_cells k6
  simp only [rd0] at r0 r1 r3
  have fz := fun i => k6.frozen i
  clear k5 k25 hr5 hy
  go_upto_region 11 with fail
  have hkp : Kp (fun b => w.heap.size + 2 ≤ b ∧ b ≠ w6.heap.size) w8 (((w8.setCell ⟨w6.heap.size, 3, none⟩ (.int .i64 2)).setCell ⟨w6.heap.size, 4, none⟩ (.slice B3 k.length d3)).setCell ⟨w6.heap.size, 0, none⟩ (.int .i64 1)) :=
    (((Kp.refl _ _).setCell (fun _ h => h.2 rfl) _).setCell (fun _ h => h.2 rfl) _).setCell (fun _ h => h.2 rfl) _
  refine name_world (fun w9 => Below w.heap.size w w9 ∧ Blk w9 (w.heap.size + 1) 42 (routeCs rdZ nl nl) ∧ Blk w9 w6.heap.size 42 (routeCs (rdc k) (.slice B1 1 d1) (.slice B3 k.length d3)) ∧ RSl rOwner (fun b => w.heap.size + 2 ≤ b) w9 (.slice B1 1 d1) (rdc k).s ∧ RB (fun b => w.heap.size + 2 ≤ b) w9 (.slice B3 k.length d3) k)
    ⟨((hB8.setCell (by simp; omega) _).setCell (by simp; omega) _).setCell (by simp; omega) _, ((k26.far (by simp; omega) _).far (by simp; omega) _).far (by simp; omega) _, ?_, (hr6.s.kp hkp).mono (by decide) fun b h _ => h.1, (hy6.kp hkp).mono (by decide) fun b h _ => h.1⟩ ?_
  · have := ((k6.set_ 3 (.int .i64 2)).set_ 4 (.slice B3 k.length d3)).set_ 0 (.int .i64 1)
    simpa [routeCs, rd0, rdc] using this
  rintro w9 ⟨hB9, k27, k7, o7, y7⟩
  refine wp_region_list ?_
  refine wpList_loadB rfl rfl rfl k7 Try.underlying42 rfl Try.infoRoutes ?_
  refine wpList_storeB rfl rfl (routeCs (rdc k) (.slice B1 1 d1) (.slice B3 k.length d3)) rfl rfl k27 rfl Try.infoRoutes routeCs_one ?_
  intro k8
  have lv := route_res k8
  have hk8 := Kp.setCells (ok := fun b => w.heap.size + 2 ≤ b) (a := w9) (b := w.heap.size + 1) (fun _ h => by have : w.heap.size + 2 ≤ w.heap.size + 1 := h; omega) (routeCs (rdc k) (.slice B1 1 d1) (.slice B3 k.length d3)).toList 0 (Kp.refl _ _)
  have hBe := below_setCells (B := w.heap.size) (a := w) (b := w.heap.size + 1) (by omega) (routeCs (rdc k) (.slice B1 1 d1) (.slice B3 k.length d3)).toList 0 hB9
  generalize hwr : World.setCells w9 (w.heap.size + 1) 0 (routeCs (rdc k) (.slice B1 1 d1) (.slice B3 k.length d3)).toList = wz at k8 lv hk8 hBe ⊢
  clear hwr
  go_wp2
  refine bodyPost_ret (v := .tuple #[.agg (routeCs (rdc k) (.slice B1 1 d1) (.slice B3 k.length d3)), .int .i64 0]) ?_ rfl ?_
  · simp [results, Try.results66, Act.put, Sem.run_bind, Sem.run_pure, asAddr_ok, lv]
  · unfold CutPost
    rw [HE.out]
    exact ⟨.inl ⟨rfl, _, _, rfl, (o7.kp hk8).mono (by decide) (fun b h _ => by omega), (y7.kp hk8).mono (by decide) (fun b h _ => by omega), (show I64 1 from ⟨by decide, by decide⟩), (show I64 1 from ⟨by decide, by decide⟩), (show I64 2 from ⟨by decide, by decide⟩)⟩, hBe⟩
end Go.Proofs.Ytikkknaofiafhaa
