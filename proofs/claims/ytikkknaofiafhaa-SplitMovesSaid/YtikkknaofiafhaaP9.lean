/- Contract: the document's (*Job).Next. -/
import Derived.Test.YtikkknaofiafhaaP6
namespace Go.Proofs.Ytikkknaofiafhaa
open Go.RowKit

set_option maxRecDepth 100000 in
set_option maxHeartbeats 12800000 in
theorem refJobNext_any {ok okr : Nat → Prop} (j : JobD) (d : RouteD) (a c : Value) (s : Int) (g : Nat) (w : World) (hr : RouteR okr w a c d) (hb0 : 0 ≤ d.b ∧ d.b ≤ 1000) (hs : I64 s) (hj : RJob ok w g j) (hok : ∀ b, ok b → b ≠ g) (hokr : ∀ b, okr b → b ≠ g) (hnew : ∀ b, w.heap.size ≤ b → ok b) :
    Calls Try.prog 33 #[.pointer (some ⟨g, 0, none⟩), .agg (routeCs d a c), .int .i64 s] w (RAskPost ok g (stepJ d s j).1 (stepJ d s j).2 w) := by
  obtain ⟨C, given, hk, hc, hgv⟩ := hj
  obtain ⟨A, cc, rfl, hcc, hbd⟩ := hr.s.form
  obtain ⟨A2, cc2, rfl, _, hbd2⟩ := hr.c.form
  obtain ⟨A9, cc9, rfl, _, _⟩ := hgv.form
  have hgl := hk.lt
  have hC := hc.size
  obtain ⟨ph, asd, gr, cd, gl⟩ := j
  simp only at hk hc hgv
  go_enter Try.func33, Try.ntmps33
  go_upto_region 1 with fail
  refine name_world (fun w1 => Below w.heap.size w w1 ∧ w.heap.size + 2 ≤ w1.heap.size ∧ Blk w1 w.heap.size 42 (routeCs d (.slice A d.s.length cc) (.slice A2 d.c.length cc2)) ∧ Blk w1 (w.heap.size + 1) 60 zC)
    ⟨((Below.refl _ _).alloc (Nat.le_refl _) _).alloc (by simp) _, by simp, (Blk.new w _ _).alloc _, Blk.new_ (by simp)⟩ ?_
  rintro w1 ⟨hB1, hz1, k1, k2⟩
  have kg := hk.below hB1 hgl
  have hr1 := hr.below hB1
  have hne0 : w.heap.size ≠ g := by omega
  have hne1 : w.heap.size + 1 ≠ g := by omega
  have hK1 : Kp (fun b => b ≠ g) w w1 := (Kp.of_below hB1).mono fun _ _ => trivial
  have hcx := (hc.mono (ok' := fun b => ok b ∧ b ≠ w.heap.size + 1) fun b h hlt => ⟨h, by omega⟩).below hB1
  have hgx := (hgv.mono (ok' := fun b => ok b ∧ b ≠ w.heap.size + 1) (by decide) fun b h hlt => ⟨h, by omega⟩).below hB1
  have p1 : w1.cell? ⟨g, 2, none⟩ = some (.bool asd) := (kg.cell 2).trans (rjob0 _ _ _ _ _).2.2.1
  cases asd
  case true =>
    have HS : Hid (stepJ d s ⟨ph, true, gr, cd, gl⟩ = (⟨ph, true, gr, cd, gl⟩, true)) := rfl
    go_upto_region 2 with fail
    have l3 : ∀ s : Later w1, s.val.cell? ⟨g, 3, none⟩ = some (.int .i64 gr) := fun s => ((kg.below s.below kg.lt).cell 3).trans (rjob0 _ _ _ _ _).2.2.2
    refine wp_later_many_tail 9 [(1, Sp.val (.pointer (some ⟨g, 0, none⟩))), (5, Sp.val (.pointer (some ⟨g, 0, none⟩))), (7, Sp.val (.agg C))] [1, 5, 7] (by as_aux_lemma => kernel_rfl) (by as_aux_lemma => kernel_rfl) (by as_aux_lemma => kernel_rfl) ?_
    intro vv hv
    have e1 : vv 1 = .pointer (some ⟨g, 0, none⟩) := hv 1 (by decide)
    have e5 : vv 5 = .pointer (some ⟨g, 0, none⟩) := hv 5 (by decide)
    have e7 : vv 7 = .agg C := hv 7 (by decide)
    simp only [List.take_succ_cons, List.take_zero, List.drop_succ_cons, List.drop_zero]
    refine many_pre 1 (by decide) ?_
    simp only [List.take_succ_cons, List.take_zero, List.drop_succ_cons, List.drop_zero]
    repeat (go_big_quiet_step (fail))
    refine wpQuiet_nil (many_wild (by decide) rfl ?_ ?_)
    · intro s _
      unfold Gives
      go_simp
      exact ⟨rfl, Below.refl _ _⟩
    intro a' ha'
    subst ha'
    simp only [Act.put, List.setIfInBounds_toArray, List.set_cons_succ, List.set_cons_zero]
    rw [e1]
    refine many_pre 3 (by decide) ?_
    simp only [List.take_succ_cons, List.take_zero, List.drop_succ_cons, List.drop_zero]
    repeat (go_big_quiet_step (fail))
    refine wpQuiet_nil (many_wild (by decide) rfl ?_ ?_)
    · intro s _
      unfold Gives
      go_simp
      exact ⟨rfl, Below.refl _ _⟩
    intro a' ha'
    subst ha'
    simp only [Act.put, List.setIfInBounds_toArray, List.set_cons_succ, List.set_cons_zero]
    rw [e5]
    refine many_pre 1 (by decide) ?_
    simp only [List.take_succ_cons, List.take_zero, List.drop_succ_cons, List.drop_zero]
    repeat (go_big_quiet_step (fail))
    refine wpQuiet_nil (many_wild (by decide) rfl ?_ ?_)
    · intro s _
      exact gives_loadR rfl rfl (kg.below s.below kg.lt) Try.underlying60 rfl (by rw [hC]; exact Try.infoCmd) ⟨rfl, Below.refl _ _⟩
    intro a' ha'
    subst ha'
    simp only [Act.put, List.setIfInBounds_toArray, List.set_cons_succ, List.set_cons_zero]
    rw [e7]
    refine many_pre 1 (by decide) ?_
    simp only [List.take_succ_cons, List.take_zero, List.drop_succ_cons, List.drop_zero]
    repeat (go_big_quiet_step (fail))
    refine wpQuiet_nil (many_end ?_)
    intro s _
    have k7 := k2.below s.below k2.lt
    have kg7 := kg.below s.below kg.lt
    have hc7 := hcx.below s.below
    have hg7 := hgx.below s.below
    have hK7 := hK1.trans ((Kp.of_below s.below).mono (ok' := fun b => b ≠ g) fun _ _ => trivial)
    clear e1 e5 e7 hv l3
    refine wpList_storeB' rfl rfl C rfl rfl k7 (hC.symm) (by rw [hC]; exact Try.infoCmd) hcx.one ?_ rfl
    intro k8
    have lv := res_next 0 k8 hC
    have hk8 := Kp.setCells (ok := fun b => b ≠ w.heap.size + 1) (a := s.val) (b := w.heap.size + 1) (fun _ h => h rfl) C.toList 0 (Kp.refl _ _)
    have hk9 := Kp.setCells (ok := fun b => b ≠ g) (a := w) (b := w.heap.size + 1) (fun h => by omega) C.toList 0 hK7
    have kg8 := far_setCells (fun h => hne1 h.symm) C.toList 0 kg7
    go_wp2
    refine bodyPost_ret (v := .tuple #[.int .i64 gr, .agg C, .bool true]) ?_ rfl ?_
    · simp [results, Try.results33, Act.put, Sem.run_bind, Sem.run_pure, asAddr_ok, lv]
    · unfold RAskPost; rw [HS.out]; exact ⟨⟨_, rfl, (hc7.kp (hk8.mono fun b h => h.2)).mono fun b h _ => h.1⟩, ⟨_, _, kg8, (hc7.kp (hk8.mono fun b h => h.2)).mono fun b h _ => h.1, (hg7.kp (hk8.mono fun b h => h.2)).mono (by decide) fun b h _ => h.1⟩, hk9⟩
  case false =>
    obtain ⟨r0, r1, r2, r3, r4⟩ := route_cells k1
    obtain ⟨n, hn⟩ : ∃ n, n = nx d s := ⟨_, rfl⟩
    have HN := Lib.hid hn
    clear hn
    go_wp2_with fail
    refine (refNext_any d _ _ s _ hr1 hb0 hs).mono ?_
    rintro e w2 ⟨he, hb2⟩
    rw [show nextG d.s d.b 1 (min s 4).toNat = n from HN.out.symm] at he
    subst he
    have hB2 := hB1.trans (hb2.mono hB1.size)
    have hz2 : w.heap.size + 2 ≤ w2.heap.size := Nat.le_trans hz1 hb2.size
    have k12 := k1.below hb2 k1.lt
    have k22 := k2.below hb2 k2.lt
    have kg2 := kg.below hb2 kg.lt
    have hr2 := hr1.below hb2
    have hK2 : Kp (fun b => b ≠ g) w w2 := (Kp.of_below hB2).mono fun _ _ => trivial
    have hg2 := hgx.below hb2
    clear r0 r1 r2 r3 r4 p1 k1 k2 kg hr1 hK1 hgx hcx
    obtain ⟨r0, r1, r2, r3, r4⟩ := route_cells k12
    by_cases hq : d.m = 0 ∨ n = 0
    · have HS : Hid (stepJ d s ⟨ph, false, gr, cd, gl⟩ = (zJob, false)) := by
        unfold stepJ
        rw [if_neg (by simp), if_pos (by rw [← HN.out]; exact hq)]
        trivial
      cases q1 : (d.m == 0) <;> cases q2 : (n == 0)
      case false.false => exact absurd hq (by simp at q1 q2; simp [q1, q2])
      all_goals
        clear hq
        go_upto_region 5 with fail
        refine wp_region_split 3 ?_
        simp only [List.take_succ_cons, List.take_zero, List.drop_succ_cons, List.drop_zero]
        go_wp2
        show wpList _ _ _ _ _ _
        refine wpList_storeB' rfl rfl (rjobCs 0 nl false 0 zC) rfl rfl kg2 (by rw [rjobCs_size hC]; rfl) (by rw [rjobCs_size rfl]; exact Try.infoRJob) zrjob_one ?_ rfl
        intro kg3
        have k23 := far_setCells hne1 (rjobCs 0 nl false 0 zC).toList 0 k22
        have hK3 := Kp.setCells (ok := fun b => b ≠ g) (a := w) (b := g) (fun _ h => h rfl) (rjobCs 0 nl false 0 zC).toList 0 hK2
        clear r0 r1 r2 r3 r4
        go_upto_region 6 with fail
        refine name_world (fun w3 => Kp (fun b => b ≠ g) w w3 ∧ Blk w3 g 62 (rjobCs 0 nl false 0 zC) ∧ Blk w3 (w.heap.size + 1) 60 zC) ⟨hK3, kg3, k23⟩ ?_
        clear hK3 kg3 k23
        rintro w3 ⟨hK3, kg3, k23⟩
        refine wp_region_split 2 ?_
        simp only [List.take_succ_cons, List.take_zero, List.drop_succ_cons, List.drop_zero]
        go_wp2
        show wpList _ _ _ _ _ _
        refine wpList_storeB' rfl rfl zC rfl rfl k23 rfl Try.infoCmd (cmdCs_one rfl rfl rfl rfl) ?_ rfl
        intro k24
        have lv := res_next 0 k24 rfl
        have hk9 := Kp.setCells (ok := fun b => b ≠ g) (a := w) (b := w.heap.size + 1) (fun h => by omega) zC.toList 0 hK3
        have kg4 := far_setCells (fun h => hne1 h.symm) zC.toList 0 kg3
        go_wp2
        refine bodyPost_ret (v := .tuple #[.int .i64 0, .agg zC, .bool false]) ?_ rfl ?_
        · simp [results, Try.results33, Act.put, Sem.run_bind, Sem.run_pure, asAddr_ok, lv]
        · unfold RAskPost
          rw [HS.out]
          exact ⟨⟨_, rfl, CmdV.of (d := zCmd) (k := nl) (f := nl) (u := nl) (p := nl) ⟨RSl.nil_ _ _ _, RSl.nil_ _ _ _, RSl.nil_ _ _ _, RSl.nil_ _ _ _⟩⟩, ⟨_, _, kg4, CmdV.of (d := zCmd) (k := nl) (f := nl) (u := nl) (p := nl) ⟨RSl.nil_ _ _ _, RSl.nil_ _ _ _, RSl.nil_ _ _ _, RSl.nil_ _ _ _⟩, RSl.nil_ _ _ _⟩, hk9⟩
    · have hq1 : (d.m == 0) = false := by simp; exact fun h => hq (.inl h)
      have hq2 : (n == 0) = false := by simp; exact fun h => hq (.inr h)
      have HS0 : Hid (stepJ d s ⟨ph, false, gr, cd, gl⟩ = (⟨ph, true, (askJ d n ⟨ph, false, gr, cd, gl⟩).1, (askJ d n ⟨ph, false, gr, cd, gl⟩).2, gl⟩, true)) := by
        unfold stepJ
        rw [if_neg (by simp), if_neg (by rw [← HN.out]; exact hq), ← HN.out]
        trivial
      clear hq
      have fz := fun i => kg2.frozen i
      have p1' : w2.cell? ⟨g, 2, none⟩ = some (.bool false) := (kg2.cell 2).trans (rjob0 _ _ _ _ _).2.2.1
      go_upto_region 8 with fail
      refine name_world (fun w3 => Kp (fun b => b ≠ g) w w3 ∧ w.heap.size + 2 ≤ w3.heap.size ∧ Blk w3 w.heap.size 42 (routeCs d (.slice A d.s.length cc) (.slice A2 d.c.length cc2)) ∧ Blk w3 (w.heap.size + 1) 60 zC ∧ Blk w3 g 62 (rjobCs ph (.slice A9 gl.length cc9) true gr C) ∧ RouteR okr w3 (.slice A d.s.length cc) (.slice A2 d.c.length cc2) d)
        ⟨hK2.setCell (fun _ h => h rfl) _, by simp; omega, k12.far hne0 _, k22.far hne1 _, ?_, hr2.kp ((Kp.refl _ _).setCell (fun _ h => hokr _ h rfl) _)⟩ ?_
      · have := kg2.set_ 2 (.bool true)
        rwa [rjob_set2] at this
      clear r0 r1 r2 r3 r4 p1' fz k12 k22 kg2 hr2 hg2
      rintro w3 ⟨hK3, hz3, k13, k23, kg3, hr3⟩
      have hg3 := (hgv.mono (ok' := fun b => ok b ∧ b ≠ w.heap.size + 1 ∧ b ≠ g) (by decide) fun b h hlt => ⟨h, by omega, hok b h⟩).kp (hK3.mono fun b h => h.2.2)
      have p0 : w3.cell? ⟨g, 0, none⟩ = some (.int .i64 ph) := (kg3.cell 0).trans (rjob0 _ _ _ _ _).1
      have hg3l := kg3.lt
      by_cases h0 : ph = 0
      · subst h0
        have HS : Hid (stepJ d s ⟨0, false, gr, cd, gl⟩ = (⟨0, true, d.m, ⟨5, 0, false, d.c, [], [], []⟩, gl⟩, true)) := HS0
        clear HS0
        go_upto_region 11 with fail
        haveI : Nonempty (LaterS w3 g 62 (rjobCs 0 (.slice A9 gl.length cc9) true gr C) (rjobCs 0 (.slice A9 gl.length cc9) true d.m C)) := ⟨⟨w3, Kp.refl _ _, .inl kg3⟩⟩
        have l3 : ∀ s : LaterS w3 g 62 (rjobCs 0 (.slice A9 gl.length cc9) true gr C) (rjobCs 0 (.slice A9 gl.length cc9) true d.m C), s.val.cell? ⟨w.heap.size, 3, none⟩ = some (.int .i64 d.m) := LaterS.cell (k13.cell 3) hne0
        have l4 : ∀ s : LaterS w3 g 62 (rjobCs 0 (.slice A9 gl.length cc9) true gr C) (rjobCs 0 (.slice A9 gl.length cc9) true d.m C), s.val.cell? ⟨w.heap.size, 4, none⟩ = some (.slice A2 d.c.length cc2) := LaterS.cell (k13.cell 4) hne0
        refine wp_store_many_tail 11 g 62 (rjobCs 0 (.slice A9 gl.length cc9) true gr C) (rjobCs 0 (.slice A9 gl.length cc9) true d.m C) 10 [(6, SpK.rb g (fun b => w.heap.size + 2 ≤ b) d.c), (8, SpK.val g (.pointer (some ⟨g, 0, none⟩)))] [6, 8, 10] (by as_aux_lemma => kernel_rfl) (by as_aux_lemma => kernel_rfl) (by as_aux_lemma => kernel_rfl) kg3 ?_
        intro vv hv
        obtain ⟨B6, d6, e6, _⟩ : ∃ A c, vv 6 = .slice A d.c.length c ∧ d.c.length ≤ c := hv 6 (by decide)
        have e8 : vv 8 = .pointer (some ⟨g, 0, none⟩) := hv 8 (by decide)
        simp only [List.take_succ_cons, List.take_zero, List.drop_succ_cons, List.drop_zero]
        refine manys_pre 6 (by decide) ?_ (by kernel_rfl)
        simp only [List.take_succ_cons, List.take_zero, List.drop_succ_cons, List.drop_zero]
        repeat (go_big_quiet_step (fail))
        refine wpQuiet_nil (manys_wild (by decide) rfl hg3l ?_ ?_)
        · intro s _
          unfold Gives
          go_simp
          refine (copy_rb _ d.c _ (hr3.c.kp (s.kp.mono hokr))).mono ?_
          rintro e w4 ⟨⟨y, rfl, hy⟩, hb4⟩
          exact ⟨y, rfl, hy.mono (by decide) (fun b hb _ => ⟨by have := s.size; omega, by have := s.size; have : s.val.heap.size ≤ b := hb; omega⟩), hb4⟩
        intro a' ha'
        subst ha'
        simp only [Act.put, List.setIfInBounds_toArray, List.set_cons_succ, List.set_cons_zero]
        rw [e6]
        refine manys_pre 1 (by decide) ?_ (by kernel_rfl)
        simp only [List.take_succ_cons, List.take_zero, List.drop_succ_cons, List.drop_zero]
        repeat (go_big_quiet_step (fail))
        refine wpQuiet_nil (manys_wild (by decide) rfl hg3l ?_ ?_)
        · intro s _
          unfold Gives
          go_simp
          exact ⟨rfl, Below.refl _ _⟩
        intro a' ha'
        subst ha'
        simp only [Act.put, List.setIfInBounds_toArray, List.set_cons_succ, List.set_cons_zero]
        rw [e8]
        refine manys_pre 1 (by decide) ?_ (by kernel_rfl)
        simp only [List.take_succ_cons, List.take_zero, List.drop_succ_cons, List.drop_zero]
        repeat (go_big_quiet_step (fail))
        refine wpQuiet_nil (manys_store 3 (.int .i64 d.m) (by decide) rfl rfl (rjob_set3 _ _ _ _ _ _) ?_ ?_)
        · intro s hA _
          have c3 := (hA.cell 3).trans (rjob0 _ _ _ _ _).2.2.2
          have fz := fun i => hA.frozen i
          unfold Gives
          go_simp
        intro a' ha'
        subst ha'
        simp only [Act.put]
        refine manys_end (by decide) ?_
        intro w4 hk4 hB4 hf
        have f6 : RB (fun b => w.heap.size + 2 ≤ b ∧ b ≠ g) w4 (vv 6) d.c := hf 6 (by decide)
        rw [e6] at f6
        clear e6 e8 hv hf l3 l4
        have k24 := k23.kp hk4 hne1
        have hz4 := hk4.size
        have hg4 := hg3.kp (hk4.mono fun b h => h.2.2)
        refine wpList_split 2 ?_
        simp only [List.take_succ_cons, List.take_zero, List.drop_succ_cons, List.drop_zero]
        go_wp2
        show wpList _ _ _ _ _ _
        refine wpList_storeR rfl rfl (cmdCs 5 0 false (.slice B6 d.c.length d6) nl nl nl) rfl rfl hB4 hC rfl Try.infoCmd (cmdCs_one rfl rfl rfl rfl) ?_ rfl
        intro kg5
        have hkp : Kp (fun b => b ≠ g) w4 (w4.setCells g 4 (cmdCs 5 0 false (.slice B6 d.c.length d6) nl nl nl).toList) := Kp.setCells (fun _ h => h rfl) _ _ (Kp.refl _ _)
        have k25 := far_setCells hne1 (cmdCs 5 0 false (.slice B6 d.c.length d6) nl nl nl).toList 4 k24
        have hc6 : CmdV (fun b => ok b ∧ b ≠ w.heap.size + 1 ∧ b ≠ g) (w4.setCells g 4 (cmdCs 5 0 false (.slice B6 d.c.length d6) nl nl nl).toList) (cmdCs 5 0 false (.slice B6 d.c.length d6) nl nl nl) ⟨5, 0, false, d.c, [], [], []⟩ :=
          CmdV.of (d := ⟨5, 0, false, d.c, [], [], []⟩) (k := .slice B6 d.c.length d6) (f := nl) (u := nl) (p := nl) ⟨(f6.kp (hkp.mono fun b h => h.2)).mono (by decide) fun b h _ => ⟨hnew b (by omega), by omega, h.2⟩, RSl.nil_ _ _ _, RSl.nil_ _ _ _, RSl.nil_ _ _ _⟩
        have hg6 := hg4.kp (hkp.mono fun b h => h.2.2)
        have hK6 := (hK3.trans hk4).trans hkp
        go_upto_region 17 with fail
        refine name_world (fun w6 => Kp (fun b => b ≠ g) w w6 ∧ w.heap.size + 2 ≤ w6.heap.size ∧ Blk w6 (w.heap.size + 1) 60 zC ∧ Blk w6 g 62 (rjobCs 0 (.slice A9 gl.length cc9) true d.m (cmdCs 5 0 false (.slice B6 d.c.length d6) nl nl nl)) ∧ CmdV (fun b => ok b ∧ b ≠ w.heap.size + 1) w6 (cmdCs 5 0 false (.slice B6 d.c.length d6) nl nl nl) ⟨5, 0, false, d.c, [], [], []⟩ ∧ RSl rPair (fun b => ok b ∧ b ≠ w.heap.size + 1) w6 (.slice A9 gl.length cc9) gl)
          ⟨hK6, by simp; omega, k25, kg5, hc6.mono fun b h _ => ⟨h.1, h.2.1⟩, hg6.mono (by decide) fun b h _ => ⟨h.1, h.2.1⟩⟩ ?_
        clear hK6 k25 kg5 hc6 hkp hg6 hg4 k24 hk4 hB4 f6
        rintro w6 ⟨hK6, hz6, k26, kg6, hcx, hgx⟩
        have hCC : (cmdCs 5 0 false (.slice B6 d.c.length d6) nl nl nl).size = 25 := rfl
        have l3 : ∀ s : Later w6, s.val.cell? ⟨g, 3, none⟩ = some (.int .i64 d.m) := fun s => ((kg6.below s.below kg6.lt).cell 3).trans (rjob0 _ _ _ _ _).2.2.2
        refine wp_later_many_tail 9 [(1, Sp.val (.pointer (some ⟨g, 0, none⟩))), (5, Sp.val (.pointer (some ⟨g, 0, none⟩))), (7, Sp.val (.agg (cmdCs 5 0 false (.slice B6 d.c.length d6) nl nl nl)))] [1, 5, 7] (by as_aux_lemma => kernel_rfl) (by as_aux_lemma => kernel_rfl) (by as_aux_lemma => kernel_rfl) ?_
        intro vv hv
        have e1 : vv 1 = .pointer (some ⟨g, 0, none⟩) := hv 1 (by decide)
        have e5 : vv 5 = .pointer (some ⟨g, 0, none⟩) := hv 5 (by decide)
        have e7 : vv 7 = .agg (cmdCs 5 0 false (.slice B6 d.c.length d6) nl nl nl) := hv 7 (by decide)
        simp only [List.take_succ_cons, List.take_zero, List.drop_succ_cons, List.drop_zero]
        refine many_pre 1 (by decide) ?_
        simp only [List.take_succ_cons, List.take_zero, List.drop_succ_cons, List.drop_zero]
        repeat (go_big_quiet_step (fail))
        refine wpQuiet_nil (many_wild (by decide) rfl ?_ ?_)
        · intro s _
          unfold Gives
          go_simp
          exact ⟨rfl, Below.refl _ _⟩
        intro a' ha'
        subst ha'
        simp only [Act.put, List.setIfInBounds_toArray, List.set_cons_succ, List.set_cons_zero]
        rw [e1]
        refine many_pre 3 (by decide) ?_
        simp only [List.take_succ_cons, List.take_zero, List.drop_succ_cons, List.drop_zero]
        repeat (go_big_quiet_step (fail))
        refine wpQuiet_nil (many_wild (by decide) rfl ?_ ?_)
        · intro s _
          unfold Gives
          go_simp
          exact ⟨rfl, Below.refl _ _⟩
        intro a' ha'
        subst ha'
        simp only [Act.put, List.setIfInBounds_toArray, List.set_cons_succ, List.set_cons_zero]
        rw [e5]
        refine many_pre 1 (by decide) ?_
        simp only [List.take_succ_cons, List.take_zero, List.drop_succ_cons, List.drop_zero]
        repeat (go_big_quiet_step (fail))
        refine wpQuiet_nil (many_wild (by decide) rfl ?_ ?_)
        · intro s _
          exact gives_loadR rfl rfl (kg6.below s.below kg6.lt) Try.underlying60 rfl (by rw [hCC]; exact Try.infoCmd) ⟨rfl, Below.refl _ _⟩
        intro a' ha'
        subst ha'
        simp only [Act.put, List.setIfInBounds_toArray, List.set_cons_succ, List.set_cons_zero]
        rw [e7]
        refine many_pre 1 (by decide) ?_
        simp only [List.take_succ_cons, List.take_zero, List.drop_succ_cons, List.drop_zero]
        repeat (go_big_quiet_step (fail))
        refine wpQuiet_nil (many_end ?_)
        intro s _
        have k7 := k26.below s.below k26.lt
        have kg7 := kg6.below s.below kg6.lt
        have hc7 := hcx.below s.below
        have hg7 := hgx.below s.below
        have hK7 := hK6.trans ((Kp.of_below s.below).mono (ok' := fun b => b ≠ g) fun _ _ => trivial)
        clear e1 e5 e7 hv l3
        refine wpList_storeB' rfl rfl (cmdCs 5 0 false (.slice B6 d.c.length d6) nl nl nl) rfl rfl k7 (hCC.symm) (by rw [hCC]; exact Try.infoCmd) hcx.one ?_ rfl
        intro k8
        have lv := res_next 0 k8 hCC
        have hk8 := Kp.setCells (ok := fun b => b ≠ w.heap.size + 1) (a := s.val) (b := w.heap.size + 1) (fun _ h => h rfl) (cmdCs 5 0 false (.slice B6 d.c.length d6) nl nl nl).toList 0 (Kp.refl _ _)
        have hk9 := Kp.setCells (ok := fun b => b ≠ g) (a := w) (b := w.heap.size + 1) (fun h => by omega) (cmdCs 5 0 false (.slice B6 d.c.length d6) nl nl nl).toList 0 hK7
        have kg8 := far_setCells (fun h => hne1 h.symm) (cmdCs 5 0 false (.slice B6 d.c.length d6) nl nl nl).toList 0 kg7
        go_wp2
        refine bodyPost_ret (v := .tuple #[.int .i64 d.m, .agg (cmdCs 5 0 false (.slice B6 d.c.length d6) nl nl nl), .bool true]) ?_ rfl ?_
        · simp [results, Try.results33, Act.put, Sem.run_bind, Sem.run_pure, asAddr_ok, lv]
        · unfold RAskPost; rw [HS.out]; exact ⟨⟨_, rfl, (hc7.kp (hk8.mono fun b h => h.2)).mono fun b h _ => h.1⟩, ⟨_, _, kg8, (hc7.kp (hk8.mono fun b h => h.2)).mono fun b h _ => h.1, (hg7.kp (hk8.mono fun b h => h.2)).mono (by decide) fun b h _ => h.1⟩, hk9⟩
      have s0 : (ph == 0) = false := by simpa using h0
      by_cases h1 : ph = 1
      · subst h1
        have HS : Hid (stepJ d s ⟨1, false, gr, cd, gl⟩ = (⟨1, true, n, ⟨6, 0, false, [], d.c, ownedT d.s d.m, gl⟩, gl⟩, true)) := HS0
        clear HS0
        go_upto_region 13 with fail
        obtain ⟨r0, r1, r2, r3, r4⟩ := route_laters k13
        refine wp_boxes_tail 10 [(2, Sp.rb (fun b => w.heap.size + 2 ≤ b) d.c), (6, Sp.owned (fun b => w.heap.size + 2 ≤ b) (ownedT d.s d.m)), (9, Sp.box (w.heap.size + 2) 50 #[nl, nl])] [2, 6, 9] [9] (by as_aux_lemma => kernel_rfl) (by as_aux_lemma => kernel_rfl) (by as_aux_lemma => kernel_rfl) ?_
        intro vv hv
        obtain ⟨B2, d2, e2, _⟩ : ∃ A c, vv 2 = .slice A d.c.length c ∧ d.c.length ≤ c := hv 2 (by decide)
        obtain ⟨B5, n5, c5, B6, c6, e6⟩ : ∃ A n c A2 c2, vv 6 = .agg #[.slice A n c, .slice A2 (ownedT d.s d.m).length c2] := hv 6 (by decide)
        obtain ⟨gb, e9⟩ : ∃ g, vv 9 = .pointer (some ⟨g, 0, none⟩) := hv 9 (by decide)
        have hfd : ∀ w : World, (Instr.field 50 (.agg #[.slice B5 n5 c5, .slice B6 (ownedT d.s d.m).length c6]) 1).run Try.prog w = .ok (.slice B6 (ownedT d.s d.m).length c6) w := fun _ => by kernel_rfl
        simp only [List.take_succ_cons, List.take_zero, List.drop_succ_cons, List.drop_zero]
        refine manyx_pre 2 (by decide) ?_
        simp only [List.take_succ_cons, List.take_zero, List.drop_succ_cons, List.drop_zero]
        repeat (go_big_quiet_step (fail))
        refine wpQuiet_nil (manyx_wild (by decide) rfl ?_ ?_)
        · intro s _
          unfold Gives
          go_simp
          refine (copy_rb _ d.c _ (hr3.c.below s.below)).mono ?_
          rintro e w4 ⟨⟨y, rfl, hy⟩, hb4⟩
          exact ⟨y, rfl, hy.mono (by decide) (fun b hb _ => by have := s.below.size; have : s.val.heap.size ≤ b := hb; omega), hb4⟩
        intro a' ha'
        subst ha'
        simp only [Act.put, List.setIfInBounds_toArray, List.set_cons_succ, List.set_cons_zero]
        rw [e2]
        refine manyx_pre 3 (by decide) ?_
        simp only [List.take_succ_cons, List.take_zero, List.drop_succ_cons, List.drop_zero]
        repeat (go_big_quiet_step (fail))
        refine wpQuiet_nil (manyx_wild (by decide) rfl ?_ ?_)
        · intro s _
          unfold Gives
          go_simp
          refine (refOwned_any d _ _ d.m _ (hr3.below s.below)).mono ?_
          unfold OwnedPost
          rintro e w4 ⟨⟨A1, n1, c1, A3, c3, lf, rfl, h1, h2⟩, hb4⟩
          exact ⟨_, rfl, ⟨_, _, _, _, _, rfl, h2.mono (by decide) (fun b hb _ => by have := s.below.size; have : s.val.heap.size ≤ b := hb; omega)⟩, hb4⟩
        intro a' ha'
        subst ha'
        simp only [Act.put, List.setIfInBounds_toArray, List.set_cons_succ, List.set_cons_zero]
        rw [e6]
        refine manyx_pre 2 (by decide) ?_
        simp only [List.take_succ_cons, List.take_zero, List.drop_succ_cons, List.drop_zero]
        repeat (go_big_quiet_step (fail))
        refine wpQuiet_nil (manyx_box (w.heap.size + 2) 50 #[nl, nl] (by decide) rfl rfl (by intro j hj; simp at hj; subst hj; exact ⟨_, _, _, rfl⟩) hz3 (fun s => by unfold Gives; go_simp) ?_)
        intro a' ha'
        subst ha'
        simp only [Act.put, List.setIfInBounds_toArray, List.set_cons_succ, List.set_cons_zero]
        rw [e9]
        refine manyx_end ?_
        intro s hf _
        have f2 : RB (fun b => w.heap.size + 2 ≤ b) s.val (vv 2) d.c := hf 2 (by decide)
        obtain ⟨_, _, _, _, _, e6', f6⟩ := hf 6 (by decide)
        obtain ⟨_, e9', hgb, kb4⟩ := hf 9 (by decide)
        rw [e2] at f2
        rw [e6] at e6'
        rw [e9] at e9'
        simp only [Value.agg.injEq, Array.mk.injEq, List.cons.injEq, Value.slice.injEq, Value.pointer.injEq, Option.some.injEq, Addr.mk.injEq, true_and, and_true] at e6' e9'
        obtain ⟨⟨rfl, rfl, rfl⟩, rfl, rfl⟩ := e6'
        subst e9'
        clear e2 e6 e9 hv hf r0 r1 r2 r3 r4
        have k24 := k23.below s.below k23.lt
        have kg4 := kg3.below s.below kg3.lt
        have hg4 := hg3.below s.below
        have hK4 := hK3.trans ((Kp.of_below s.below).mono (ok' := fun b => b ≠ g) fun _ _ => trivial)
        have hz4 : w3.heap.size ≤ s.val.heap.size := s.below.size
        have hgw : g < w.heap.size := hgl
        have hgbg : gb ≠ g := by omega
        obtain ⟨j0, j1⟩ : s.val.cell? ⟨gb, 0, none⟩ = some nl ∧ s.val.cell? ⟨gb, 1, none⟩ = some nl := ⟨kb4.cell 0, kb4.cell 1⟩
        have fy := fun i => kb4.frozen i
        have bp := rb_off f2 kb4 (by intro i z; match i with | 0 => simp | 1 => simp | _ + 2 => simp)
        have bq := rb_off f6 kb4 (by intro i z; match i with | 0 => simp | 1 => simp | _ + 2 => simp)
        go_upto_region 14 with fail
        have hkb : Kp (fun b => b ≠ gb) s.val ((s.val.setCell ⟨gb, 0, none⟩ (.slice B2 d.c.length d2)).setCell ⟨gb, 1, none⟩ (.slice B6 (ownedT d.s d.m).length c6)) := ((Kp.refl _ _).setCell (fun _ h => h rfl) _).setCell (fun _ h => h rfl) _
        have hne2 : w.heap.size + 1 ≠ gb := by omega
        refine name_world (fun w5 => Kp (fun b => b ≠ g) w w5 ∧ w.heap.size + 2 ≤ w5.heap.size ∧ Blk w5 (w.heap.size + 1) 60 zC ∧ Blk w5 g 62 (rjobCs 1 (.slice A9 gl.length cc9) true gr C) ∧ Blk w5 gb 50 #[.slice B2 d.c.length d2, .slice B6 (ownedT d.s d.m).length c6] ∧ RSl rPair (fun b => ok b ∧ b ≠ w.heap.size + 1 ∧ b ≠ g) w5 (.slice A9 gl.length cc9) gl ∧ RB (fun b => w.heap.size + 2 ≤ b) w5 (.slice B2 d.c.length d2) d.c ∧ RB (fun b => w.heap.size + 2 ≤ b) w5 (.slice B6 (ownedT d.s d.m).length c6) (ownedT d.s d.m))
          ⟨?_, by simp; omega, (k24.far hne2 _).far hne2 _, (kg4.far (fun h => hgbg h.symm) _).far (fun h => hgbg h.symm) _, ?_, ?_, (bp.kp (hkb.mono fun b h => h.2)).mono (by decide) fun b h _ => h.1, (bq.kp (hkb.mono fun b h => h.2)).mono (by decide) fun b h _ => h.1⟩ ?_
        · exact (hK4.setCell (fun h => by simp at h; omega) _).setCell (fun h => by simp at h; omega) _
        · have := (kb4.set_ 0 (.slice B2 d.c.length d2)).set_ 1 (.slice B6 (ownedT d.s d.m).length c6)
          simpa using this
        · have hgv5 := (hgv.mono (ok' := fun b => (ok b ∧ b ≠ w.heap.size + 1 ∧ b ≠ g) ∧ b < w.heap.size) (by decide) fun b h hlt => ⟨⟨h, by omega, hok b h⟩, hlt⟩).kp (hK4.mono fun b h => h.1.2.2)
          exact (hgv5.kp (hkb.mono fun b h => by omega)).mono (by decide) fun b h _ => h.1
        clear hkb bp bq f2 f6 k24 kg4 hg4 hK4 j0 j1 fy kb4
        rintro w5 ⟨hK5, hz5, k25, kg5, kb5, hg5, bp, bq⟩
        have hg5l := kg5.lt
        haveI : Nonempty (LaterS w5 g 62 (rjobCs 1 (.slice A9 gl.length cc9) true gr C) (rjobCs 1 (.slice A9 gl.length cc9) true n C)) := ⟨⟨w5, Kp.refl _ _, .inl kg5⟩⟩
        have l0 : ∀ s : LaterS w5 g 62 (rjobCs 1 (.slice A9 gl.length cc9) true gr C) (rjobCs 1 (.slice A9 gl.length cc9) true n C), s.val.cell? ⟨gb, 0, none⟩ = some (.slice B2 d.c.length d2) := LaterS.cell (kb5.cell 0) hgbg
        have l1 : ∀ s : LaterS w5 g 62 (rjobCs 1 (.slice A9 gl.length cc9) true gr C) (rjobCs 1 (.slice A9 gl.length cc9) true n C), s.val.cell? ⟨gb, 1, none⟩ = some (.slice B6 (ownedT d.s d.m).length c6) := LaterS.cell (kb5.cell 1) hgbg
        have l2 : ∀ s : LaterS w5 g 62 (rjobCs 1 (.slice A9 gl.length cc9) true gr C) (rjobCs 1 (.slice A9 gl.length cc9) true n C), s.val.cell? ⟨g, 1, none⟩ = some (.slice A9 gl.length cc9) := LaterS.own (rjob0 _ _ _ _ _).2.1 (rjob0 _ _ _ _ _).2.1
        refine wp_store_many_tail 12 g 62 (rjobCs 1 (.slice A9 gl.length cc9) true gr C) (rjobCs 1 (.slice A9 gl.length cc9) true n C) 11 [(5, SpK.val g (.pointer (some ⟨g, 0, none⟩))), (9, SpK.val g (.pointer (some ⟨g, 0, none⟩)))] [5, 9, 11] (by as_aux_lemma => kernel_rfl) (by as_aux_lemma => kernel_rfl) (by as_aux_lemma => kernel_rfl) kg5 ?_
        intro vv hv
        have e5 : vv 5 = .pointer (some ⟨g, 0, none⟩) := hv 5 (by decide)
        have e9 : vv 9 = .pointer (some ⟨g, 0, none⟩) := hv 9 (by decide)
        simp only [List.take_succ_cons, List.take_zero, List.drop_succ_cons, List.drop_zero]
        refine manys_pre 5 (by decide) ?_ (by kernel_rfl)
        simp only [List.take_succ_cons, List.take_zero, List.drop_succ_cons, List.drop_zero]
        repeat (go_big_quiet_step (fail))
        refine wpQuiet_nil (manys_wild (by decide) rfl hg5l ?_ ?_)
        · intro s _
          unfold Gives
          go_simp
          exact ⟨rfl, Below.refl _ _⟩
        intro a' ha'
        subst ha'
        simp only [Act.put, List.setIfInBounds_toArray, List.set_cons_succ, List.set_cons_zero]
        rw [e5]
        refine manys_pre 3 (by decide) ?_ (by kernel_rfl)
        simp only [List.take_succ_cons, List.take_zero, List.drop_succ_cons, List.drop_zero]
        repeat (go_big_quiet_step (fail))
        refine wpQuiet_nil (manys_wild (by decide) rfl hg5l ?_ ?_)
        · intro s _
          unfold Gives
          go_simp
          exact ⟨rfl, Below.refl _ _⟩
        intro a' ha'
        subst ha'
        simp only [Act.put, List.setIfInBounds_toArray, List.set_cons_succ, List.set_cons_zero]
        rw [e9]
        refine manys_pre 1 (by decide) ?_ (by kernel_rfl)
        simp only [List.take_succ_cons, List.take_zero, List.drop_succ_cons, List.drop_zero]
        repeat (go_big_quiet_step (fail))
        refine wpQuiet_nil (manys_store 3 (.int .i64 n) (by decide) rfl rfl (rjob_set3 _ _ _ _ _ _) ?_ ?_)
        · intro s hA _
          have c3 := (hA.cell 3).trans (rjob0 _ _ _ _ _).2.2.2
          have fz := fun i => hA.frozen i
          unfold Gives
          go_simp
        intro a' ha'
        subst ha'
        simp only [Act.put]
        refine manys_end (by decide) ?_
        intro w6 hk6 hB6 _
        clear e5 e9 hv l0 l1 l2
        have k26' := k25.kp hk6 hne1
        have hz6 := hk6.size
        refine wpList_split 2 ?_
        simp only [List.take_succ_cons, List.take_zero, List.drop_succ_cons, List.drop_zero]
        go_wp2
        show wpList _ _ _ _ _ _
        refine wpList_storeR rfl rfl (cmdCs 6 0 false nl (.slice B2 d.c.length d2) (.slice B6 (ownedT d.s d.m).length c6) (.slice A9 gl.length cc9)) rfl rfl hB6 hC rfl Try.infoCmd (cmdCs_one rfl rfl rfl rfl) ?_ rfl
        intro kg7
        have hkp : Kp (fun b => b ≠ g) w5 (w6.setCells g 4 (cmdCs 6 0 false nl (.slice B2 d.c.length d2) (.slice B6 (ownedT d.s d.m).length c6) (.slice A9 gl.length cc9)).toList) := Kp.setCells (fun _ h => h rfl) _ _ hk6
        have k27 := far_setCells hne1 (cmdCs 6 0 false nl (.slice B2 d.c.length d2) (.slice B6 (ownedT d.s d.m).length c6) (.slice A9 gl.length cc9)).toList 4 k26'
        have hg7 := hg5.kp (hkp.mono fun b h => h.2.2)
        have hc7 := CmdV.of (d := ⟨6, 0, false, [], d.c, ownedT d.s d.m, gl⟩) (k := nl) (f := .slice B2 d.c.length d2) (u := .slice B6 (ownedT d.s d.m).length c6) (p := .slice A9 gl.length cc9) (ok := fun b => ok b ∧ b ≠ w.heap.size + 1 ∧ b ≠ g) ⟨RSl.nil_ _ _ _, (bp.kp (hkp.mono fun b h => by omega)).mono (by decide) fun b h _ => ⟨hnew b (by omega), by omega, by omega⟩, (bq.kp (hkp.mono fun b h => by omega)).mono (by decide) fun b h _ => ⟨hnew b (by omega), by omega, by omega⟩, hg7⟩
        have hK7 := hK5.trans hkp
        go_upto_region 17 with fail
        refine name_world (fun w8 => Kp (fun b => b ≠ g) w w8 ∧ w.heap.size + 2 ≤ w8.heap.size ∧ Blk w8 (w.heap.size + 1) 60 zC ∧ Blk w8 g 62 (rjobCs 1 (.slice A9 gl.length cc9) true n (cmdCs 6 0 false nl (.slice B2 d.c.length d2) (.slice B6 (ownedT d.s d.m).length c6) (.slice A9 gl.length cc9))) ∧ CmdV (fun b => ok b ∧ b ≠ w.heap.size + 1) w8 (cmdCs 6 0 false nl (.slice B2 d.c.length d2) (.slice B6 (ownedT d.s d.m).length c6) (.slice A9 gl.length cc9)) ⟨6, 0, false, [], d.c, ownedT d.s d.m, gl⟩ ∧ RSl rPair (fun b => ok b ∧ b ≠ w.heap.size + 1) w8 (.slice A9 gl.length cc9) gl)
          ⟨hK7, by simp; omega, k27, kg7, hc7.mono fun b h _ => ⟨h.1, h.2.1⟩, hg7.mono (by decide) fun b h _ => ⟨h.1, h.2.1⟩⟩ ?_
        clear hK7 k27 kg7 hc7 hkp hg7 k26' hk6 hB6 bp bq
        rintro w8 ⟨hK8, hz8, k28, kg8', hcx, hgx⟩
        have hCC : (cmdCs 6 0 false nl (.slice B2 d.c.length d2) (.slice B6 (ownedT d.s d.m).length c6) (.slice A9 gl.length cc9)).size = 25 := rfl
        have l3 : ∀ s : Later w8, s.val.cell? ⟨g, 3, none⟩ = some (.int .i64 n) := fun s => ((kg8'.below s.below kg8'.lt).cell 3).trans (rjob0 _ _ _ _ _).2.2.2
        refine wp_later_many_tail 9 [(1, Sp.val (.pointer (some ⟨g, 0, none⟩))), (5, Sp.val (.pointer (some ⟨g, 0, none⟩))), (7, Sp.val (.agg (cmdCs 6 0 false nl (.slice B2 d.c.length d2) (.slice B6 (ownedT d.s d.m).length c6) (.slice A9 gl.length cc9))))] [1, 5, 7] (by as_aux_lemma => kernel_rfl) (by as_aux_lemma => kernel_rfl) (by as_aux_lemma => kernel_rfl) ?_
        intro vv hv
        have e1 : vv 1 = .pointer (some ⟨g, 0, none⟩) := hv 1 (by decide)
        have e5 : vv 5 = .pointer (some ⟨g, 0, none⟩) := hv 5 (by decide)
        have e7 : vv 7 = .agg (cmdCs 6 0 false nl (.slice B2 d.c.length d2) (.slice B6 (ownedT d.s d.m).length c6) (.slice A9 gl.length cc9)) := hv 7 (by decide)
        simp only [List.take_succ_cons, List.take_zero, List.drop_succ_cons, List.drop_zero]
        refine many_pre 1 (by decide) ?_
        simp only [List.take_succ_cons, List.take_zero, List.drop_succ_cons, List.drop_zero]
        repeat (go_big_quiet_step (fail))
        refine wpQuiet_nil (many_wild (by decide) rfl ?_ ?_)
        · intro s _
          unfold Gives
          go_simp
          exact ⟨rfl, Below.refl _ _⟩
        intro a' ha'
        subst ha'
        simp only [Act.put, List.setIfInBounds_toArray, List.set_cons_succ, List.set_cons_zero]
        rw [e1]
        refine many_pre 3 (by decide) ?_
        simp only [List.take_succ_cons, List.take_zero, List.drop_succ_cons, List.drop_zero]
        repeat (go_big_quiet_step (fail))
        refine wpQuiet_nil (many_wild (by decide) rfl ?_ ?_)
        · intro s _
          unfold Gives
          go_simp
          exact ⟨rfl, Below.refl _ _⟩
        intro a' ha'
        subst ha'
        simp only [Act.put, List.setIfInBounds_toArray, List.set_cons_succ, List.set_cons_zero]
        rw [e5]
        refine many_pre 1 (by decide) ?_
        simp only [List.take_succ_cons, List.take_zero, List.drop_succ_cons, List.drop_zero]
        repeat (go_big_quiet_step (fail))
        refine wpQuiet_nil (many_wild (by decide) rfl ?_ ?_)
        · intro s _
          exact gives_loadR rfl rfl (kg8'.below s.below kg8'.lt) Try.underlying60 rfl (by rw [hCC]; exact Try.infoCmd) ⟨rfl, Below.refl _ _⟩
        intro a' ha'
        subst ha'
        simp only [Act.put, List.setIfInBounds_toArray, List.set_cons_succ, List.set_cons_zero]
        rw [e7]
        refine many_pre 1 (by decide) ?_
        simp only [List.take_succ_cons, List.take_zero, List.drop_succ_cons, List.drop_zero]
        repeat (go_big_quiet_step (fail))
        refine wpQuiet_nil (many_end ?_)
        intro s _
        have k7 := k28.below s.below k28.lt
        have kg7 := kg8'.below s.below kg8'.lt
        have hc7 := hcx.below s.below
        have hg7 := hgx.below s.below
        have hK7 := hK8.trans ((Kp.of_below s.below).mono (ok' := fun b => b ≠ g) fun _ _ => trivial)
        clear e1 e5 e7 hv l3
        refine wpList_storeB' rfl rfl (cmdCs 6 0 false nl (.slice B2 d.c.length d2) (.slice B6 (ownedT d.s d.m).length c6) (.slice A9 gl.length cc9)) rfl rfl k7 (hCC.symm) (by rw [hCC]; exact Try.infoCmd) hcx.one ?_ rfl
        intro k8
        have lv := res_next 0 k8 hCC
        have hk8 := Kp.setCells (ok := fun b => b ≠ w.heap.size + 1) (a := s.val) (b := w.heap.size + 1) (fun _ h => h rfl) (cmdCs 6 0 false nl (.slice B2 d.c.length d2) (.slice B6 (ownedT d.s d.m).length c6) (.slice A9 gl.length cc9)).toList 0 (Kp.refl _ _)
        have hk9 := Kp.setCells (ok := fun b => b ≠ g) (a := w) (b := w.heap.size + 1) (fun h => by omega) (cmdCs 6 0 false nl (.slice B2 d.c.length d2) (.slice B6 (ownedT d.s d.m).length c6) (.slice A9 gl.length cc9)).toList 0 hK7
        have kg8 := far_setCells (fun h => hne1 h.symm) (cmdCs 6 0 false nl (.slice B2 d.c.length d2) (.slice B6 (ownedT d.s d.m).length c6) (.slice A9 gl.length cc9)).toList 0 kg7
        go_wp2
        refine bodyPost_ret (v := .tuple #[.int .i64 n, .agg (cmdCs 6 0 false nl (.slice B2 d.c.length d2) (.slice B6 (ownedT d.s d.m).length c6) (.slice A9 gl.length cc9)), .bool true]) ?_ rfl ?_
        · simp [results, Try.results33, Act.put, Sem.run_bind, Sem.run_pure, asAddr_ok, lv]
        · unfold RAskPost; rw [HS.out]; exact ⟨⟨_, rfl, (hc7.kp (hk8.mono fun b h => h.2)).mono fun b h _ => h.1⟩, ⟨_, _, kg8, (hc7.kp (hk8.mono fun b h => h.2)).mono fun b h _ => h.1, (hg7.kp (hk8.mono fun b h => h.2)).mono (by decide) fun b h _ => h.1⟩, hk9⟩
      have s1 : (ph == 1) = false := by simpa using h1
      by_cases h2 : ph = 2
      · have s2 : (ph == 2) = true := by simp [h2]
        have HS : Hid (stepJ d s ⟨ph, false, gr, cd, gl⟩ = (⟨ph, true, 0, ⟨19, n, false, [], [], [], []⟩, gl⟩, true)) := by
          rw [HS0.out]
          unfold askJ
          rw [if_neg h0, if_neg h1, if_pos h2]
          trivial
        clear HS0 h0 h1 h2
        have p3 : w3.cell? ⟨g, 3, none⟩ = some (.int .i64 gr) := (kg3.cell 3).trans (rjob0 _ _ _ _ _).2.2.2
        have fz := fun i => kg3.frozen i
        go_upto_region 16 with fail
        refine wp_region_split 9 ?_
        simp only [List.take_succ_cons, List.take_zero, List.drop_succ_cons, List.drop_zero]
        go_wp2
        show wpList _ _ _ _ _ _
        have kg5 := kg3.set_ 3 (.int .i64 0)
        rw [rjob_set3] at kg5
        refine wpList_storeR rfl rfl (cmdCs 19 n false nl nl nl nl) rfl rfl kg5 hC rfl Try.infoCmd (cmdCs_one rfl rfl rfl rfl) ?_ rfl
        intro kg7
        have hkp : Kp (fun b => b ≠ g) w3 ((w3.setCell ⟨g, 3, none⟩ (.int .i64 0)).setCells g 4 (cmdCs 19 n false nl nl nl nl).toList) := Kp.setCells (fun _ h => h rfl) _ _ ((Kp.refl _ _).setCell (fun _ h => h rfl) _)
        have k27 := far_setCells hne1 (cmdCs 19 n false nl nl nl nl).toList 4 (k23.far (p := ⟨g, 3, none⟩) hne1 (.int .i64 0))
        have hg7 := hg3.kp (hkp.mono fun b h => h.2.2)
        have hK7 := hK3.trans hkp
        clear p3 fz kg5
        go_upto_region 17 with fail
        refine name_world (fun w8 => Kp (fun b => b ≠ g) w w8 ∧ w.heap.size + 2 ≤ w8.heap.size ∧ Blk w8 (w.heap.size + 1) 60 zC ∧ Blk w8 g 62 (rjobCs ph (.slice A9 gl.length cc9) true 0 (cmdCs 19 n false nl nl nl nl)) ∧ RSl rPair (fun b => ok b ∧ b ≠ w.heap.size + 1) w8 (.slice A9 gl.length cc9) gl)
          ⟨hK7, by simp; omega, k27, kg7, hg7.mono (by decide) fun b h _ => ⟨h.1, h.2.1⟩⟩ ?_
        clear hK7 k27 kg7 hkp hg7
        rintro w8 ⟨hK8, hz8, k28, kg8', hgx⟩
        have hcx := CmdV.of (d := ⟨19, n, false, [], [], [], []⟩) (k := nl) (f := nl) (u := nl) (p := nl) (ok := fun b => ok b ∧ b ≠ w.heap.size + 1) (w := w8) ⟨RSl.nil_ _ _ _, RSl.nil_ _ _ _, RSl.nil_ _ _ _, RSl.nil_ _ _ _⟩
        have hCC : (cmdCs 19 n false nl nl nl nl).size = 25 := rfl
        have l3 : ∀ s : Later w8, s.val.cell? ⟨g, 3, none⟩ = some (.int .i64 0) := fun s => ((kg8'.below s.below kg8'.lt).cell 3).trans (rjob0 _ _ _ _ _).2.2.2
        refine wp_later_many_tail 9 [(1, Sp.val (.pointer (some ⟨g, 0, none⟩))), (5, Sp.val (.pointer (some ⟨g, 0, none⟩))), (7, Sp.val (.agg (cmdCs 19 n false nl nl nl nl)))] [1, 5, 7] (by as_aux_lemma => kernel_rfl) (by as_aux_lemma => kernel_rfl) (by as_aux_lemma => kernel_rfl) ?_
        intro vv hv
        have e1 : vv 1 = .pointer (some ⟨g, 0, none⟩) := hv 1 (by decide)
        have e5 : vv 5 = .pointer (some ⟨g, 0, none⟩) := hv 5 (by decide)
        have e7 : vv 7 = .agg (cmdCs 19 n false nl nl nl nl) := hv 7 (by decide)
        simp only [List.take_succ_cons, List.take_zero, List.drop_succ_cons, List.drop_zero]
        refine many_pre 1 (by decide) ?_
        simp only [List.take_succ_cons, List.take_zero, List.drop_succ_cons, List.drop_zero]
        repeat (go_big_quiet_step (fail))
        refine wpQuiet_nil (many_wild (by decide) rfl ?_ ?_)
        · intro s _
          unfold Gives
          go_simp
          exact ⟨rfl, Below.refl _ _⟩
        intro a' ha'
        subst ha'
        simp only [Act.put, List.setIfInBounds_toArray, List.set_cons_succ, List.set_cons_zero]
        rw [e1]
        refine many_pre 3 (by decide) ?_
        simp only [List.take_succ_cons, List.take_zero, List.drop_succ_cons, List.drop_zero]
        repeat (go_big_quiet_step (fail))
        refine wpQuiet_nil (many_wild (by decide) rfl ?_ ?_)
        · intro s _
          unfold Gives
          go_simp
          exact ⟨rfl, Below.refl _ _⟩
        intro a' ha'
        subst ha'
        simp only [Act.put, List.setIfInBounds_toArray, List.set_cons_succ, List.set_cons_zero]
        rw [e5]
        refine many_pre 1 (by decide) ?_
        simp only [List.take_succ_cons, List.take_zero, List.drop_succ_cons, List.drop_zero]
        repeat (go_big_quiet_step (fail))
        refine wpQuiet_nil (many_wild (by decide) rfl ?_ ?_)
        · intro s _
          exact gives_loadR rfl rfl (kg8'.below s.below kg8'.lt) Try.underlying60 rfl (by rw [hCC]; exact Try.infoCmd) ⟨rfl, Below.refl _ _⟩
        intro a' ha'
        subst ha'
        simp only [Act.put, List.setIfInBounds_toArray, List.set_cons_succ, List.set_cons_zero]
        rw [e7]
        refine many_pre 1 (by decide) ?_
        simp only [List.take_succ_cons, List.take_zero, List.drop_succ_cons, List.drop_zero]
        repeat (go_big_quiet_step (fail))
        refine wpQuiet_nil (many_end ?_)
        intro s _
        have k7 := k28.below s.below k28.lt
        have kg7 := kg8'.below s.below kg8'.lt
        have hc7 := hcx.below s.below
        have hg7 := hgx.below s.below
        have hK7 := hK8.trans ((Kp.of_below s.below).mono (ok' := fun b => b ≠ g) fun _ _ => trivial)
        clear e1 e5 e7 hv l3
        refine wpList_storeB' rfl rfl (cmdCs 19 n false nl nl nl nl) rfl rfl k7 (hCC.symm) (by rw [hCC]; exact Try.infoCmd) hcx.one ?_ rfl
        intro k8
        have lv := res_next 0 k8 hCC
        have hk8 := Kp.setCells (ok := fun b => b ≠ w.heap.size + 1) (a := s.val) (b := w.heap.size + 1) (fun _ h => h rfl) (cmdCs 19 n false nl nl nl nl).toList 0 (Kp.refl _ _)
        have hk9 := Kp.setCells (ok := fun b => b ≠ g) (a := w) (b := w.heap.size + 1) (fun h => by omega) (cmdCs 19 n false nl nl nl nl).toList 0 hK7
        have kg8 := far_setCells (fun h => hne1 h.symm) (cmdCs 19 n false nl nl nl nl).toList 0 kg7
        go_wp2
        refine bodyPost_ret (v := .tuple #[.int .i64 0, .agg (cmdCs 19 n false nl nl nl nl), .bool true]) ?_ rfl ?_
        · simp [results, Try.results33, Act.put, Sem.run_bind, Sem.run_pure, asAddr_ok, lv]
        · unfold RAskPost; rw [HS.out]; exact ⟨⟨_, rfl, (hc7.kp (hk8.mono fun b h => h.2)).mono fun b h _ => h.1⟩, ⟨_, _, kg8, (hc7.kp (hk8.mono fun b h => h.2)).mono fun b h _ => h.1, (hg7.kp (hk8.mono fun b h => h.2)).mono (by decide) fun b h _ => h.1⟩, hk9⟩
      · have s2 : (ph == 2) = false := by simpa using h2
        have HS : Hid (stepJ d s ⟨ph, false, gr, cd, gl⟩ = (⟨ph, true, 0, ⟨19, 0, true, [], [], [], []⟩, gl⟩, true)) := by
          rw [HS0.out]
          unfold askJ
          rw [if_neg h0, if_neg h1, if_neg h2]
          trivial
        clear HS0 h0 h1 h2
        have p3 : w3.cell? ⟨g, 3, none⟩ = some (.int .i64 gr) := (kg3.cell 3).trans (rjob0 _ _ _ _ _).2.2.2
        have fz := fun i => kg3.frozen i
        go_upto_region 9 with fail
        refine wp_region_split 8 ?_
        simp only [List.take_succ_cons, List.take_zero, List.drop_succ_cons, List.drop_zero]
        go_wp2
        show wpList _ _ _ _ _ _
        have kg5 := kg3.set_ 3 (.int .i64 0)
        rw [rjob_set3] at kg5
        refine wpList_storeR rfl rfl (cmdCs 19 0 true nl nl nl nl) rfl rfl kg5 hC rfl Try.infoCmd (cmdCs_one rfl rfl rfl rfl) ?_ rfl
        intro kg7
        have hkp : Kp (fun b => b ≠ g) w3 ((w3.setCell ⟨g, 3, none⟩ (.int .i64 0)).setCells g 4 (cmdCs 19 0 true nl nl nl nl).toList) := Kp.setCells (fun _ h => h rfl) _ _ ((Kp.refl _ _).setCell (fun _ h => h rfl) _)
        have k27 := far_setCells hne1 (cmdCs 19 0 true nl nl nl nl).toList 4 (k23.far (p := ⟨g, 3, none⟩) hne1 (.int .i64 0))
        have hg7 := hg3.kp (hkp.mono fun b h => h.2.2)
        have hK7 := hK3.trans hkp
        clear p3 fz kg5
        go_upto_region 17 with fail
        refine name_world (fun w8 => Kp (fun b => b ≠ g) w w8 ∧ w.heap.size + 2 ≤ w8.heap.size ∧ Blk w8 (w.heap.size + 1) 60 zC ∧ Blk w8 g 62 (rjobCs ph (.slice A9 gl.length cc9) true 0 (cmdCs 19 0 true nl nl nl nl)) ∧ RSl rPair (fun b => ok b ∧ b ≠ w.heap.size + 1) w8 (.slice A9 gl.length cc9) gl)
          ⟨hK7, by simp; omega, k27, kg7, hg7.mono (by decide) fun b h _ => ⟨h.1, h.2.1⟩⟩ ?_
        clear hK7 k27 kg7 hkp hg7
        rintro w8 ⟨hK8, hz8, k28, kg8', hgx⟩
        have hcx := CmdV.of (d := ⟨19, 0, true, [], [], [], []⟩) (k := nl) (f := nl) (u := nl) (p := nl) (ok := fun b => ok b ∧ b ≠ w.heap.size + 1) (w := w8) ⟨RSl.nil_ _ _ _, RSl.nil_ _ _ _, RSl.nil_ _ _ _, RSl.nil_ _ _ _⟩
        have hCC : (cmdCs 19 0 true nl nl nl nl).size = 25 := rfl
        have l3 : ∀ s : Later w8, s.val.cell? ⟨g, 3, none⟩ = some (.int .i64 0) := fun s => ((kg8'.below s.below kg8'.lt).cell 3).trans (rjob0 _ _ _ _ _).2.2.2
        refine wp_later_many_tail 9 [(1, Sp.val (.pointer (some ⟨g, 0, none⟩))), (5, Sp.val (.pointer (some ⟨g, 0, none⟩))), (7, Sp.val (.agg (cmdCs 19 0 true nl nl nl nl)))] [1, 5, 7] (by as_aux_lemma => kernel_rfl) (by as_aux_lemma => kernel_rfl) (by as_aux_lemma => kernel_rfl) ?_
        intro vv hv
        have e1 : vv 1 = .pointer (some ⟨g, 0, none⟩) := hv 1 (by decide)
        have e5 : vv 5 = .pointer (some ⟨g, 0, none⟩) := hv 5 (by decide)
        have e7 : vv 7 = .agg (cmdCs 19 0 true nl nl nl nl) := hv 7 (by decide)
        simp only [List.take_succ_cons, List.take_zero, List.drop_succ_cons, List.drop_zero]
        refine many_pre 1 (by decide) ?_
        simp only [List.take_succ_cons, List.take_zero, List.drop_succ_cons, List.drop_zero]
        repeat (go_big_quiet_step (fail))
        refine wpQuiet_nil (many_wild (by decide) rfl ?_ ?_)
        · intro s _
          unfold Gives
          go_simp
          exact ⟨rfl, Below.refl _ _⟩
        intro a' ha'
        subst ha'
        simp only [Act.put, List.setIfInBounds_toArray, List.set_cons_succ, List.set_cons_zero]
        rw [e1]
        refine many_pre 3 (by decide) ?_
        simp only [List.take_succ_cons, List.take_zero, List.drop_succ_cons, List.drop_zero]
        repeat (go_big_quiet_step (fail))
        refine wpQuiet_nil (many_wild (by decide) rfl ?_ ?_)
        · intro s _
          unfold Gives
          go_simp
          exact ⟨rfl, Below.refl _ _⟩
        intro a' ha'
        subst ha'
        simp only [Act.put, List.setIfInBounds_toArray, List.set_cons_succ, List.set_cons_zero]
        rw [e5]
        refine many_pre 1 (by decide) ?_
        simp only [List.take_succ_cons, List.take_zero, List.drop_succ_cons, List.drop_zero]
        repeat (go_big_quiet_step (fail))
        refine wpQuiet_nil (many_wild (by decide) rfl ?_ ?_)
        · intro s _
          exact gives_loadR rfl rfl (kg8'.below s.below kg8'.lt) Try.underlying60 rfl (by rw [hCC]; exact Try.infoCmd) ⟨rfl, Below.refl _ _⟩
        intro a' ha'
        subst ha'
        simp only [Act.put, List.setIfInBounds_toArray, List.set_cons_succ, List.set_cons_zero]
        rw [e7]
        refine many_pre 1 (by decide) ?_
        simp only [List.take_succ_cons, List.take_zero, List.drop_succ_cons, List.drop_zero]
        repeat (go_big_quiet_step (fail))
        refine wpQuiet_nil (many_end ?_)
        intro s _
        have k7 := k28.below s.below k28.lt
        have kg7 := kg8'.below s.below kg8'.lt
        have hc7 := hcx.below s.below
        have hg7 := hgx.below s.below
        have hK7 := hK8.trans ((Kp.of_below s.below).mono (ok' := fun b => b ≠ g) fun _ _ => trivial)
        clear e1 e5 e7 hv l3
        refine wpList_storeB' rfl rfl (cmdCs 19 0 true nl nl nl nl) rfl rfl k7 (hCC.symm) (by rw [hCC]; exact Try.infoCmd) hcx.one ?_ rfl
        intro k8
        have lv := res_next 0 k8 hCC
        have hk8 := Kp.setCells (ok := fun b => b ≠ w.heap.size + 1) (a := s.val) (b := w.heap.size + 1) (fun _ h => h rfl) (cmdCs 19 0 true nl nl nl nl).toList 0 (Kp.refl _ _)
        have hk9 := Kp.setCells (ok := fun b => b ≠ g) (a := w) (b := w.heap.size + 1) (fun h => by omega) (cmdCs 19 0 true nl nl nl nl).toList 0 hK7
        have kg8 := far_setCells (fun h => hne1 h.symm) (cmdCs 19 0 true nl nl nl nl).toList 0 kg7
        go_wp2
        refine bodyPost_ret (v := .tuple #[.int .i64 0, .agg (cmdCs 19 0 true nl nl nl nl), .bool true]) ?_ rfl ?_
        · simp [results, Try.results33, Act.put, Sem.run_bind, Sem.run_pure, asAddr_ok, lv]
        · unfold RAskPost; rw [HS.out]; exact ⟨⟨_, rfl, (hc7.kp (hk8.mono fun b h => h.2)).mono fun b h _ => h.1⟩, ⟨_, _, kg8, (hc7.kp (hk8.mono fun b h => h.2)).mono fun b h _ => h.1, (hg7.kp (hk8.mono fun b h => h.2)).mono (by decide) fun b h _ => h.1⟩, hk9⟩
end Go.Proofs.Ytikkknaofiafhaa
