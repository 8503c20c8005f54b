/- SplitPlays' walk. -/
import Derived.Test.YtikkknaofiafhaaP12
import Derived.Test.YtikkknaofiafhaaP3
namespace Go.Proofs.Ytikkknaofiafhaa
open Go.RowKit

set_option maxRecDepth 100000 in
set_option maxHeartbeats 20000000 in
theorem lawPlays (d0 : RouteD) (a0 c0 : Value) (sp : Int) (v : Value) (l : List OpD) (w : World) (hr0 : RouteR (fun _ => True) w a0 c0 d0) (hs : I64 sp) (ho0 : RSl rOp (fun _ => True) w v l) :
    Calls Try.prog 6 #[.agg (routeCs d0 a0 c0), .int .i64 sp, v] w fun e w' => e = .returned (.bool true) ∧ Below w.heap.size w w' := by
  have hr := hr0.mono (ok' := fun b => b < w.heap.size) fun b _ h => h
  have ho := ho0.mono (ok' := fun b => b < w.heap.size) (by decide) fun b _ h => h
  clear hr0 ho0
  obtain ⟨A, cc, rfl, hcc, hbd⟩ := hr.s.form
  obtain ⟨A2, cc2, rfl, hcc2, hbd2⟩ := hr.c.form
  obtain ⟨A7, c7, rfl, hc7, hbd7⟩ := ho.form
  go_enter Try.func6, Try.ntmps6
  go_upto_region 1 with fail
  refine name_world (fun w1 => Below w.heap.size w w1 ∧ w.heap.size + 1 ≤ w1.heap.size ∧ Blk w1 w.heap.size 42 (routeCs d0 (.slice A d0.s.length cc) (.slice A2 d0.c.length cc2)))
    ⟨(Below.refl _ _).alloc (Nat.le_refl _) _, by simp, Blk.new _ _ _⟩ ?_
  rintro w1 ⟨hB1, hz1, k1⟩
  go_wp2_with fail
  refine (splitNew_any _).mono ?_
  rintro e w2 ⟨rfl, kg, hb2⟩
  have hz2 := kg.lt
  go_upto_region 2 with fail
  refine name_world (fun w3 => Below w.heap.size w w3 ∧ Blk w3 w.heap.size 42 (routeCs d0 (.slice A d0.s.length cc) (.slice A2 d0.c.length cc2)) ∧ Blk w3 w1.heap.size 129 (jobCs 0 false 0 zC nl) ∧ Blk w3 w2.heap.size 62 (rjobCs 0 nl false 0 zC))
    ⟨(hB1.trans (hb2.mono hB1.size)).alloc (Nat.le_trans hB1.size hb2.size) _, (k1.below hb2 k1.lt).alloc _, kg.alloc _, Blk.new_ rfl⟩ ?_
  rintro w3 ⟨hB3, k3, kg3, kh3⟩
  have ap : Apart w.heap.size w.heap.size w1.heap.size w2.heap.size := ⟨Nat.le_refl _, by omega, by omega, by omega, by omega, by omega⟩
  have p3 : PS w w.heap.size w1.heap.size w2.heap.size d0 (.slice A d0.s.length cc) (.slice A2 d0.c.length cc2) zJob zJob w3 :=
    ⟨hB3, k3, hr.kp (.of_below hB3), ⟨zC, nl, kg3, CmdV.of (d := zCmd) (k := nl) (f := nl) (u := nl) (p := nl) ⟨RSl.nil_ _ _ _, RSl.nil_ _ _ _, RSl.nil_ _ _ _, RSl.nil_ _ _ _⟩, RSl.nil_ _ _ _⟩, ⟨zC, nl, kh3, CmdV.of (d := zCmd) (k := nl) (f := nl) (u := nl) (p := nl) ⟨RSl.nil_ _ _ _, RSl.nil_ _ _ _, RSl.nil_ _ _ _, RSl.nil_ _ _ _⟩, RSl.nil_ _ _ _⟩⟩
  clear k1 kg hb2 hB1 k3 kg3 kh3 hB3 hr
  obtain ⟨g, hg⟩ : ∃ g, g = w1.heap.size := ⟨_, rfl⟩
  obtain ⟨h, hh⟩ : ∃ h, h = w2.heap.size := ⟨_, rfl⟩
  rw [← hg, ← hh] at ap p3
  rw [← hg, ← hh]
  clear hg hh hz1 hz2
  by_cases c1 : 4 < d0.s.length
  · have t4 : decide ((4 : Int) < (d0.s.length : Int)) = true := decide_eq_true (by omega)
    go_wp2_with fail
    refine (awakeSplit_any _).mono ?_
    rintro e w4 ⟨rfl, hb4⟩
    have p4 := p3.below hb4
    obtain ⟨_, _, r2, _, _⟩ := route_cells p4.blk
    go_wp2_with fail
    refine (awakeSplit_any _).mono ?_
    rintro e w5 ⟨rfl, hb5⟩
    go_wp2
    go_ret
    exact ⟨rfl, (p4.below hb5).bel⟩
  have t4 : decide ((4 : Int) < (d0.s.length : Int)) = false := decide_eq_false (by omega)
  refine wp_region_split 13 ?_
  simp only [List.take_succ_cons, List.take_zero, List.drop_succ_cons, List.drop_zero]
  go_wp2_with fail
  refine (awakeSplit_any _).mono ?_
  rintro e w4 ⟨rfl, hb4⟩
  have p4 := p3.below hb4
  obtain ⟨_, _, r2, _, _⟩ := route_cells p4.blk
  go_wp2
  show wpList _ _ _ _ _ _
  refine wpList_loadG rfl rfl rfl p4.blk Try.underlying42 rfl Try.infoRoutes ?_
  simp only [Act.put, List.setIfInBounds_toArray, List.set_cons_succ, List.set_cons_zero]
  go_wp2_with fail
  refine (routeRight_any d0 _ _ _ p4.rt).mono ?_
  rintro e w5 ⟨⟨bb, rfl, hbb⟩, hb5⟩
  have p5 := p4.below hb5
  cases bb
  case false =>
    go_wp2_with fail
    refine (awakeSplit_any _).mono ?_
    rintro e w6 ⟨rfl, hb6⟩
    go_wp2
    go_ret
    exact ⟨rfl, (p5.below hb6).bel⟩
  have hbr := hbb rfl
  clear hbb r2 t4
  go_wp2
  go_loopw [9] (fun iv wr => ∃ (k : Nat) (d : RouteD) (a c : Value) (j : JobD), k ≤ l.length ∧ iv = .int .i64 (k : Int) ∧ PS w w.heap.size g h d a c j j wr ∧ (1 ≤ d.b ∧ d.b ≤ 4)) (fun iv _ => l.length - (intOf iv).toNat)
  case atStart => exact ⟨0, d0, _, _, zJob, by omega, rfl, p5, hbr⟩
  case round =>
    obtain ⟨k, d, a, c, j, hk', rfl, pr, hb⟩ := hrel
    by_cases hlt : k < l.length
    case neg =>
      have t0 : decide ((k : Int) < (l.length : Int)) = false := decide_eq_false (by omega)
      go_wp2
      go_ret
      exact ⟨rfl, pr.bel⟩
    have t0 : decide ((k : Int) < (l.length : Int)) = true := decide_eq_true (by omega)
    by_cases h60 : k < 60
    case neg =>
      have t1 : decide ((k : Int) < 60) = false := decide_eq_false (by omega)
      go_wp2
      go_ret
      exact ⟨rfl, pr.bel⟩
    have t1 : decide ((k : Int) < 60) = true := decide_eq_true (by omega)
    obtain ⟨b1, off1, c1', cs1, hv1, hb1, ⟨a2, x2, R, rfl, hrt, hrep, hone⟩, hcell1⟩ := ho.at_ hlt
    simp only [Value.slice.injEq, true_and] at hv1
    obtain ⟨rfl, rfl⟩ := hv1
    obtain ⟨od, hod⟩ : ∃ o, o = l[k] := ⟨_, rfl⟩
    rw [← hod] at hcell1 hrt hrep
    clear hod
    obtain ⟨odd, nw, rt, err, ps⟩ := od
    simp only at hcell1 hrt hrep
    have hrsz := hrep.size
    have HREP : ∀ w', Below w.heap.size w w' → RepR (fun b => b < w.heap.size) w' R err ps := fun w' hb => hrep.kp (.of_below hb)
    have HRT : ∀ w', Below w.heap.size w w' → RouteR (fun b => b < w.heap.size) w' a2 x2 rt := fun w' hb => hrt.kp (.of_below hb)
    obtain ⟨v9, hv9, hps⟩ := hrep.ps
    obtain ⟨A9, c9, rfl, _, _⟩ := hps.form
    obtain ⟨Ar, cr, rfl, _, _⟩ := hrt.s.form
    go_upto_region 7 with fail
    refine wp_region_split 3 ?_
    simp only [List.take_succ_cons, List.take_zero, List.drop_succ_cons, List.drop_zero]
    go_wp2
    show wpList _ _ _ _ _ _
    refine wpList_loadM (C := opCs odd nw (routeCs rt (.slice Ar rt.s.length cr) x2) R) (g := b1) (off := off1 + k * 22) rfl rfl rfl (fun j u hu => (Kp.of_below pr.bel).cell (ok := fun b => b < w.heap.size) hb1 (hcell1 j u hu)) Try.underlying72 rfl (by rw [opCs_size rfl hrsz]; exact Try.infoOp) ?_
    simp only [Act.put, List.setIfInBounds_toArray, List.set_cons_succ, List.set_cons_zero]
    refine wpList_split 1 ?_
    simp only [List.take_succ_cons, List.take_zero, List.drop_succ_cons, List.drop_zero]
    go_wp2
    show wpList _ _ _ _ _ _
    refine wpList_storeB' rfl rfl (opCs odd nw (routeCs rt (.slice Ar rt.s.length cr) x2) R) rfl rfl (Blk.new_ rfl) (by rw [opCs_size rfl hrsz]; rfl) (by rw [opCs_size rfl hrsz]; exact Try.infoOp) (op_one hrt hone) ?_ rfl
    intro ko
    have hB7 := fun zs => below_setCells (B := wr.heap.size) (a := wr) (b := wr.heap.size) (Nat.le_refl _) (opCs odd nw (routeCs rt (.slice Ar rt.s.length cr) x2) R).toList 0 ((Below.refl _ _).alloc (Nat.le_refl _) (.cells zs 72))
    go_upto_region 8 with fail
    refine name_world (fun w8 => Below wr.heap.size wr w8 ∧ Blk w8 wr.heap.size 72 (opCs odd nw (routeCs rt (.slice Ar rt.s.length cr) x2) R)) ⟨hB7 _, ko⟩ ?_
    clear ko hB7
    rintro w8 ⟨hB8, k8⟩
    have p8 := pr.below hB8
    have hos : wr.heap.size ≠ w.heap.size := by have := pr.blk.lt; omega
    have hog : wr.heap.size ≠ g := by have := pr.pj.lt; omega
    have hoh : wr.heap.size ≠ h := by have := pr.rj.lt; omega
    obtain ⟨o, hoo⟩ : ∃ o, o = wr.heap.size := ⟨_, rfl⟩
    rw [← hoo] at k8 hos hog hoh
    rw [← hoo]
    clear hoo hB8 pr t0 t1 hcell1 hps hrep hone hb1
    have q11 : w8.cell? ⟨o, 11, none⟩ = some (.slice A9 ps.length c9) := (k8.cell 11).trans ((op_r rfl 4).trans hv9)
    by_cases c60 : 60 < ps.length
    · have t : decide ((60 : Int) < (ps.length : Int)) = true := decide_eq_true (by omega)
      go_wp2
      go_roundw
      case rel => exact ⟨k + 1, d, a, c, j, by omega, by go_num, p8, hb⟩
      case measure => simp [intOf]; omega
    have t60 : decide ((60 : Int) < (ps.length : Int)) = false := decide_eq_false (by omega)
    have HPS := Lib.hid (show ps.length ≤ 60 by omega)
    clear c60
    have q1 : w8.cell? ⟨o, 1, none⟩ = some (.bool nw) := (k8.cell 1).trans op_new
    cases nw
    case true =>
      have q4 : w8.cell? ⟨o, 4, none⟩ = some (.slice Ar rt.s.length cr) := (k8.cell 4).trans (op_rt rfl 2 _ rfl)
      by_cases c4 : rt.s.length ≤ 4
      case neg =>
        have t : decide ((rt.s.length : Int) ≤ 4) = false := decide_eq_false (by omega)
        go_wp2
        go_roundw
        case rel => exact ⟨k + 1, d, a, c, j, by omega, by go_num, p8, hb⟩
        case measure => simp [intOf]; omega
      have t : decide ((rt.s.length : Int) ≤ 4) = true := decide_eq_true (by omega)
      go_upto_region 10 with fail
      refine wp_region_split 7 ?_
      simp only [List.take_succ_cons, List.take_zero, List.drop_succ_cons, List.drop_zero]
      go_wp2
      show wpList _ _ _ _ _ _
      refine wpList_loadM (C := routeCs rt (.slice Ar rt.s.length cr) x2) (g := o) (off := 2) rfl rfl rfl (k8.range_at _ fun j u hu => op_rt rfl j u (by simpa using hu)) Try.underlying42 rfl Try.infoRoutes ?_
      simp only [Act.put, List.setIfInBounds_toArray, List.set_cons_succ, List.set_cons_zero]
      go_wp2_with fail
      refine (routeRight_any rt _ _ _ (HRT _ p8.bel)).mono ?_
      rintro e w9 ⟨⟨bb, rfl, hbb⟩, hb9⟩
      have p9 := p8.below hb9
      have k9 := k8.below hb9 k8.lt
      cases bb
      case false =>
        go_wp2
        go_roundw
        case rel => exact ⟨k + 1, d, a, c, j, by omega, by go_num, p9, hb⟩
        case measure => simp [intOf]; omega
      have hbr2 := hbb rfl
      clear hbb q1 q4 q11
      go_upto_region 11 with fail
      refine wp_region_split 1 ?_
      simp only [List.take_succ_cons, List.take_zero, List.drop_succ_cons, List.drop_zero]
      go_wp2
      show wpList _ _ _ _ _ _
      refine wpList_loadM (C := routeCs rt (.slice Ar rt.s.length cr) x2) (g := o) (off := 2) rfl rfl rfl (k9.range_at _ fun j u hu => op_rt rfl j u (by simpa using hu)) Try.underlying42 rfl Try.infoRoutes ?_
      simp only [Act.put, List.setIfInBounds_toArray, List.set_cons_succ, List.set_cons_zero]
      refine wpList_storeB' rfl rfl (routeCs rt (.slice Ar rt.s.length cr) x2) rfl rfl p9.blk rfl Try.infoRoutes (route_one (HRT _ p9.bel)) ?_ rfl
      intro ks
      have pz := p9.route ap (Kp.setCells (ok := fun b => b ≠ w.heap.size) (a := w9) (b := w.heap.size) (fun _ hh => hh rfl) (routeCs rt (.slice Ar rt.s.length cr) x2).toList 0 (Kp.refl _ _)) ks (HRT _ p9.bel)
      go_wp2
      go_roundw
      case rel => exact ⟨k + 1, rt, _, _, j, by omega, by go_num, pz, hbr2⟩
      case measure => simp [intOf]; omega
    have q0 : w8.cell? ⟨o, 0, none⟩ = some (.bool odd) := (k8.cell 0).trans op_odd
    cases odd
    case true =>
      obtain ⟨vals, v2, v3, v6, v7⟩ : ∃ vals : Nat → Value, vals 2 = .agg R ∧ vals 3 = .int .i64 (gotJ j err ps).2 ∧ vals 6 = .agg R ∧ vals 7 = .int .i64 (gotJ j err ps).2 := ⟨fun k => if k = 2 ∨ k = 6 then .agg R else .int .i64 (gotJ j err ps).2, by simp, by simp, by simp, by simp⟩
      go_upto_region 13 with fail
      refine wp_two (fun b => b ≠ g ∧ b ≠ h) 3 7 (FP w.heap.size g h j (gotJ j err ps).1) (FD w.heap.size g h j (gotJ j err ps).1) vals [2, 3, 6, 7] (by as_aux_lemma => kernel_rfl) (by as_aux_lemma => kernel_rfl) (by simpa [FP] using p8.pj.kp (Kp.refl _ _).drew rfl) (by simpa [FD] using p8.rj.kp (Kp.refl _ _).drew rfl) ?_
      refine manyt_pre 2 (by decide) ?_ (by kernel_rfl)
      simp only [List.take_succ_cons, List.take_zero, List.drop_succ_cons, List.drop_zero]
      repeat (go_big_quiet_step (fail))
      refine wpQuiet_nil ?_
      refine manyt_wild (by decide) (by kernel_rfl) ?_ ?_
      · intro s b1 b2 _ _ f1 f2
        exact gives_loadM (C := R) (g := o) (off := 7) rfl rfl ((k8.kp s.kp ⟨hog, hoh⟩).range_at _ fun j u hu => (op_r rfl j).trans (by simpa using hu)) Try.underlying70 rfl (by rw [hrsz]; exact Try.infoReply) ⟨v2.symm, Kp.refl _ _, by simpa using f1, by simpa using f2⟩
      intro a' ha'
      subst ha'
      simp only [Act.put, List.setIfInBounds_toArray, List.set_cons_succ, List.set_cons_zero]
      rw [v2]
      refine manyt_wild (by decide) (by kernel_rfl) ?_ ?_
      · intro s b1 b2 hb1 _ f1 f2
        unfold Gives
        go_simp
        exact gotP_step ap (Nat.lt_of_lt_of_le p8.blk.lt s.kp.size) (Nat.lt_of_lt_of_le p8.rj.lt s.kp.size) ((HREP _ p8.bel).kp (s.kp.mono fun b hb => by have := ap.bg; have := ap.bh; omega)) (hb1 rfl) f1 f2
      intro a' ha'
      subst ha'
      simp only [Act.put, List.setIfInBounds_toArray, List.set_cons_succ, List.set_cons_zero]
      rw [v3]
      refine manyt_pre 2 (by decide) ?_ (by kernel_rfl)
      simp only [List.take_succ_cons, List.take_zero, List.drop_succ_cons, List.drop_zero]
      repeat (go_big_quiet_step (fail))
      refine wpQuiet_nil ?_
      refine manyt_wild (by decide) (by kernel_rfl) ?_ ?_
      · intro s b1 b2 _ _ f1 f2
        exact gives_loadM (C := R) (g := o) (off := 7) rfl rfl ((k8.kp s.kp ⟨hog, hoh⟩).range_at _ fun j u hu => (op_r rfl j).trans (by simpa using hu)) Try.underlying70 rfl (by rw [hrsz]; exact Try.infoReply) ⟨v6.symm, Kp.refl _ _, by simpa using f1, by simpa using f2⟩
      intro a' ha'
      subst ha'
      simp only [Act.put, List.setIfInBounds_toArray, List.set_cons_succ, List.set_cons_zero]
      rw [v6]
      refine manyt_wild (by decide) (by kernel_rfl) ?_ ?_
      · intro s b1 b2 _ hb2 f1 f2
        unfold Gives
        go_simp
        exact gotD_step ap (Nat.lt_of_lt_of_le p8.blk.lt s.kp.size) (Nat.lt_of_lt_of_le p8.pj.lt s.kp.size) HPS.out ((HREP _ p8.bel).kp (s.kp.mono fun b hb => by have := ap.bg; have := ap.bh; omega)) (hb2 rfl) f1 f2
      intro a' ha'
      subst ha'
      simp only [Act.put, List.setIfInBounds_toArray, List.set_cons_succ, List.set_cons_zero]
      rw [v7]
      refine manyt_pre 1 (by decide) ?_ (by kernel_rfl)
      simp only [List.take_succ_cons, List.take_zero, List.drop_succ_cons, List.drop_zero]
      repeat (go_big_quiet_step (fail))
      refine wpQuiet_nil (manyt_end (by decide) ?_)
      intro wz hkz f1 f2
      have pz := p8.two ap hkz (by simpa [FP] using f1) (by simpa [FD] using f2)
      go_wp2
      go_roundw
      case rel => exact ⟨k + 1, d, a, c, _, by omega, by go_num, pz, hb⟩
      case measure => simp [intOf]; omega
    go_wp2
    clear q0 q1 q11
    go_loopw [11] (fun kv wr => ∃ (n : Nat) (j1 : JobD), n ≤ 2 ∧ kv = .int .i64 (n : Int) ∧ PS w w.heap.size g h d a c j1 j1 wr ∧ Blk wr o 72 (opCs false false (routeCs rt (.slice Ar rt.s.length cr) x2) R)) (fun kv _ => 2 - (intOf kv).toNat)
    case atStart => exact ⟨0, j, by omega, rfl, p8, k8⟩
    case round =>
      obtain ⟨n, j1, hn, rfl, pq, kq⟩ := hrel
      by_cases hn2 : n < 2
      case neg =>
        have t : decide ((n : Int) < 2) = false := decide_eq_false (by omega)
        obtain ⟨vals, v2, v3, v6, v7⟩ : ∃ vals : Nat → Value, vals 2 = .agg R ∧ vals 3 = .int .i64 (gotJ j1 err ps).2 ∧ vals 6 = .agg R ∧ vals 7 = .int .i64 (gotJ j1 err ps).2 := ⟨fun k => if k = 2 ∨ k = 6 then .agg R else .int .i64 (gotJ j1 err ps).2, by simp, by simp, by simp, by simp⟩
        go_upto_region 22 with fail
        refine wp_two (fun b => b ≠ g ∧ b ≠ h) 3 7 (FP w.heap.size g h j1 (gotJ j1 err ps).1) (FD w.heap.size g h j1 (gotJ j1 err ps).1) vals [2, 3, 6, 7] (by as_aux_lemma => kernel_rfl) (by as_aux_lemma => kernel_rfl) (by simpa [FP] using pq.pj.kp (Kp.refl _ _).drew rfl) (by simpa [FD] using pq.rj.kp (Kp.refl _ _).drew rfl) ?_
        refine manyt_pre 2 (by decide) ?_ (by kernel_rfl)
        simp only [List.take_succ_cons, List.take_zero, List.drop_succ_cons, List.drop_zero]
        repeat (go_big_quiet_step (fail))
        refine wpQuiet_nil ?_
        refine manyt_wild (by decide) (by kernel_rfl) ?_ ?_
        · intro s b1 b2 _ _ f1 f2
          exact gives_loadM (C := R) (g := o) (off := 7) rfl rfl ((kq.kp s.kp ⟨hog, hoh⟩).range_at _ fun j u hu => (op_r rfl j).trans (by simpa using hu)) Try.underlying70 rfl (by rw [hrsz]; exact Try.infoReply) ⟨v2.symm, Kp.refl _ _, by simpa using f1, by simpa using f2⟩
        intro a' ha'
        subst ha'
        simp only [Act.put, List.setIfInBounds_toArray, List.set_cons_succ, List.set_cons_zero]
        rw [v2]
        refine manyt_wild (by decide) (by kernel_rfl) ?_ ?_
        · intro s b1 b2 hb1 _ f1 f2
          unfold Gives
          go_simp
          exact gotP_step ap (Nat.lt_of_lt_of_le pq.blk.lt s.kp.size) (Nat.lt_of_lt_of_le pq.rj.lt s.kp.size) ((HREP _ pq.bel).kp (s.kp.mono fun b hb => by have := ap.bg; have := ap.bh; omega)) (hb1 rfl) f1 f2
        intro a' ha'
        subst ha'
        simp only [Act.put, List.setIfInBounds_toArray, List.set_cons_succ, List.set_cons_zero]
        rw [v3]
        refine manyt_pre 2 (by decide) ?_ (by kernel_rfl)
        simp only [List.take_succ_cons, List.take_zero, List.drop_succ_cons, List.drop_zero]
        repeat (go_big_quiet_step (fail))
        refine wpQuiet_nil ?_
        refine manyt_wild (by decide) (by kernel_rfl) ?_ ?_
        · intro s b1 b2 _ _ f1 f2
          exact gives_loadM (C := R) (g := o) (off := 7) rfl rfl ((kq.kp s.kp ⟨hog, hoh⟩).range_at _ fun j u hu => (op_r rfl j).trans (by simpa using hu)) Try.underlying70 rfl (by rw [hrsz]; exact Try.infoReply) ⟨v6.symm, Kp.refl _ _, by simpa using f1, by simpa using f2⟩
        intro a' ha'
        subst ha'
        simp only [Act.put, List.setIfInBounds_toArray, List.set_cons_succ, List.set_cons_zero]
        rw [v6]
        refine manyt_wild (by decide) (by kernel_rfl) ?_ ?_
        · intro s b1 b2 _ hb2 f1 f2
          unfold Gives
          go_simp
          exact gotD_step ap (Nat.lt_of_lt_of_le pq.blk.lt s.kp.size) (Nat.lt_of_lt_of_le pq.pj.lt s.kp.size) HPS.out ((HREP _ pq.bel).kp (s.kp.mono fun b hb => by have := ap.bg; have := ap.bh; omega)) (hb2 rfl) f1 f2
        intro a' ha'
        subst ha'
        simp only [Act.put, List.setIfInBounds_toArray, List.set_cons_succ, List.set_cons_zero]
        rw [v7]
        refine manyt_pre 1 (by decide) ?_ (by kernel_rfl)
        simp only [List.take_succ_cons, List.take_zero, List.drop_succ_cons, List.drop_zero]
        repeat (go_big_quiet_step (fail))
        refine wpQuiet_nil (manyt_end (by decide) ?_)
        intro wz hkz f1 f2
        have pz := pq.two ap hkz (by simpa [FP] using f1) (by simpa [FD] using f2)
        go_wp2
        go_roundw
        case rel => exact ⟨k + 1, d, a, c, _, by omega, by go_num, pz, hb⟩
        case measure => simp [intOf]; omega
      have t : decide ((n : Int) < 2) = true := decide_eq_true (by omega)
      have hbb : 0 ≤ d.b ∧ d.b ≤ 1000 := ⟨by omega, by omega⟩
      have key := fun w' (p : PS w w.heap.size g h d a c j1 j1 w') => jobNext_any (ok := okJ w.heap.size g h) (okr := fun b => b < w.heap.size) j1 d a c sp g w' p.rt hbb p.pj (fun b hb => hb.2.1) (fun b hb => by have := ap.bg; omega) (fun b hb => ⟨by have := p.blk.lt; omega, by have := p.pj.lt; omega, by have := p.rj.lt; omega⟩)
      have key2 := fun w' j3 (p : PS w w.heap.size g h d a c j3 j1 w') => refJobNext_any (ok := okJ w.heap.size g h) (okr := fun b => b < w.heap.size) j1 d a c sp h w' p.rt hbb hs p.rj (fun b hb => hb.2.2) (fun b hb => by have := ap.bh; omega) (fun b hb => ⟨by have := p.blk.lt; omega, by have := p.pj.lt; omega, by have := p.rj.lt; omega⟩)
      obtain ⟨sj, hsj⟩ : ∃ s, s = stepJ d sp j1 := ⟨_, rfl⟩
      rw [← hsj] at key key2
      obtain ⟨j2, bq⟩ := sj
      simp only at key key2
      clear hsj hbb
      go_upto_region 18 with fail
      refine wp_region_split 1 ?_
      simp only [List.take_succ_cons, List.take_zero, List.drop_succ_cons, List.drop_zero]
      go_wp2
      show wpList _ _ _ _ _ _
      refine wpList_loadG rfl rfl rfl pq.blk Try.underlying42 rfl Try.infoRoutes ?_
      simp only [Act.put, List.setIfInBounds_toArray, List.set_cons_succ, List.set_cons_zero]
      refine wpList_split 8 ?_
      simp only [List.take_succ_cons, List.take_zero, List.drop_succ_cons, List.drop_zero]
      go_wp2_with fail
      refine (key _ pq).mono ?_
      rintro e w9 ⟨⟨C, rfl, hC⟩, hj9, hK9⟩
      have p9 := pq.prog ap hK9 hj9
      have k9 := kq.kp hK9 hog
      have hCs := hC.size
      go_wp2
      show wpList _ _ _ _ _ _
      refine wpList_storeB' (C := zC) rfl rfl C rfl rfl (Blk.new_ rfl) (by rw [hCs]; rfl) (by rw [hCs]; exact Try.infoCmd) hC.one ?_ rfl
      intro m9
      have hB9 := below_setCells (B := w9.heap.size) (a := w9) (b := w9.heap.size) (Nat.le_refl _) C.toList 0 ((Below.refl _ _).alloc (Nat.le_refl _) (.cells zC 60))
      go_upto_region 19 with fail
      refine name_world (fun wa => Below w9.heap.size w9 wa ∧ Blk wa w9.heap.size 60 C) ⟨hB9, m9⟩ ?_
      clear hB9 m9
      rintro wa ⟨hBa, ma⟩
      have pa := p9.below hBa
      have ka := k9.below hBa k9.lt
      have hCa := hC.below hBa
      have hm1 : w9.heap.size ≠ g := by have := p9.pj.lt; omega
      have hm2 : w9.heap.size ≠ h := by have := p9.rj.lt; omega
      obtain ⟨m, hm⟩ : ∃ m, m = w9.heap.size := ⟨_, rfl⟩
      rw [← hm] at ma hm1 hm2
      rw [← hm]
      clear hm hBa p9 k9 hC hj9 hK9
      refine wp_region_split 1 ?_
      simp only [List.take_succ_cons, List.take_zero, List.drop_succ_cons, List.drop_zero]
      go_wp2
      show wpList _ _ _ _ _ _
      refine wpList_loadG rfl rfl rfl pa.blk Try.underlying42 rfl Try.infoRoutes ?_
      simp only [Act.put, List.setIfInBounds_toArray, List.set_cons_succ, List.set_cons_zero]
      refine wpList_split 8 ?_
      simp only [List.take_succ_cons, List.take_zero, List.drop_succ_cons, List.drop_zero]
      go_wp2_with fail
      refine (key2 _ _ pa).mono ?_
      rintro e wb ⟨⟨C2, rfl, hC2⟩, hjb, hKb⟩
      have pb := pa.docu ap hKb hjb
      have kb := ka.kp hKb hoh
      have mb := ma.kp hKb hm2
      have hCb := (hCa.mono (ok' := okJ w.heap.size g h) fun b hb _ => hb).kp (hKb.mono fun b hb => hb.2.2)
      have hCs2 := hC2.size
      go_wp2
      show wpList _ _ _ _ _ _
      refine wpList_storeB' (C := zC) rfl rfl C2 rfl rfl (Blk.new_ rfl) (by rw [hCs2]; rfl) (by rw [hCs2]; exact Try.infoCmd) hC2.one ?_ rfl
      intro m9
      have hB9 := below_setCells (B := wb.heap.size) (a := wb) (b := wb.heap.size) (Nat.le_refl _) C2.toList 0 ((Below.refl _ _).alloc (Nat.le_refl _) (.cells zC 60))
      go_upto_region 20 with fail
      refine name_world (fun wa => Below wb.heap.size wb wa ∧ Blk wa wb.heap.size 60 C2) ⟨hB9, m9⟩ ?_
      clear hB9 m9
      rintro wc ⟨hBc, mc2⟩
      have pc := pb.below hBc
      have kc := kb.below hBc kb.lt
      have mc := mb.below hBc mb.lt
      have hCc := hCb.below hBc
      have hCc2 := hC2.below hBc
      clear hBc pb kb mb hC2 hjb hKb pa ka hCa hCb key key2
      refine wp_region_split 4 ?_
      simp only [List.take_succ_cons, List.take_zero, List.drop_succ_cons, List.drop_zero]
      go_wp2
      show wpList _ _ _ _ _ _
      refine wpList_loadG rfl rfl rfl mc Try.underlying60 rfl (by rw [hCs]; exact Try.infoCmd) ?_
      simp only [Act.put, List.setIfInBounds_toArray, List.set_cons_succ, List.set_cons_zero]
      refine wpList_loadG rfl rfl rfl mc2 Try.underlying60 rfl (by rw [hCs2]; exact Try.infoCmd) ?_
      simp only [Act.put, List.setIfInBounds_toArray, List.set_cons_succ, List.set_cons_zero]
      go_wp2_with fail
      refine (cmdSameV C C2 _ _ hCc hCc2).mono ?_
      rintro e wd ⟨rfl, hbd⟩
      have pd := pc.below hbd
      have kd := kc.below hbd kc.lt
      cases bq
      all_goals
        go_wp2
        go_roundw
        case rel => exact ⟨n + 1, j2, by omega, by go_num, pd, kd⟩
        case measure => simp [intOf]; omega
end Go.Proofs.Ytikkknaofiafhaa
