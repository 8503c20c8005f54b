/- Contract: the document's Right: what it says of the number of base groups. -/
import Derived.Test.YtikkknaofiafhaaP1
namespace Go.Proofs.Ytikkknaofiafhaa
open Go.RowKit

def RRightPost (d : RouteD) (w : World) (e : Ending) (w' : World) : Prop := (∃ bb, e = .returned (.bool bb) ∧ (bb = true → 1 ≤ d.b ∧ d.b ≤ 4)) ∧ Below w.heap.size w w'

set_option maxRecDepth 100000 in
set_option maxHeartbeats 20000000 in
theorem routeRight_any {ok : Nat → Prop} (d : RouteD) (a c : Value) (w : World) (hr : RouteR ok w a c d) :
    Calls Try.prog 29 #[.agg (routeCs d a c)] w (RRightPost d w) := by
  obtain ⟨A, cc, rfl, hc, hbd⟩ := hr.s.form
  obtain ⟨A2, cc2, rfl, _, _⟩ := hr.c.form
  have hbd' : d.s.length * 32 ≤ 140737488351232 := hbd
  have NO : Hid (∀ w', Below w.heap.size w w' → RRightPost d w (.returned (.bool false)) w') := fun w' hb => ⟨⟨false, rfl, fun h => by cases h⟩, hb⟩
  go_enter Try.func29, Try.ntmps29
  go_upto_region 1 with fail
  refine name_world (fun w1 => Below w.heap.size w w1 ∧ w.heap.size + 1 ≤ w1.heap.size ∧ Blk w1 w.heap.size 42 (routeCs d (.slice A d.s.length cc) (.slice A2 d.c.length cc2)))
    ⟨(Below.refl _ _).alloc (Nat.le_refl _) _, by simp, Blk.new _ _ _⟩ ?_
  rintro w1 ⟨hB1, hz1, k1⟩
  obtain ⟨r0, r1, r2, r3, r4⟩ := route_cells k1
  by_cases c0 : d.e < 0
  · have t0 : decide (d.e < 0) = true := decide_eq_true c0
    go_wp2
    go_ret
    exact NO.out _ hB1
  have t0 : decide (d.e < 0) = false := decide_eq_false c0
  by_cases c1 : d.b < 1
  · have t1 : decide (d.b < 1) = true := decide_eq_true c1
    have t1b : decide (d.b ≤ 0) = true := decide_eq_true (by omega)
    go_wp2
    go_ret
    exact NO.out _ hB1
  have t1 : decide (d.b < 1) = false := decide_eq_false c1
  have t1b : decide (d.b ≤ 0) = false := decide_eq_false (by omega)
  by_cases c2 : 4 < d.b
  · have t2 : decide (4 < d.b) = true := decide_eq_true c2
    go_wp2
    go_ret
    exact NO.out _ hB1
  have t2 : decide (4 < d.b) = false := decide_eq_false c2
  have HBB : Hid (1 ≤ d.b ∧ d.b ≤ 4) := ⟨by omega, by omega⟩
  have HB : Hid (∀ bb w', Below w.heap.size w w' → RRightPost d w (.returned (.bool bb)) w') := fun bb w' hb => ⟨⟨bb, rfl, fun _ => ⟨by omega, by omega⟩⟩, hb⟩
  by_cases c3 : d.s.length < 1
  · have t3 : decide ((d.s.length : Int) < 1) = true := decide_eq_true (by omega)
    have t3b : decide ((d.s.length : Int) ≤ 0) = true := decide_eq_true (by omega)
    have t3c : d.s.length = 0 := by omega
    go_wp2
    go_ret
    exact NO.out _ hB1
  have t3 : decide ((d.s.length : Int) < 1) = false := decide_eq_false (by omega)
  have t3b : decide ((d.s.length : Int) ≤ 0) = false := decide_eq_false (by omega)
  have t3c : ¬ d.s.length = 0 := by omega
  by_cases c4 : 4 < d.s.length
  · have t4 : decide ((4 : Int) < (d.s.length : Int)) = true := decide_eq_true (by omega)
    have t4b : decide (4 < d.s.length) = true := decide_eq_true c4
    go_wp2
    go_ret
    exact NO.out _ hB1
  have t4 : decide ((4 : Int) < (d.s.length : Int)) = false := decide_eq_false (by omega)
  have t4b : decide (4 < d.s.length) = false := decide_eq_false c4
  have hl1 : 0 < d.s.length := by omega
  obtain ⟨b1, off1, c1', cs1, hv1, _, ⟨a1, rfl, ha1, _⟩, hcell1⟩ := (hr.s.below hB1).at_ hl1
  simp only [Value.slice.injEq, true_and] at hv1
  obtain ⟨rfl, rfl⟩ := hv1
  have q1 := hcell1 1 _ rfl
  simp only [Nat.add_zero, Nat.zero_mul] at q1
  clear hcell1
  obtain ⟨A3, c3', rfl, _, _⟩ := ha1.form
  obtain ⟨p0, hp0⟩ : ∃ p, p = d.s[0] := ⟨_, rfl⟩
  rw [← hp0] at q1 ha1
  clear hp0
  go_wp2_with fail
  have hal : ∀ o, Below w1.heap.size w1 (w1.alloc o) := fun o => (Below.refl _ _).alloc (Nat.le_refl _) _
  refine (bytes_rb (ok2 := fun _ => True) _ (.slice (some ⟨w1.heap.size, 0, none⟩) 1 1) p0.f [120] _ (ha1.below (hal _)) (RSl.one_new (E := rU8) _ rfl trivial (by decide))).mono ?_
  rintro e w2 ⟨rfl, hww⟩
  subst hww
  have hB2 := hB1.alloc hB1.size (.cells #[.int .u8 120] 5)
  have k2 := k1.alloc (.cells #[.int .u8 120] 5)
  cases hE : decide (p0.f = [120])
  · go_wp2
    go_ret
    exact NO.out _ hB2
  clear hE r0 r1 r2 r3 r4 q1 ha1 c0 c1 c2 c3 c4 NO
  go_upto_region 3 with fail
  refine name_world (fun w2 => Below w.heap.size w w2 ∧ w.heap.size + 1 ≤ w2.heap.size ∧ Blk w2 w.heap.size 42 (routeCs d (.slice (some ⟨b1, off1, none⟩) d.s.length cc) (.slice A2 d.c.length cc2))) ⟨hB2, by simp; omega, k2⟩ ?_
  clear hB2 k2 hB1 hz1 k1 hal
  rintro w2 ⟨hB2, hz2, k2⟩
  go_wp2
  go_loopw [3] (fun j wr => ∃ k : Nat, k ≤ d.s.length ∧ j = .int .i64 (k : Int) ∧ Below w2.heap.size w2 wr) (fun j _ => d.s.length - (intOf j).toNat)
  case atStart => exact ⟨0, by omega, rfl, Below.refl _ _⟩
  case round =>
    obtain ⟨k, hk, rfl, hb⟩ := hrel
    have kw := k2.below hb k2.lt
    have hBw := hB2.trans (hb.mono hB2.size)
    obtain ⟨r0, r1, r2, r3, r4⟩ := route_cells kw
    by_cases hlt : k < d.s.length
    · obtain ⟨b2, off2, c2', cs2, hv2, _, ⟨a2, rfl, ha2, hog⟩, hcell2⟩ := (hr.s.below hBw).at_ hlt
      simp only [Value.slice.injEq, Option.some.injEq, Addr.mk.injEq, true_and, and_true] at hv2
      obtain ⟨⟨rfl, rfl⟩, rfl⟩ := hv2
      have q0 := hcell2 0 _ rfl
      have q1 := hcell2 1 _ rfl
      simp only [Nat.add_zero, show rOwner.sz = 2 from rfl] at q0 q1
      clear hcell2
      obtain ⟨A5, n5, rfl, _, _⟩ := ha2.form
      obtain ⟨o, ho⟩ : ∃ o, o = d.s[k] := ⟨_, rfl⟩
      rw [← ho] at q0 q1 ha2 hog
      clear ho
      go_upto_region 7 with fail
      refine name_world (fun w3 => Below wr.heap.size wr w3 ∧ Blk w3 w.heap.size 42 (routeCs d (.slice (some ⟨b1, off1, none⟩) d.s.length cc) (.slice A2 d.c.length cc2)) ∧ Blk w3 wr.heap.size 104 #[.int .i64 o.g, .slice A5 o.f.length n5])
        ⟨(Below.refl _ _).alloc (Nat.le_refl _) _, kw.alloc _, Blk.new_ rfl⟩ ?_
      clear r0 r1 r2 r3 r4 kw q0 q1
      rintro w3 ⟨hb3, k3, x3⟩
      have hbn := hb.trans (hb3.mono hb.size)
      have hB3 := hBw.trans (hb3.mono hBw.size)
      have hr3 := hr.below hB3
      have ho3 := ha2.below hb3
      clear ha2
      obtain ⟨r0, r1, r2, r3, r4⟩ := route_laters k3
      have x0 : ∀ s : Later w3, s.val.cell? ⟨wr.heap.size, 0, none⟩ = some (.int .i64 o.g) := x3.later rfl
      have x1 : ∀ s : Later w3, s.val.cell? ⟨wr.heap.size, 1, none⟩ = some (.slice A5 o.f.length n5) := x3.later rfl
      obtain ⟨z, hz⟩ : ∃ z, z = atG d.s o.g 0 := ⟨_, rfl⟩
      have HZ := Lib.hid hz
      clear hz
      have NO : Hid (∀ w', Below w.heap.size w w' → RRightPost d w (.returned (.bool false)) w') := fun w' h => HB.out false w' h

      by_cases c1 : o.g ≤ d.b
      · have s1 : decide (o.g ≤ d.b) = true := decide_eq_true c1
        refine wp_later_many [(17, Sp.val (.int .i64 z)), (24, Sp.val (.int .i64 (o.f.length : Int))), (37, Sp.val (.int .i64 (o.f.length : Int)))] [17, 24, 37] (by as_aux_lemma => kernel_rfl) (by as_aux_lemma => kernel_rfl) ?_
        intro vv hv
        have e17 : vv 17 = .int .i64 z := hv 17 (by decide)
        have e24 : vv 24 = .int .i64 (o.f.length : Int) := hv 24 (by decide)
        have e37 : vv 37 = .int .i64 (o.f.length : Int) := hv 37 (by decide)
        refine many_pre 17 (by decide) ?_
        simp only [List.take_succ_cons, List.take_zero, List.drop_succ_cons, List.drop_zero]
        repeat (go_big_quiet_step (fail))
        refine wpQuiet_nil (many_skip rfl ?_)
        intro a' ha'
        subst ha'
        simp only [Act.put, List.setIfInBounds_toArray, List.set_cons_succ, List.set_cons_zero]
        refine many_pre 6 (by decide) ?_
        simp only [List.take_succ_cons, List.take_zero, List.drop_succ_cons, List.drop_zero]
        repeat (go_big_quiet_step (fail))
        refine wpQuiet_nil (many_skip rfl ?_)
        intro a' ha'
        subst ha'
        simp only [Act.put, List.setIfInBounds_toArray, List.set_cons_succ, List.set_cons_zero]
        refine many_pre 12 (by decide) ?_
        simp only [List.take_succ_cons, List.take_zero, List.drop_succ_cons, List.drop_zero]
        repeat (go_big_quiet_step (fail))
        refine wpQuiet_nil (many_skip rfl ?_)
        intro a' ha'
        subst ha'
        simp only [Act.put, List.setIfInBounds_toArray, List.set_cons_succ, List.set_cons_zero]
        refine many_pre 20 (by decide) ?_
        simp only [List.take_succ_cons, List.take_zero, List.drop_succ_cons, List.drop_zero]
        repeat (go_big_quiet_step (fail))
        refine wpQuiet_nil (many_end ?_)
        intro s _
        have hBs := hB3.trans (s.below.mono hB3.size)
        have hbs := hbn.trans (s.below.mono (Nat.le_trans hb.size hb3.size))
        go_wp2
        go_ret
        exact NO.out _ hBs
      have s1 : decide (o.g ≤ d.b) = false := decide_eq_false c1
      obtain ⟨hbb1, hbb2⟩ := HBB.out
      by_cases c2 : d.b + 4 < o.g
      · have s2 : decide (d.b + 4 < o.g) = true := decide_eq_true c2
        refine wp_later_many [(17, Sp.val (.int .i64 z)), (24, Sp.val (.int .i64 (o.f.length : Int))), (37, Sp.val (.int .i64 (o.f.length : Int)))] [17, 24, 37] (by as_aux_lemma => kernel_rfl) (by as_aux_lemma => kernel_rfl) ?_
        intro vv hv
        have e17 : vv 17 = .int .i64 z := hv 17 (by decide)
        have e24 : vv 24 = .int .i64 (o.f.length : Int) := hv 24 (by decide)
        have e37 : vv 37 = .int .i64 (o.f.length : Int) := hv 37 (by decide)
        refine many_pre 17 (by decide) ?_
        simp only [List.take_succ_cons, List.take_zero, List.drop_succ_cons, List.drop_zero]
        repeat (go_big_quiet_step (fail))
        refine wpQuiet_nil (many_skip rfl ?_)
        intro a' ha'
        subst ha'
        simp only [Act.put, List.setIfInBounds_toArray, List.set_cons_succ, List.set_cons_zero]
        refine many_pre 6 (by decide) ?_
        simp only [List.take_succ_cons, List.take_zero, List.drop_succ_cons, List.drop_zero]
        repeat (go_big_quiet_step (fail))
        refine wpQuiet_nil (many_skip rfl ?_)
        intro a' ha'
        subst ha'
        simp only [Act.put, List.setIfInBounds_toArray, List.set_cons_succ, List.set_cons_zero]
        refine many_pre 12 (by decide) ?_
        simp only [List.take_succ_cons, List.take_zero, List.drop_succ_cons, List.drop_zero]
        repeat (go_big_quiet_step (fail))
        refine wpQuiet_nil (many_skip rfl ?_)
        intro a' ha'
        subst ha'
        simp only [Act.put, List.setIfInBounds_toArray, List.set_cons_succ, List.set_cons_zero]
        refine many_pre 20 (by decide) ?_
        simp only [List.take_succ_cons, List.take_zero, List.drop_succ_cons, List.drop_zero]
        repeat (go_big_quiet_step (fail))
        refine wpQuiet_nil (many_end ?_)
        intro s _
        have hBs := hB3.trans (s.below.mono hB3.size)
        have hbs := hbn.trans (s.below.mono (Nat.le_trans hb.size hb3.size))
        go_wp2
        go_ret
        exact NO.out _ hBs
      have s2 : decide (d.b + 4 < o.g) = false := decide_eq_false c2
      by_cases c3 : z = (k : Int)
      case neg =>
        have s3 : (z != (k : Int)) = true := by simpa using c3
        refine wp_later_many [(17, Sp.val (.int .i64 z)), (24, Sp.val (.int .i64 (o.f.length : Int))), (37, Sp.val (.int .i64 (o.f.length : Int)))] [17, 24, 37] (by as_aux_lemma => kernel_rfl) (by as_aux_lemma => kernel_rfl) ?_
        intro vv hv
        have e17 : vv 17 = .int .i64 z := hv 17 (by decide)
        have e24 : vv 24 = .int .i64 (o.f.length : Int) := hv 24 (by decide)
        have e37 : vv 37 = .int .i64 (o.f.length : Int) := hv 37 (by decide)
        refine many_pre 17 (by decide) ?_
        simp only [List.take_succ_cons, List.take_zero, List.drop_succ_cons, List.drop_zero]
        repeat (go_big_quiet_step (fail))
        refine wpQuiet_nil (many_wild (by decide) rfl ?_ ?_)
        · intro s _
          unfold Gives
          go_simp
          refine (refAt_any d _ _ o.g _ (hr3.below s.below)).mono ?_
          rintro e w4 ⟨he, hb4⟩
          rw [← HZ.out] at he
          subst he
          exact ⟨_, rfl, rfl, hb4⟩
        intro a' ha'
        subst ha'
        simp only [Act.put, List.setIfInBounds_toArray, List.set_cons_succ, List.set_cons_zero]
        rw [e17]
        refine many_pre 6 (by decide) ?_
        simp only [List.take_succ_cons, List.take_zero, List.drop_succ_cons, List.drop_zero]
        repeat (go_big_quiet_step (fail))
        refine wpQuiet_nil (many_skip rfl ?_)
        intro a' ha'
        subst ha'
        simp only [Act.put, List.setIfInBounds_toArray, List.set_cons_succ, List.set_cons_zero]
        refine many_pre 12 (by decide) ?_
        simp only [List.take_succ_cons, List.take_zero, List.drop_succ_cons, List.drop_zero]
        repeat (go_big_quiet_step (fail))
        refine wpQuiet_nil (many_skip rfl ?_)
        intro a' ha'
        subst ha'
        simp only [Act.put, List.setIfInBounds_toArray, List.set_cons_succ, List.set_cons_zero]
        refine many_pre 20 (by decide) ?_
        simp only [List.take_succ_cons, List.take_zero, List.drop_succ_cons, List.drop_zero]
        repeat (go_big_quiet_step (fail))
        refine wpQuiet_nil (many_end ?_)
        intro s _
        have hBs := hB3.trans (s.below.mono hB3.size)
        have hbs := hbn.trans (s.below.mono (Nat.le_trans hb.size hb3.size))
        go_wp2
        go_ret
        exact NO.out _ hBs
      have s3 : (z != (k : Int)) = false := by simpa using c3
      clear c3
      by_cases c4 : o.f.length < 1
      · have s4 : decide ((o.f.length : Int) < 1) = true := decide_eq_true (by omega)
        have s4b : decide ((o.f.length : Int) ≤ 0) = true := decide_eq_true (by omega)
        have s4c : o.f.length = 0 := by omega
        refine wp_later_many [(17, Sp.val (.int .i64 z)), (24, Sp.val (.int .i64 (o.f.length : Int))), (37, Sp.val (.int .i64 (o.f.length : Int)))] [17, 24, 37] (by as_aux_lemma => kernel_rfl) (by as_aux_lemma => kernel_rfl) ?_
        intro vv hv
        have e17 : vv 17 = .int .i64 z := hv 17 (by decide)
        have e24 : vv 24 = .int .i64 (o.f.length : Int) := hv 24 (by decide)
        have e37 : vv 37 = .int .i64 (o.f.length : Int) := hv 37 (by decide)
        refine many_pre 17 (by decide) ?_
        simp only [List.take_succ_cons, List.take_zero, List.drop_succ_cons, List.drop_zero]
        repeat (go_big_quiet_step (fail))
        refine wpQuiet_nil (many_wild (by decide) rfl ?_ ?_)
        · intro s _
          unfold Gives
          go_simp
          refine (refAt_any d _ _ o.g _ (hr3.below s.below)).mono ?_
          rintro e w4 ⟨he, hb4⟩
          rw [← HZ.out] at he
          subst he
          exact ⟨_, rfl, rfl, hb4⟩
        intro a' ha'
        subst ha'
        simp only [Act.put, List.setIfInBounds_toArray, List.set_cons_succ, List.set_cons_zero]
        rw [e17]
        refine many_pre 6 (by decide) ?_
        simp only [List.take_succ_cons, List.take_zero, List.drop_succ_cons, List.drop_zero]
        repeat (go_big_quiet_step (fail))
        refine wpQuiet_nil (many_wild (by decide) rfl ?_ ?_)
        · intro s _
          unfold Gives
          go_simp
          exact ⟨rfl, Below.refl _ _⟩
        intro a' ha'
        subst ha'
        simp only [Act.put, List.setIfInBounds_toArray, List.set_cons_succ, List.set_cons_zero]
        rw [e24]
        refine many_pre 12 (by decide) ?_
        simp only [List.take_succ_cons, List.take_zero, List.drop_succ_cons, List.drop_zero]
        repeat (go_big_quiet_step (fail))
        refine wpQuiet_nil (many_skip rfl ?_)
        intro a' ha'
        subst ha'
        simp only [Act.put, List.setIfInBounds_toArray, List.set_cons_succ, List.set_cons_zero]
        refine many_pre 20 (by decide) ?_
        simp only [List.take_succ_cons, List.take_zero, List.drop_succ_cons, List.drop_zero]
        repeat (go_big_quiet_step (fail))
        refine wpQuiet_nil (many_end ?_)
        intro s _
        have hBs := hB3.trans (s.below.mono hB3.size)
        have hbs := hbn.trans (s.below.mono (Nat.le_trans hb.size hb3.size))
        go_wp2
        go_ret
        exact NO.out _ hBs
      have s4 : decide ((o.f.length : Int) < 1) = false := decide_eq_false (by omega)
      have s4b : decide ((o.f.length : Int) ≤ 0) = false := decide_eq_false (by omega)
      have s4c : ¬ o.f.length = 0 := by omega
      have s4d : 0 < o.f.length := by omega
      obtain ⟨b3, off3, c3', cs3, hv3, _, rfl, hcell3⟩ := ho3.at_ s4d
      simp only [Value.slice.injEq, true_and] at hv3
      obtain ⟨rfl, rfl⟩ := hv3
      obtain ⟨y, hy⟩ : ∃ y : Int, y = (o.f[0].toNat : Int) := ⟨_, rfl⟩
      have f0 : ∀ s : Later w3, s.val.cell? ⟨b3, off3, none⟩ = some (.int .u8 y) := by rw [hy]; exact Later.cell (by simpa using hcell3 0 _ rfl)
      clear hcell3 hy
      by_cases c5 : y = 120
      case neg =>
        have s5 : (y != 120) = true := by simpa using c5
        refine wp_later_many [(17, Sp.val (.int .i64 z)), (24, Sp.val (.int .i64 (o.f.length : Int))), (37, Sp.val (.int .i64 (o.f.length : Int)))] [17, 24, 37] (by as_aux_lemma => kernel_rfl) (by as_aux_lemma => kernel_rfl) ?_
        intro vv hv
        have e17 : vv 17 = .int .i64 z := hv 17 (by decide)
        have e24 : vv 24 = .int .i64 (o.f.length : Int) := hv 24 (by decide)
        have e37 : vv 37 = .int .i64 (o.f.length : Int) := hv 37 (by decide)
        refine many_pre 17 (by decide) ?_
        simp only [List.take_succ_cons, List.take_zero, List.drop_succ_cons, List.drop_zero]
        repeat (go_big_quiet_step (fail))
        refine wpQuiet_nil (many_wild (by decide) rfl ?_ ?_)
        · intro s _
          unfold Gives
          go_simp
          refine (refAt_any d _ _ o.g _ (hr3.below s.below)).mono ?_
          rintro e w4 ⟨he, hb4⟩
          rw [← HZ.out] at he
          subst he
          exact ⟨_, rfl, rfl, hb4⟩
        intro a' ha'
        subst ha'
        simp only [Act.put, List.setIfInBounds_toArray, List.set_cons_succ, List.set_cons_zero]
        rw [e17]
        refine many_pre 6 (by decide) ?_
        simp only [List.take_succ_cons, List.take_zero, List.drop_succ_cons, List.drop_zero]
        repeat (go_big_quiet_step (fail))
        refine wpQuiet_nil (many_wild (by decide) rfl ?_ ?_)
        · intro s _
          unfold Gives
          go_simp
          exact ⟨rfl, Below.refl _ _⟩
        intro a' ha'
        subst ha'
        simp only [Act.put, List.setIfInBounds_toArray, List.set_cons_succ, List.set_cons_zero]
        rw [e24]
        refine many_pre 12 (by decide) ?_
        simp only [List.take_succ_cons, List.take_zero, List.drop_succ_cons, List.drop_zero]
        repeat (go_big_quiet_step (fail))
        refine wpQuiet_nil (many_skip rfl ?_)
        intro a' ha'
        subst ha'
        simp only [Act.put, List.setIfInBounds_toArray, List.set_cons_succ, List.set_cons_zero]
        refine many_pre 20 (by decide) ?_
        simp only [List.take_succ_cons, List.take_zero, List.drop_succ_cons, List.drop_zero]
        repeat (go_big_quiet_step (fail))
        refine wpQuiet_nil (many_end ?_)
        intro s _
        have hBs := hB3.trans (s.below.mono hB3.size)
        have hbs := hbn.trans (s.below.mono (Nat.le_trans hb.size hb3.size))
        go_wp2
        go_ret
        exact NO.out _ hBs
      have s5 : (y != 120) = false := by simpa using c5
      clear c5
      by_cases c6 : 600 < o.f.length
      · have s6 : decide ((600 : Int) < (o.f.length : Int)) = true := decide_eq_true (by omega)
        have s6b : decide (600 < o.f.length) = true := decide_eq_true c6
        refine wp_later_many [(17, Sp.val (.int .i64 z)), (24, Sp.val (.int .i64 (o.f.length : Int))), (37, Sp.val (.int .i64 (o.f.length : Int)))] [17, 24, 37] (by as_aux_lemma => kernel_rfl) (by as_aux_lemma => kernel_rfl) ?_
        intro vv hv
        have e17 : vv 17 = .int .i64 z := hv 17 (by decide)
        have e24 : vv 24 = .int .i64 (o.f.length : Int) := hv 24 (by decide)
        have e37 : vv 37 = .int .i64 (o.f.length : Int) := hv 37 (by decide)
        refine many_pre 17 (by decide) ?_
        simp only [List.take_succ_cons, List.take_zero, List.drop_succ_cons, List.drop_zero]
        repeat (go_big_quiet_step (fail))
        refine wpQuiet_nil (many_wild (by decide) rfl ?_ ?_)
        · intro s _
          unfold Gives
          go_simp
          refine (refAt_any d _ _ o.g _ (hr3.below s.below)).mono ?_
          rintro e w4 ⟨he, hb4⟩
          rw [← HZ.out] at he
          subst he
          exact ⟨_, rfl, rfl, hb4⟩
        intro a' ha'
        subst ha'
        simp only [Act.put, List.setIfInBounds_toArray, List.set_cons_succ, List.set_cons_zero]
        rw [e17]
        refine many_pre 6 (by decide) ?_
        simp only [List.take_succ_cons, List.take_zero, List.drop_succ_cons, List.drop_zero]
        repeat (go_big_quiet_step (fail))
        refine wpQuiet_nil (many_wild (by decide) rfl ?_ ?_)
        · intro s _
          unfold Gives
          go_simp
          exact ⟨rfl, Below.refl _ _⟩
        intro a' ha'
        subst ha'
        simp only [Act.put, List.setIfInBounds_toArray, List.set_cons_succ, List.set_cons_zero]
        rw [e24]
        refine many_pre 12 (by decide) ?_
        simp only [List.take_succ_cons, List.take_zero, List.drop_succ_cons, List.drop_zero]
        repeat (go_big_quiet_step (fail))
        refine wpQuiet_nil (many_wild (by decide) rfl ?_ ?_)
        · intro s _
          unfold Gives
          go_simp
          exact ⟨rfl, Below.refl _ _⟩
        intro a' ha'
        subst ha'
        simp only [Act.put, List.setIfInBounds_toArray, List.set_cons_succ, List.set_cons_zero]
        rw [e37]
        refine many_pre 20 (by decide) ?_
        simp only [List.take_succ_cons, List.take_zero, List.drop_succ_cons, List.drop_zero]
        repeat (go_big_quiet_step (fail))
        refine wpQuiet_nil (many_end ?_)
        intro s _
        have hBs := hB3.trans (s.below.mono hB3.size)
        have hbs := hbn.trans (s.below.mono (Nat.le_trans hb.size hb3.size))
        go_wp2
        go_ret
        exact NO.out _ hBs
      have s6 : decide ((600 : Int) < (o.f.length : Int)) = false := decide_eq_false (by omega)
      have s6b : decide (600 < o.f.length) = false := decide_eq_false c6
      by_cases c7 : k = 0
      · subst c7
        have s3z : (z != 0) = false := by simpa using s3
        have s7z : decide ((0 : Int) < ((0 : Nat) : Int)) = false := by simp
        refine wp_later_many [(17, Sp.val (.int .i64 z)), (24, Sp.val (.int .i64 (o.f.length : Int))), (37, Sp.val (.int .i64 (o.f.length : Int)))] [17, 24, 37] (by as_aux_lemma => kernel_rfl) (by as_aux_lemma => kernel_rfl) ?_
        intro vv hv
        have e17 : vv 17 = .int .i64 z := hv 17 (by decide)
        have e24 : vv 24 = .int .i64 (o.f.length : Int) := hv 24 (by decide)
        have e37 : vv 37 = .int .i64 (o.f.length : Int) := hv 37 (by decide)
        refine many_pre 17 (by decide) ?_
        simp only [List.take_succ_cons, List.take_zero, List.drop_succ_cons, List.drop_zero]
        repeat (go_big_quiet_step (fail))
        refine wpQuiet_nil (many_wild (by decide) rfl ?_ ?_)
        · intro s _
          unfold Gives
          go_simp
          refine (refAt_any d _ _ o.g _ (hr3.below s.below)).mono ?_
          rintro e w4 ⟨he, hb4⟩
          rw [← HZ.out] at he
          subst he
          exact ⟨_, rfl, rfl, hb4⟩
        intro a' ha'
        subst ha'
        simp only [Act.put, List.setIfInBounds_toArray, List.set_cons_succ, List.set_cons_zero]
        rw [e17]
        refine many_pre 6 (by decide) ?_
        simp only [List.take_succ_cons, List.take_zero, List.drop_succ_cons, List.drop_zero]
        repeat (go_big_quiet_step (fail))
        refine wpQuiet_nil (many_wild (by decide) rfl ?_ ?_)
        · intro s _
          unfold Gives
          go_simp
          exact ⟨rfl, Below.refl _ _⟩
        intro a' ha'
        subst ha'
        simp only [Act.put, List.setIfInBounds_toArray, List.set_cons_succ, List.set_cons_zero]
        rw [e24]
        refine many_pre 12 (by decide) ?_
        simp only [List.take_succ_cons, List.take_zero, List.drop_succ_cons, List.drop_zero]
        repeat (go_big_quiet_step (fail))
        refine wpQuiet_nil (many_wild (by decide) rfl ?_ ?_)
        · intro s _
          unfold Gives
          go_simp
          exact ⟨rfl, Below.refl _ _⟩
        intro a' ha'
        subst ha'
        simp only [Act.put, List.setIfInBounds_toArray, List.set_cons_succ, List.set_cons_zero]
        rw [e37]
        refine many_pre 20 (by decide) ?_
        simp only [List.take_succ_cons, List.take_zero, List.drop_succ_cons, List.drop_zero]
        repeat (go_big_quiet_step (fail))
        refine wpQuiet_nil (many_end ?_)
        intro s _
        have hBs := hB3.trans (s.below.mono hB3.size)
        have hbs := hbn.trans (s.below.mono (Nat.le_trans hb.size hb3.size))
        go_wp2
        go_roundw
        case rel => exact ⟨1, by omega, rfl, hbs⟩
        case measure => simp [intOf]; omega
      obtain ⟨m, rfl⟩ : ∃ m, k = m + 1 := ⟨k - 1, by omega⟩
      have s7 : decide ((0 : Int) < ((m + 1 : Nat) : Int)) = true := decide_eq_true (by omega)
      have s7b : ((m + 1 : Nat) : Int) - 1 = (m : Int) := by omega
      have s3z : (z != (m : Int) + 1) = false := by simpa using s3
      have s7c : decide ((0 : Int) < (m : Int) + 1) = true := decide_eq_true (by omega)
      obtain ⟨b4, off4, c4', cs4, hv4, _, ⟨a4, rfl, ha4, _⟩, hcell4⟩ := (hr.s.below hB3).at_ (i := m) (by omega)
      simp only [Value.slice.injEq, Option.some.injEq, Addr.mk.injEq, true_and, and_true] at hv4
      obtain ⟨⟨rfl, rfl⟩, rfl⟩ := hv4
      obtain ⟨A6, n6, rfl, _, _⟩ := ha4.form
      obtain ⟨p, hp⟩ : ∃ p, p = d.s[m] := ⟨_, rfl⟩
      rw [← hp] at ha4 hcell4
      clear hp
      have g1 : ∀ s : Later w3, s.val.cell? ⟨b1, off1 + m * 2 + 1, none⟩ = some (.slice A6 p.f.length n6) := Later.cell (hcell4 1 _ rfl)
      clear hcell4
      have v1 : ∀ s : Later w3, (convert 27 9 (.slice (some ⟨b3, off3, none⟩) o.f.length n5)).run Try.prog s.val = .ok (.string (str o.f)) s.val := fun s => rb_str (ho3.below s.below)
      have v2 : ∀ s : Later w3, (convert 27 9 (.slice A6 p.f.length n6)).run Try.prog s.val = .ok (.string (str p.f)) s.val := fun s => rb_str (ha4.below s.below)
      cases t1 : Op.bytesLess (str o.f).toList (str p.f).toList <;> cases t2 : Op.bytesLess (str p.f).toList (str o.f).toList <;> cases t3 : ((str o.f).toList == (str p.f).toList)
      all_goals first
        | (refine wp_later_many [(17, Sp.val (.int .i64 z)), (24, Sp.val (.int .i64 (o.f.length : Int))), (37, Sp.val (.int .i64 (o.f.length : Int)))] [17, 24, 37] (by as_aux_lemma => kernel_rfl) (by as_aux_lemma => kernel_rfl) ?_
           intro vv hv
           have e17 : vv 17 = .int .i64 z := hv 17 (by decide)
           have e24 : vv 24 = .int .i64 (o.f.length : Int) := hv 24 (by decide)
           have e37 : vv 37 = .int .i64 (o.f.length : Int) := hv 37 (by decide)
           refine many_pre 17 (by decide) ?_
           simp only [List.take_succ_cons, List.take_zero, List.drop_succ_cons, List.drop_zero]
           repeat (go_big_quiet_step (fail))
           refine wpQuiet_nil (many_wild (by decide) rfl ?_ ?_)
           · intro s _
             unfold Gives
             go_simp
             refine (refAt_any d _ _ o.g _ (hr3.below s.below)).mono ?_
             rintro e w4 ⟨he, hb4⟩
             rw [← HZ.out] at he
             subst he
             exact ⟨_, rfl, rfl, hb4⟩
           intro a' ha'
           subst ha'
           simp only [Act.put, List.setIfInBounds_toArray, List.set_cons_succ, List.set_cons_zero]
           rw [e17]
           refine many_pre 6 (by decide) ?_
           simp only [List.take_succ_cons, List.take_zero, List.drop_succ_cons, List.drop_zero]
           repeat (go_big_quiet_step (fail))
           refine wpQuiet_nil (many_wild (by decide) rfl ?_ ?_)
           · intro s _
             unfold Gives
             go_simp
             exact ⟨rfl, Below.refl _ _⟩
           intro a' ha'
           subst ha'
           simp only [Act.put, List.setIfInBounds_toArray, List.set_cons_succ, List.set_cons_zero]
           rw [e24]
           refine many_pre 12 (by decide) ?_
           simp only [List.take_succ_cons, List.take_zero, List.drop_succ_cons, List.drop_zero]
           repeat (go_big_quiet_step (fail))
           refine wpQuiet_nil (many_wild (by decide) rfl ?_ ?_)
           · intro s _
             unfold Gives
             go_simp
             exact ⟨rfl, Below.refl _ _⟩
           intro a' ha'
           subst ha'
           simp only [Act.put, List.setIfInBounds_toArray, List.set_cons_succ, List.set_cons_zero]
           rw [e37]
           refine many_pre 20 (by decide) ?_
           simp only [List.take_succ_cons, List.take_zero, List.drop_succ_cons, List.drop_zero]
           repeat (go_big_quiet_step (fail))
           refine wpQuiet_nil (many_end ?_)
           intro s _
           have hBs := hB3.trans (s.below.mono hB3.size)
           have hbs := hbn.trans (s.below.mono (Nat.le_trans hb.size hb3.size))
           go_wp2
           go_ret
           exact NO.out _ hBs)
        | (refine wp_later_many [(17, Sp.val (.int .i64 z)), (24, Sp.val (.int .i64 (o.f.length : Int))), (37, Sp.val (.int .i64 (o.f.length : Int)))] [17, 24, 37] (by as_aux_lemma => kernel_rfl) (by as_aux_lemma => kernel_rfl) ?_
           intro vv hv
           have e17 : vv 17 = .int .i64 z := hv 17 (by decide)
           have e24 : vv 24 = .int .i64 (o.f.length : Int) := hv 24 (by decide)
           have e37 : vv 37 = .int .i64 (o.f.length : Int) := hv 37 (by decide)
           refine many_pre 17 (by decide) ?_
           simp only [List.take_succ_cons, List.take_zero, List.drop_succ_cons, List.drop_zero]
           repeat (go_big_quiet_step (fail))
           refine wpQuiet_nil (many_wild (by decide) rfl ?_ ?_)
           · intro s _
             unfold Gives
             go_simp
             refine (refAt_any d _ _ o.g _ (hr3.below s.below)).mono ?_
             rintro e w4 ⟨he, hb4⟩
             rw [← HZ.out] at he
             subst he
             exact ⟨_, rfl, rfl, hb4⟩
           intro a' ha'
           subst ha'
           simp only [Act.put, List.setIfInBounds_toArray, List.set_cons_succ, List.set_cons_zero]
           rw [e17]
           refine many_pre 6 (by decide) ?_
           simp only [List.take_succ_cons, List.take_zero, List.drop_succ_cons, List.drop_zero]
           repeat (go_big_quiet_step (fail))
           refine wpQuiet_nil (many_wild (by decide) rfl ?_ ?_)
           · intro s _
             unfold Gives
             go_simp
             exact ⟨rfl, Below.refl _ _⟩
           intro a' ha'
           subst ha'
           simp only [Act.put, List.setIfInBounds_toArray, List.set_cons_succ, List.set_cons_zero]
           rw [e24]
           refine many_pre 12 (by decide) ?_
           simp only [List.take_succ_cons, List.take_zero, List.drop_succ_cons, List.drop_zero]
           repeat (go_big_quiet_step (fail))
           refine wpQuiet_nil (many_wild (by decide) rfl ?_ ?_)
           · intro s _
             unfold Gives
             go_simp
             exact ⟨rfl, Below.refl _ _⟩
           intro a' ha'
           subst ha'
           simp only [Act.put, List.setIfInBounds_toArray, List.set_cons_succ, List.set_cons_zero]
           rw [e37]
           refine many_pre 20 (by decide) ?_
           simp only [List.take_succ_cons, List.take_zero, List.drop_succ_cons, List.drop_zero]
           repeat (go_big_quiet_step (fail))
           refine wpQuiet_nil (many_end ?_)
           intro s _
           have hBs := hB3.trans (s.below.mono hB3.size)
           have hbs := hbn.trans (s.below.mono (Nat.le_trans hb.size hb3.size))
           go_wp2
           go_roundw
           case rel => exact ⟨m + 1 + 1, by omega, by go_num, hbs⟩
           case measure => simp [intOf]; omega)
    · have NO : Hid (∀ bb w', Below w.heap.size w w' → RRightPost d w (.returned (.bool bb)) w') := HB
      by_cases m0 : d.m = 0
      · have u0 : (d.m == 0) = true := by simp [m0]
        have M0 := Lib.hid m0
        clear m0
        go_wp2
        go_ret
        exact NO.out _ _ hBw
      have u0 : (d.m == 0) = false := by simpa using m0
      clear m0
      have H : Hid (atG d.s d.m 0 = -1 ∨ ∃ j : Nat, atG d.s d.m 0 = j ∧ ∃ h : j < d.s.length, d.s[j].g = d.m) := atG_ge d.s d.m
      obtain ⟨z, hz⟩ : ∃ z, z = atG d.s d.m 0 := ⟨_, rfl⟩
      have HZ := Lib.hid hz
      clear hz
      go_wp2_with fail
      refine (refAt_any d _ _ d.m _ (hr.below hBw)).mono ?_
      rw [← HZ.out]
      rintro e w3 ⟨rfl, hb3⟩
      have hB3 := hBw.trans (hb3.mono hBw.size)
      have k3 := kw.below hb3 kw.lt
      have hr3 := hr.below hB3
      clear r0 r1 r2 r3 r4 kw
      go_upto_region 12 with fail
      obtain ⟨r0, r1, r2, r3, r4⟩ := route_laters k3
      have v1 : ∀ s : Later w3, (convert 27 9 (.slice A2 d.c.length cc2)).run Try.prog s.val = .ok (.string (str d.c)) s.val := fun s => rb_str (hr3.c.below s.below)
      rcases H.out with h | ⟨j, h, hj, _⟩
      · obtain rfl : z = -1 := HZ.out.trans h
        clear h
        obtain ⟨j, hj0⟩ : ∃ j : Nat, j = 0 := ⟨0, rfl⟩
        obtain ⟨p, hp0⟩ : ∃ p : OwnerD, p = ⟨0, []⟩ := ⟨_, rfl⟩
        clear hj0 hp0
        refine wp_later_many [(5, Sp.val (.int .i64 (d.c.length : Int))), (24, Sp.span (fun _ => True) p.f (spanTo d.s j)), (27, Sp.val (.bool (withinB p.f (spanTo d.s j) d.c)))] [5, 24, 27] (by as_aux_lemma => kernel_rfl) (by as_aux_lemma => kernel_rfl) ?_
        intro vv hv
        have e5 : vv 5 = .int .i64 (d.c.length : Int) := hv 5 (by decide)
        obtain ⟨A7, c7, A8, c8, e24⟩ : ∃ A c A2 c2, vv 24 = .agg #[.slice A p.f.length c, .slice A2 (spanTo d.s j).length c2] := hv 24 (by decide)
        have e27 : vv 27 = .bool (withinB p.f (spanTo d.s j) d.c) := hv 27 (by decide)
        refine many_pre 5 (by decide) ?_
        simp only [List.take_succ_cons, List.take_zero, List.drop_succ_cons, List.drop_zero]
        repeat (go_big_quiet_step (fail))
        refine wpQuiet_nil (many_skip rfl ?_)
        intro a' ha'
        subst ha'
        simp only [Act.put, List.setIfInBounds_toArray, List.set_cons_succ, List.set_cons_zero]
        refine many_pre 18 (by decide) ?_
        simp only [List.take_succ_cons, List.take_zero, List.drop_succ_cons, List.drop_zero]
        repeat (go_big_quiet_step (fail))
        refine wpQuiet_nil (many_skip rfl ?_)
        intro a' ha'
        subst ha'
        simp only [Act.put, List.setIfInBounds_toArray, List.set_cons_succ, List.set_cons_zero]
        refine many_pre 2 (by decide) ?_
        simp only [List.take_succ_cons, List.take_zero, List.drop_succ_cons, List.drop_zero]
        repeat (go_big_quiet_step (fail))
        refine wpQuiet_nil (many_skip rfl ?_)
        intro a' ha'
        subst ha'
        simp only [Act.put, List.setIfInBounds_toArray, List.set_cons_succ, List.set_cons_zero]
        refine many_pre 2 (by decide) ?_
        simp only [List.take_succ_cons, List.take_zero, List.drop_succ_cons, List.drop_zero]
        repeat (go_big_quiet_step (fail))
        refine wpQuiet_nil (many_end ?_)
        intro s _
        have hBs := hB3.trans (s.below.mono hB3.size)
        go_wp2
        go_ret
        exact NO.out _ _ hBs
      obtain rfl : z = (j : Int) := HZ.out.trans h
      clear h
      have w0 : decide ((0 : Int) ≤ (j : Int)) = true := decide_eq_true (by omega)
      obtain ⟨b4, off4, c4', cs4, hv4, _, ⟨a4, rfl, ha4, _⟩, hcell4⟩ := hr3.s.at_ hj
      simp only [Value.slice.injEq, Option.some.injEq, Addr.mk.injEq, true_and, and_true] at hv4
      obtain ⟨⟨rfl, rfl⟩, rfl⟩ := hv4
      obtain ⟨A6, n6, rfl, _, _⟩ := ha4.form
      obtain ⟨p, hp⟩ : ∃ p, p = d.s[j] := ⟨_, rfl⟩
      have HP : Hid (d.s[j] = p) := hp.symm
      rw [← hp] at ha4 hcell4
      clear hp
      have g1 : ∀ s : Later w3, s.val.cell? ⟨b1, off1 + j * 2 + 1, none⟩ = some (.slice A6 p.f.length n6) := Later.cell (hcell4 1 _ rfl)
      clear hcell4
      have v2 : ∀ s : Later w3, (convert 27 9 (.slice A6 p.f.length n6)).run Try.prog s.val = .ok (.string (str p.f)) s.val := fun s => rb_str (ha4.below s.below)
      by_cases l6 : d.c.length ≤ 600
      case neg =>
        have s6 : decide ((d.c.length : Int) ≤ 600) = false := decide_eq_false (by omega)
        have s6b : decide (d.c.length ≤ 600) = false := decide_eq_false l6
        refine wp_later_many [(5, Sp.val (.int .i64 (d.c.length : Int))), (24, Sp.span (fun _ => True) p.f (spanTo d.s j)), (27, Sp.val (.bool (withinB p.f (spanTo d.s j) d.c)))] [5, 24, 27] (by as_aux_lemma => kernel_rfl) (by as_aux_lemma => kernel_rfl) ?_
        intro vv hv
        have e5 : vv 5 = .int .i64 (d.c.length : Int) := hv 5 (by decide)
        obtain ⟨A7, c7, A8, c8, e24⟩ : ∃ A c A2 c2, vv 24 = .agg #[.slice A p.f.length c, .slice A2 (spanTo d.s j).length c2] := hv 24 (by decide)
        have e27 : vv 27 = .bool (withinB p.f (spanTo d.s j) d.c) := hv 27 (by decide)
        refine many_pre 5 (by decide) ?_
        simp only [List.take_succ_cons, List.take_zero, List.drop_succ_cons, List.drop_zero]
        repeat (go_big_quiet_step (fail))
        refine wpQuiet_nil (many_wild (by decide) rfl ?_ ?_)
        · intro s _
          unfold Gives
          go_simp
          exact ⟨rfl, Below.refl _ _⟩
        intro a' ha'
        subst ha'
        simp only [Act.put, List.setIfInBounds_toArray, List.set_cons_succ, List.set_cons_zero]
        rw [e5]
        refine many_pre 18 (by decide) ?_
        simp only [List.take_succ_cons, List.take_zero, List.drop_succ_cons, List.drop_zero]
        repeat (go_big_quiet_step (fail))
        refine wpQuiet_nil (many_skip rfl ?_)
        intro a' ha'
        subst ha'
        simp only [Act.put, List.setIfInBounds_toArray, List.set_cons_succ, List.set_cons_zero]
        refine many_pre 2 (by decide) ?_
        simp only [List.take_succ_cons, List.take_zero, List.drop_succ_cons, List.drop_zero]
        repeat (go_big_quiet_step (fail))
        refine wpQuiet_nil (many_skip rfl ?_)
        intro a' ha'
        subst ha'
        simp only [Act.put, List.setIfInBounds_toArray, List.set_cons_succ, List.set_cons_zero]
        refine many_pre 2 (by decide) ?_
        simp only [List.take_succ_cons, List.take_zero, List.drop_succ_cons, List.drop_zero]
        repeat (go_big_quiet_step (fail))
        refine wpQuiet_nil (many_end ?_)
        intro s _
        have hBs := hB3.trans (s.below.mono hB3.size)
        go_wp2
        go_ret
        exact NO.out _ _ hBs
      have s6 : decide ((d.c.length : Int) ≤ 600) = true := decide_eq_true (by omega)
      have s6b : decide (d.c.length ≤ 600) = true := decide_eq_true l6
      cases q1 : Op.bytesLess (str d.c).toList (str p.f).toList <;> cases q2 : Op.bytesLess (str p.f).toList (str d.c).toList <;> cases q3 : ((str d.c).toList == (str p.f).toList)
      all_goals first
        | (refine wp_later_many [(5, Sp.val (.int .i64 (d.c.length : Int))), (24, Sp.span (fun _ => True) p.f (spanTo d.s j)), (27, Sp.val (.bool (withinB p.f (spanTo d.s j) d.c)))] [5, 24, 27] (by as_aux_lemma => kernel_rfl) (by as_aux_lemma => kernel_rfl) ?_
           intro vv hv
           have e5 : vv 5 = .int .i64 (d.c.length : Int) := hv 5 (by decide)
           obtain ⟨A7, c7, A8, c8, e24⟩ : ∃ A c A2 c2, vv 24 = .agg #[.slice A p.f.length c, .slice A2 (spanTo d.s j).length c2] := hv 24 (by decide)
           have e27 : vv 27 = .bool (withinB p.f (spanTo d.s j) d.c) := hv 27 (by decide)
           refine many_pre 5 (by decide) ?_
           simp only [List.take_succ_cons, List.take_zero, List.drop_succ_cons, List.drop_zero]
           repeat (go_big_quiet_step (fail))
           refine wpQuiet_nil (many_wild (by decide) rfl ?_ ?_)
           · intro s _
             unfold Gives
             go_simp
             exact ⟨rfl, Below.refl _ _⟩
           intro a' ha'
           subst ha'
           simp only [Act.put, List.setIfInBounds_toArray, List.set_cons_succ, List.set_cons_zero]
           rw [e5]
           refine many_pre 18 (by decide) ?_
           simp only [List.take_succ_cons, List.take_zero, List.drop_succ_cons, List.drop_zero]
           repeat (go_big_quiet_step (fail))
           refine wpQuiet_nil (many_skip rfl ?_)
           intro a' ha'
           subst ha'
           simp only [Act.put, List.setIfInBounds_toArray, List.set_cons_succ, List.set_cons_zero]
           refine many_pre 2 (by decide) ?_
           simp only [List.take_succ_cons, List.take_zero, List.drop_succ_cons, List.drop_zero]
           repeat (go_big_quiet_step (fail))
           refine wpQuiet_nil (many_skip rfl ?_)
           intro a' ha'
           subst ha'
           simp only [Act.put, List.setIfInBounds_toArray, List.set_cons_succ, List.set_cons_zero]
           refine many_pre 2 (by decide) ?_
           simp only [List.take_succ_cons, List.take_zero, List.drop_succ_cons, List.drop_zero]
           repeat (go_big_quiet_step (fail))
           refine wpQuiet_nil (many_end ?_)
           intro s _
           have hBs := hB3.trans (s.below.mono hB3.size)
           go_wp2
           go_ret
           exact NO.out _ _ hBs)
        | (refine wp_later_many [(5, Sp.val (.int .i64 (d.c.length : Int))), (24, Sp.span (fun _ => True) p.f (spanTo d.s j)), (27, Sp.val (.bool (withinB p.f (spanTo d.s j) d.c)))] [5, 24, 27] (by as_aux_lemma => kernel_rfl) (by as_aux_lemma => kernel_rfl) ?_
           intro vv hv
           have e5 : vv 5 = .int .i64 (d.c.length : Int) := hv 5 (by decide)
           obtain ⟨A7, c7, A8, c8, e24⟩ : ∃ A c A2 c2, vv 24 = .agg #[.slice A p.f.length c, .slice A2 (spanTo d.s j).length c2] := hv 24 (by decide)
           have e27 : vv 27 = .bool (withinB p.f (spanTo d.s j) d.c) := hv 27 (by decide)
           refine many_pre 5 (by decide) ?_
           simp only [List.take_succ_cons, List.take_zero, List.drop_succ_cons, List.drop_zero]
           repeat (go_big_quiet_step (fail))
           refine wpQuiet_nil (many_wild (by decide) rfl ?_ ?_)
           · intro s _
             unfold Gives
             go_simp
             exact ⟨rfl, Below.refl _ _⟩
           intro a' ha'
           subst ha'
           simp only [Act.put, List.setIfInBounds_toArray, List.set_cons_succ, List.set_cons_zero]
           rw [e5]
           refine many_pre 18 (by decide) ?_
           simp only [List.take_succ_cons, List.take_zero, List.drop_succ_cons, List.drop_zero]
           repeat (go_big_quiet_step (fail))
           refine wpQuiet_nil (many_wild (by decide) rfl ?_ ?_)
           · intro s _
             unfold Gives
             go_simp
             refine (span_any d _ _ j hj _ (hr3.below s.below)).mono ?_
             rintro e w4 ⟨⟨fr, ut, rfl, h1, h2⟩, hb4⟩
             rw [HP.out] at h1
             obtain ⟨Af, cf, rfl, _, _⟩ := h1.form
             obtain ⟨Au, cu, rfl, _, _⟩ := h2.form
             exact ⟨_, rfl, ⟨_, _, _, _, rfl, h1.mono (by decide) fun _ _ _ => trivial, h2.mono (by decide) fun _ _ _ => trivial⟩, hb4⟩
           intro a' ha'
           subst ha'
           simp only [Act.put, List.setIfInBounds_toArray, List.set_cons_succ, List.set_cons_zero]
           rw [e24]
           refine many_pre 2 (by decide) ?_
           simp only [List.take_succ_cons, List.take_zero, List.drop_succ_cons, List.drop_zero]
           repeat (go_big_quiet_step (fail))
           refine wpQuiet_nil (many_wild (by decide) rfl ?_ ?_)
           · intro s hf
             obtain ⟨_, _, _, _, e24', g1, g2⟩ : ∃ A c A2 c2, vv 24 = .agg #[.slice A p.f.length c, .slice A2 (spanTo d.s j).length c2] ∧ RB (fun _ => True) s.val (.slice A p.f.length c) p.f ∧ RB (fun _ => True) s.val (.slice A2 (spanTo d.s j).length c2) (spanTo d.s j) := hf 24 (by decide) (by kernel_rfl)
             rw [e24] at e24'
             simp only [Value.agg.injEq, Array.mk.injEq, List.cons.injEq, Value.slice.injEq, true_and, and_true] at e24'
             obtain ⟨⟨rfl, rfl⟩, rfl, rfl⟩ := e24'
             unfold Gives
             go_simp
             refine (within_any _ _ _ p.f (spanTo d.s j) d.c _ g1 g2 (hr3.c.below s.below)).mono ?_
             rintro e w4 ⟨rfl, hb4⟩
             exact ⟨_, rfl, rfl, hb4⟩
           intro a' ha'
           subst ha'
           simp only [Act.put, List.setIfInBounds_toArray, List.set_cons_succ, List.set_cons_zero]
           rw [e27]
           refine many_pre 2 (by decide) ?_
           simp only [List.take_succ_cons, List.take_zero, List.drop_succ_cons, List.drop_zero]
           repeat (go_big_quiet_step (fail))
           refine wpQuiet_nil (many_end ?_)
           intro s _
           have hBs := hB3.trans (s.below.mono hB3.size)
           go_wp2
           go_ret
           exact NO.out _ _ hBs)
end Go.Proofs.Ytikkknaofiafhaa
