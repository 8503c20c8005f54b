/- Contracts: same.CopyPair; the document's (*Job).Got.
Contract: the document's (*Job).Got. -/
import Derived.Test.YtikkknaofiafhaaP9
import Derived.Test.YtikkknaofiafhaaR7
import Derived.Test.YtikkknaofiafhaaRegE
namespace Go.Proofs.Ytikkknaofiafhaa
open Go.RowKit

set_option maxRecDepth 100000 in
set_option maxHeartbeats 3200000 in
theorem copyPair_any {ok : Nat → Prop} (a b : Value) (p : PairD) (w : World) (h1 : RB ok w a p.k) (h2 : RB ok w b p.v) :
    Calls Try.prog 71 #[.agg #[a, b, .int .i64 p.n]] w fun e w' => (∃ A1 c1 A2 c2, e = .returned (.agg #[.slice A1 p.k.length c1, .slice A2 p.v.length c2, .int .i64 p.n]) ∧ RB (fun b => w.heap.size ≤ b) w' (.slice A1 p.k.length c1) p.k ∧ RB (fun b => w.heap.size ≤ b) w' (.slice A2 p.v.length c2) p.v) ∧ Below w.heap.size w w' := by
  obtain ⟨A1, c1, rfl, _, _⟩ := h1.form
  obtain ⟨A2, c2, rfl, _, _⟩ := h2.form
  go_enter Try.func71, Try.ntmps71
  go_upto_region 1 with fail
  refine name_world (fun w1 => Below w.heap.size w w1 ∧ w.heap.size + 2 ≤ w1.heap.size ∧ Blk w1 w.heap.size 98 #[.slice A1 p.k.length c1, .slice A2 p.v.length c2, .int .i64 p.n] ∧ Blk w1 (w.heap.size + 1) 98 #[nl, nl, .int .i64 0])
    ⟨((Below.refl _ _).alloc (Nat.le_refl _) _).alloc (by simp) _, by simp, (Blk.new w _ _).alloc _, Blk.new_ (by simp)⟩ ?_
  rintro w1 ⟨hB1, hz1, k1, k2⟩
  have q0 : ∀ s : Later w1, s.val.cell? ⟨w.heap.size, 0, none⟩ = some (.slice A1 p.k.length c1) := k1.later rfl
  have q1 : ∀ s : Later w1, s.val.cell? ⟨w.heap.size, 1, none⟩ = some (.slice A2 p.v.length c2) := k1.later rfl
  have q2 : ∀ s : Later w1, s.val.cell? ⟨w.heap.size, 2, none⟩ = some (.int .i64 p.n) := k1.later rfl
  have g1 := h1.below hB1
  have g2 := h2.below hB1
  refine wp_later_many_tail 9 [(2, Sp.rb (fun b => w.heap.size + 2 ≤ b) p.k), (5, Sp.rb (fun b => w.heap.size + 2 ≤ b) p.v)] [2, 5] (by as_aux_lemma => kernel_rfl) (by as_aux_lemma => kernel_rfl) (by as_aux_lemma => kernel_rfl) ?_
  intro vv hv
  obtain ⟨B1, d1, e2, _⟩ : ∃ A c, vv 2 = .slice A p.k.length c ∧ p.k.length ≤ c := hv 2 (by decide)
  obtain ⟨B2, d2, e5, _⟩ : ∃ A c, vv 5 = .slice A p.v.length c ∧ p.v.length ≤ c := hv 5 (by decide)
  simp only [List.take_succ_cons, List.take_zero, List.drop_succ_cons, List.drop_zero]
  refine many_pre 2 (by decide) ?_
  simp only [List.take_succ_cons, List.take_zero, List.drop_succ_cons, List.drop_zero]
  repeat (go_big_quiet_step (fail))
  refine wpQuiet_nil (many_wild (by decide) rfl ?_ ?_)
  · intro s _
    unfold Gives
    go_simp
    refine (copy_rb _ p.k _ (g1.below s.below)).mono ?_
    rintro e w4 ⟨⟨y, rfl, hy⟩, hb4⟩
    exact ⟨y, rfl, hy.mono (by decide) (fun b hb _ => by have := s.below.size; have : s.val.heap.size ≤ b := hb; omega), hb4⟩
  intro a' ha'
  subst ha'
  simp only [Act.put, List.setIfInBounds_toArray, List.set_cons_succ, List.set_cons_zero]
  rw [e2]
  refine many_pre 2 (by decide) ?_
  simp only [List.take_succ_cons, List.take_zero, List.drop_succ_cons, List.drop_zero]
  repeat (go_big_quiet_step (fail))
  refine wpQuiet_nil (many_wild (by decide) rfl ?_ ?_)
  · intro s _
    unfold Gives
    go_simp
    refine (copy_rb _ p.v _ (g2.below s.below)).mono ?_
    rintro e w4 ⟨⟨y, rfl, hy⟩, hb4⟩
    exact ⟨y, rfl, hy.mono (by decide) (fun b hb _ => by have := s.below.size; have : s.val.heap.size ≤ b := hb; omega), hb4⟩
  intro a' ha'
  subst ha'
  simp only [Act.put, List.setIfInBounds_toArray, List.set_cons_succ, List.set_cons_zero]
  rw [e5]
  refine many_pre 3 (by decide) ?_
  simp only [List.take_succ_cons, List.take_zero, List.drop_succ_cons, List.drop_zero]
  repeat (go_big_quiet_step (fail))
  refine wpQuiet_nil (many_end ?_)
  intro s hf
  have f2 : RB (fun b => w.heap.size + 2 ≤ b) s.val (vv 2) p.k := hf 2 (by decide)
  have f5 : RB (fun b => w.heap.size + 2 ≤ b) s.val (vv 5) p.v := hf 5 (by decide)
  rw [e2] at f2
  rw [e5] at f5
  have hBs := hB1.trans (s.below.mono hB1.size)
  have k2s := k2.below s.below k2.lt
  obtain ⟨z0, z1, z2⟩ := set3_cells k2s
  have fz := fun i => k2s.frozen i
  clear q0 q1 q2 e2 e5 hv hf
  go_wp2
  obtain ⟨d0, d1', d2'⟩ := set3_cells (k2s.set3 (.slice B1 p.k.length d1) (.slice B2 p.v.length d2) (.int .i64 p.n))
  have hkx := kp_set3 (ok := fun b => w.heap.size + 2 ≤ b) (w := s.val) (g := w.heap.size + 1) (fun h => by omega) (.slice B1 p.k.length d1) (.slice B2 p.v.length d2) (.int .i64 p.n)
  refine bodyPost_ret (v := .agg #[.slice B1 p.k.length d1, .slice B2 p.v.length d2, .int .i64 p.n]) (by simp [results, Try.results71, go_sem, d0, d1', d2']) rfl ?_
  exact ⟨⟨_, _, _, _, rfl, (f2.kp hkx).mono (by decide) fun b h _ => by omega, (f5.kp hkx).mono (by decide) fun b h _ => by omega⟩, below_set3 hBs (by omega) _ _ _⟩
end Go.Proofs.Ytikkknaofiafhaa

namespace Go.Proofs.Ytikkknaofiafhaa
open Go.RowKit

/-- a pair by value, with its number -/
def Sp.pairN (ok : Nat → Prop) (p : PairD) : Sp :=
  ⟨fun x => ∃ A c A2 c2, x = .agg #[.slice A p.k.length c, .slice A2 p.v.length c2, .int .i64 p.n], .agg #[.slice none p.k.length 0, .slice none p.v.length 0, .int .i64 p.n], ⟨none, 0, none, 0, rfl⟩,
    fun x w => ∃ A c A2 c2, x = .agg #[.slice A p.k.length c, .slice A2 p.v.length c2, .int .i64 p.n] ∧ RB ok w (.slice A p.k.length c) p.k ∧ RB ok w (.slice A2 p.v.length c2) p.v,
    fun _ _ ⟨A, c, A2, c2, h, _⟩ => ⟨A, c, A2, c2, h⟩, fun _ _ _ hb ⟨A, c, A2, c2, h, h1, h2⟩ => ⟨A, c, A2, c2, h, h1.below hb, h2.below hb⟩⟩
theorem kp_all {h : Nat} {w w' : World} (hk : Kp (fun b => b ≠ h ∧ b < w.heap.size) w w') : Kp (fun b => b ≠ h) w w' := ⟨hk.os, hk.tape, hk.output, hk.size, fun k hlt hb => hk.block k hlt ⟨hb, hlt⟩⟩

set_option maxRecDepth 100000 in
set_option maxHeartbeats 12800000 in
theorem refGot_any {ok okr : Nat → Prop} (j : JobD) (R : Array Value) (err : Int) (ps : List PairD) (g : Nat) (w : World) (hR : RepR okr w R err ps) (hj : RJob ok w g j) (hok : ∀ b, ok b → b ≠ g) (hokr : ∀ b, okr b → b ≠ g) (hnew : ∀ b, w.heap.size ≤ b → ok b) (hps : ps.length ≤ 1000000) :
    Calls Try.prog 31 #[.pointer (some ⟨g, 0, none⟩), .agg R] w fun e w' => e = .returned (.int .i64 (gotJ j err ps).2) ∧ RJob ok w' g (gotJ j err ps).1 ∧ Kp (fun b => b ≠ g) w w' := by
  obtain ⟨C, given, hk, hc, hgv⟩ := hj
  obtain ⟨A9, cc9, rfl, _, _⟩ := hgv.form
  have hC := hc.size
  obtain ⟨vp, hvp, hpr⟩ := hR.ps
  obtain ⟨A8, cc8, rfl, _, _⟩ := hpr.form
  obtain ⟨ph, asd, gr, cd, gl⟩ := j
  simp only at hk hc hgv
  have hgl := hk.lt
  go_enter Try.func31, Try.ntmps31
  go_upto_region 1 with fail
  refine name_world (fun w1 => Below w.heap.size w w1 ∧ w.heap.size + 1 ≤ w1.heap.size ∧ Blk w1 w.heap.size 70 R)
    ⟨(Below.refl _ _).alloc (Nat.le_refl _) _, by simp, Blk.new _ _ _⟩ ?_
  rintro w1 ⟨hB1, hz1, k1⟩
  have kg := hk.below hB1 hgl
  have hne0 : w.heap.size ≠ g := by omega
  have hK1 : Kp (fun b => b ≠ g) w w1 := (Kp.of_below hB1).mono fun _ _ => trivial
  have p1 : w1.cell? ⟨g, 2, none⟩ = some (.bool asd) := (kg.cell 2).trans (rjob0 _ _ _ _ _).2.2.1
  have fz := fun i => kg.frozen i
  cases asd
  case false =>
    go_wp2
    go_ret
    exact ⟨rfl, ⟨C, _, kg, hc.below hB1, hgv.below hB1⟩, hK1⟩
  go_upto_region 5 with fail
  refine name_world (fun w2 => Kp (fun b => b ≠ g) w w2 ∧ w.heap.size + 1 ≤ w2.heap.size ∧ Blk w2 w.heap.size 70 R ∧ Blk w2 g 62 (rjobCs ph (.slice A9 gl.length cc9) false gr C))
    ⟨hK1.setCell (fun _ h => h rfl) _, by simp; omega, k1.far hne0 _, ?_⟩ ?_
  · have := kg.set_ 2 (.bool false)
    rwa [rjob_set2] at this
  clear k1 kg hK1 p1 fz hB1 hz1
  rintro w2 ⟨hK2, hz2, k2, kg2⟩
  have hc2 := hc.kp (hK2.mono hok)
  have hg2 := hgv.kp (hK2.mono hok)
  have p0 : w2.cell? ⟨g, 0, none⟩ = some (.int .i64 ph) := (kg2.cell 0).trans (rjob0 _ _ _ _ _).1
  have p1 : w2.cell? ⟨g, 1, none⟩ = some (.slice A9 gl.length cc9) := (kg2.cell 1).trans (rjob0 _ _ _ _ _).2.1
  have q0 : w2.cell? ⟨w.heap.size, 0, none⟩ = some (.int .i64 err) := (k2.cell 0).trans hR.err
  have fz := fun i => kg2.frozen i
  by_cases h0 : ph = 0
  · subst h0
    have HG : Hid (gotJ ⟨0, true, gr, cd, gl⟩ err ps = (gaveJ ⟨0, false, gr, cd, gl⟩ err ps, 0)) := by unfold gotJ; rw [if_neg (by simp), if_pos rfl]; trivial
    by_cases e0 : err = 0
    · have s0 : (err == 0) = true := by simp [e0]
      have HG2 : Hid (gaveJ ⟨0, false, gr, cd, gl⟩ err ps = ⟨1, false, gr, cd, ps⟩) := by unfold gaveJ; rw [if_pos e0]; trivial
      clear e0
      go_upto_region 7 with fail
      have hkp : Kp (fun b => b ≠ g) w2 ((w2.setCell ⟨g, 0, none⟩ (.int .i64 1)).setCell ⟨g, 1, none⟩ nl) := ((Kp.refl _ _).setCell (fun _ h => h rfl) _).setCell (fun _ h => h rfl) _
      refine name_world (fun w3 => Kp (fun b => b ≠ g) w w3 ∧ w.heap.size + 1 ≤ w3.heap.size ∧ Blk w3 w.heap.size 70 R ∧ Blk w3 g 62 (rjobCs 1 nl false gr C))
        ⟨hK2.trans hkp, by simp; omega, (k2.far hne0 _).far hne0 _, ?_⟩ ?_
      · have := (kg2.set_ 0 (.int .i64 1)).set_ 1 nl
        rwa [rjob_set0, rjob_set1] at this
      clear p0 p1 q0 fz kg2 k2 hK2 hkp hc2 hg2
      rintro w3 ⟨hK3, hz3, k3, kg3⟩
      have hR3 := hpr.kp (hK3.mono hokr)
      have hgw3 : g < w3.heap.size := kg3.lt
      go_wp2
      go_loopw [5] (fun jv wr => ∃ (k : Nat) (v : Value), k ≤ ps.length ∧ jv = .int .i64 (k : Int) ∧ Kp (fun b => b ≠ g ∧ b < w3.heap.size) w3 wr ∧ Blk wr g 62 (rjobCs 1 v false gr C) ∧ OwnL rPair (fun b => w3.heap.size ≤ b) w3.heap.size 98 wr v (ps.take k)) (fun jv _ => ps.length - (intOf jv).toNat)
      case atStart => exact ⟨0, nl, by omega, rfl, Kp.refl _ _, kg3, OwnL.nil_ _ _ _ _ _⟩
      case round =>
        obtain ⟨k, v, hk', rfl, hkr, kgr, hown⟩ := hrel
        obtain ⟨Av, cv, rfl, hcv⟩ := hown.form
        have hzr : w3.heap.size ≤ wr.heap.size := hkr.size
        have krr : Blk wr w.heap.size 70 R := k3.kp hkr ⟨hne0, k3.lt⟩
        have hpr2 : RSl rPair (fun b => okr b ∧ b < w3.heap.size) wr (.slice A8 ps.length cc8) ps := (hR3.mono (ok' := fun b => okr b ∧ b < w3.heap.size) (by decide) fun b h hlt => ⟨h, hlt⟩).kp (hkr.mono fun b h => ⟨hokr b h.1, h.2⟩)
        have q4 : wr.cell? ⟨w.heap.size, 4, none⟩ = some (.slice A8 ps.length cc8) := (krr.cell 4).trans hvp
        have hkl := kgr.lt
        by_cases hlt : k < ps.length
        · obtain ⟨b1, off1, c1', cs1, hv1, hb1, ⟨a1, a2, rfl, ha1, ha2, hn64⟩, hcell1⟩ := hpr2.at_ hlt
          simp only [Value.slice.injEq, true_and] at hv1
          obtain ⟨rfl, rfl⟩ := hv1
          have x0 := hcell1 0 _ rfl
          have x1 := hcell1 1 _ rfl
          have x2 := hcell1 2 _ rfl
          simp only [Nat.add_zero, show rPair.sz = 3 from rfl] at x0 x1 x2
          clear hcell1
          obtain ⟨A1, c1, rfl, _, _⟩ := ha1.form
          obtain ⟨A2, c2, rfl, _, _⟩ := ha2.form
          obtain ⟨p, hp⟩ : ∃ p, p = ps[k] := ⟨_, rfl⟩
          rw [← hp] at x0 x1 x2 ha1 ha2 hn64
          have HP := Lib.hid hp
          clear hp
          have hsz : (ps.take k).length = k := by rw [List.length_take]; omega
          have hfor : Value.slice Av (ps.take k).length cv = .slice Av k cv := by rw [hsz]
          rw [hfor] at hown kgr
          have HTK : Hid (ps.take (k + 1) = ps.take k ++ [p] ∧ (ps.take k).length = k) := ⟨by rw [List.take_succ_eq_append_getElem hlt, ← HP.out], hsz⟩
          obtain ⟨tk, htk⟩ : ∃ tk, tk = ps.take k := ⟨_, rfl⟩
          rw [← htk] at hown HTK
          clear htk hsz hfor hcv
          obtain ⟨bad, hbad⟩ : ∃ bad : Nat → Prop, bad = fun b => some b = (Value.slice Av k cv).ownBlock := ⟨_, rfl⟩
          have bl : ∀ b, bad b → w3.heap.size ≤ b ∧ b < wr.heap.size := fun b hb => by rw [hbad] at hb; exact hown.lt b hb.symm
          have nb0 : ∀ b, b < w3.heap.size → ¬ bad b := fun b h hb => by have := (bl b hb).1; omega
          have nb1 : ∀ b, wr.heap.size ≤ b → ¬ bad b := fun b h hb => by have := (bl b hb).2; omega
          have l0 := LaterB.cell (bad := bad) x0 (nb0 _ hb1.2)
          have l1 := LaterB.cell (bad := bad) x1 (nb0 _ hb1.2)
          have l2 := LaterB.cell (bad := bad) x2 (nb0 _ hb1.2)
          have l4 := LaterB.cell (bad := bad) q4 (nb0 _ k3.lt)
          have lg : ∀ s : LaterB wr bad, s.val.cell? ⟨g, 1, none⟩ = some (.slice Av k cv) := fun s => ((kgr.kp s.kp (nb0 _ hgw3)).cell 1).trans (rjob0 _ _ _ _ _).2.1
          clear x0 x1 x2
          go_wp2
          clear q4
          refine wp_app_many_tail 13 bad (fun x w' => OwnL rPair (fun b => w3.heap.size ≤ b) w3.heap.size 98 w' x (tk ++ [p])) 12 [(2, SpB.val bad (.pointer (some ⟨g, 0, none⟩))), (10, SpB.pairN bad (fun b => wr.heap.size ≤ b) nb1 p.k p.v p.n), (11, SpB.rsl bad rPair (fun b => wr.heap.size ≤ b) nb1 [p]), (12, SpB.len bad (k + 1))] [2, 10, 11, 12] (by as_aux_lemma => kernel_rfl) (by as_aux_lemma => kernel_rfl) (by as_aux_lemma => kernel_rfl) ?_
          intro vv hv
          have e2 : vv 2 = .pointer (some ⟨g, 0, none⟩) := hv 2 (by decide)
          obtain ⟨B1, d1, B2, d2, e10⟩ : ∃ A c A2 c2, vv 10 = .agg #[.slice A p.k.length c, .slice A2 p.v.length c2, .int .i64 p.n] := hv 10 (by decide)
          obtain ⟨B3, d3, e11, _⟩ : ∃ A c, vv 11 = .slice A 1 c ∧ 1 ≤ c := hv 11 (by decide)
          obtain ⟨B4, d4, e12⟩ : ∃ A c, vv 12 = .slice A (k + 1) c := hv 12 (by decide)
          simp only [List.take_succ_cons, List.take_zero, List.drop_succ_cons, List.drop_zero]
          refine manya_pre 2 (by decide) ?_ (by kernel_rfl)
          simp only [List.take_succ_cons, List.take_zero, List.drop_succ_cons, List.drop_zero]
          repeat (go_big_quiet_step (fail))
          refine wpQuiet_nil (manya_wild (by decide) (by kernel_rfl) rfl ?_ ?_)
          · intro s _
            unfold Gives
            go_simp
            exact ⟨rfl, Below.refl _ _⟩
          intro a' ha'
          subst ha'
          simp only [Act.put, List.setIfInBounds_toArray, List.set_cons_succ, List.set_cons_zero]
          rw [e2]
          refine manya_pre 7 (by decide) ?_ (by kernel_rfl)
          simp only [List.take_succ_cons, List.take_zero, List.drop_succ_cons, List.drop_zero]
          repeat (go_big_quiet_step (fail))
          refine wpQuiet_nil (manya_wild (by decide) (by kernel_rfl) rfl ?_ ?_)
          · intro s _
            unfold Gives
            go_simp
            refine (copyPair_any _ _ p _ (ha1.below s.below) (ha2.below s.below)).mono ?_
            rintro e w4 ⟨⟨A3, c3, A4, c4, rfl, g1, g2⟩, hb4⟩
            exact ⟨_, rfl, ⟨_, _, _, _, rfl, g1.mono (by decide) fun b h _ => Nat.le_trans s.below.size h, g2.mono (by decide) fun b h _ => Nat.le_trans s.below.size h⟩, hb4⟩
          intro a' ha'
          subst ha'
          simp only [Act.put, List.setIfInBounds_toArray, List.set_cons_succ, List.set_cons_zero]
          rw [e10]
          refine manya_wild (by decide) (by kernel_rfl) rfl ?_ ?_
          · intro s hf
            obtain ⟨_, _, _, _, e10', g1, g2⟩ : ∃ A c A2 c2, vv 10 = .agg #[.slice A p.k.length c, .slice A2 p.v.length c2, .int .i64 p.n] ∧ RB (fun b => wr.heap.size ≤ b) s.val (.slice A p.k.length c) p.k ∧ RB (fun b => wr.heap.size ≤ b) s.val (.slice A2 p.v.length c2) p.v := hf 10 (by decide) (by kernel_rfl)
            rw [e10] at e10'
            simp only [Value.agg.injEq, Array.mk.injEq, List.cons.injEq, Value.slice.injEq, true_and, and_true] at e10'
            obtain ⟨⟨rfl, rfl⟩, rfl, rfl⟩ := e10'
            unfold Gives
            go_simp
            exact ⟨RSl.one_new (E := rPair) _ ⟨_, _, rfl, g1, g2, hn64⟩ s.below.size (by decide), (Below.refl _ _).alloc (Nat.le_refl _) _⟩
          intro a' ha'
          subst ha'
          simp only [Act.put, List.setIfInBounds_toArray, List.set_cons_succ, List.set_cons_zero]
          rw [e11]
          refine manya_st (by decide) rfl ?_ ?_
          · intro s hf
            have f11 : RSl rPair (fun b => wr.heap.size ≤ b) s.val (vv 11) [p] := hf 11 (by decide) (by kernel_rfl)
            rw [e11] at f11
            refine gives_app (E := rPair) Try.rowPair (by decide) (.tmp 45) (.tmp 52) rfl (.slice Av k cv) tk s.val rfl (hown.below s.below) (.slice B3 1 d3) [p] rfl (f11.mono (by decide) fun b h _ => ⟨by omega, fun e => nb1 b h (by rw [hbad]; exact e)⟩) (by rw [HTK.out.2]; show (k + 1) * 56 ≤ _; omega) (by rw [HTK.out.2]; show k + 1 ≤ _; omega) (Nat.le_trans hzr s.below.size) ?_
            intro v' w' h1 h2
            obtain ⟨A', c', rfl, _⟩ := h1.form
            refine ⟨⟨A', c', by rw [List.length_append, HTK.out.2]; rfl⟩, h1, ?_⟩
            rw [hbad]
            exact h2
          intro a' ha'
          subst ha'
          simp only [Act.put, List.setIfInBounds_toArray, List.set_cons_succ, List.set_cons_zero]
          rw [e12]
          refine manya_end (by decide) ?_
          intro w' hkp hG
          rw [e12] at hG
          have kg' := kgr.kp hkp (nb0 _ hgw3)
          have c1 : w'.cell? ⟨g, 1, none⟩ = some (.slice Av k cv) := (kg'.cell 1).trans (rjob0 _ _ _ _ _).2.1
          have fz := fun i => kg'.frozen i
          clear e2 e10 e11 e12 hv l0 l1 l2 l4 lg
          go_wp2
          go_roundw
          case rel =>
            refine ⟨k + 1, .slice B4 (k + 1) d4, by omega, by go_num, (hkr.trans (hkp.mono fun b h => nb0 b h.2)).setCell (fun _ h => h.1 rfl) _, ?_, ?_⟩
            · have := kg'.set_ 1 (.slice B4 (k + 1) d4)
              rwa [rjob_set1] at this
            · rw [HTK.out.1]
              exact hG.kp (ok := fun b => b ≠ g) ((Kp.refl _ _).setCell (fun _ h => h rfl) _) (fun b h => by have : w3.heap.size ≤ b := h; omega) (fun b h => by have := (hG.lt b h).1; omega)
          case measure => simp [intOf]; omega
        · have hke : k = ps.length := by omega
          subst hke
          clear hlt hk'
          have hK4 := hK3.trans (kp_all hkr)
          rw [List.take_length] at hown
          have hfor : Value.slice Av (ps.take ps.length).length cv = .slice Av ps.length cv := by rw [List.take_length]
          rw [hfor] at kgr
          clear hfor hcv
          go_wp2
          go_ret
          rw [HG.out, HG2.out]
          exact ⟨rfl, ⟨C, _, kgr, hc.kp (hK4.mono hok), hown.rsl (by decide) (by show ps.length * 56 ≤ _; omega) (fun b h => hnew b (by have := hK3.size; omega)) (fun b h => hnew b (by have : w3.heap.size ≤ b := h; have := hK3.size; omega))⟩, hK4⟩
    · have s0 : (err == 0) = false := by simpa using e0
      by_cases e10 : err = 10
      · have s1 : (err == 10) = true := by simp [e10]
        have HG2 : Hid (gaveJ ⟨0, false, gr, cd, gl⟩ err ps = ⟨3, false, gr, cd, gl⟩) := by unfold gaveJ; rw [if_neg e0, if_pos e10]; trivial
        clear e0 e10
        go_wp2
        go_ret
        rw [HG.out, HG2.out]
        have hkp : Kp (fun b => b ≠ g) w2 (w2.setCell ⟨g, 0, none⟩ (.int .i64 3)) := (Kp.refl _ _).setCell (fun _ h => h rfl) _
        refine ⟨rfl, ⟨C, _, ?_, hc2.kp (hkp.mono hok), hg2.kp (hkp.mono hok)⟩, hK2.trans hkp⟩
        have := kg2.set_ 0 (.int .i64 3)
        rwa [rjob_set0] at this
      have s1 : (err == 10) = false := by simpa using e10
      have HG2 : Hid (gaveJ ⟨0, false, gr, cd, gl⟩ err ps = ⟨0, false, gr, cd, gl⟩) := by unfold gaveJ; rw [if_neg e0, if_neg e10]; trivial
      clear e0 e10
      go_wp2
      go_ret
      rw [HG.out, HG2.out]
      exact ⟨rfl, ⟨C, _, kg2, hc2, hg2⟩, hK2⟩
  have s0 : (ph == 0) = false := by simpa using h0
  by_cases h1 : ph = 1
  · subst h1
    by_cases he : err = 0 ∨ err = 7
    · have HG : Hid (gotJ ⟨1, true, gr, cd, gl⟩ err ps = (⟨2, false, gr, cd, gl⟩, 0)) := by unfold gotJ; rw [if_neg (by simp), if_neg (by simp), if_pos rfl, if_pos he]; trivial
      cases e1 : (err == 0) <;> cases e2 : (err == 7)
      case false.false => exact absurd he (by simp at e1 e2; simp [e1, e2])
      all_goals
        clear he
        go_wp2
        go_ret
        rw [HG.out]
        have hkp : Kp (fun b => b ≠ g) w2 (w2.setCell ⟨g, 0, none⟩ (.int .i64 2)) := (Kp.refl _ _).setCell (fun _ h => h rfl) _
        refine ⟨rfl, ⟨C, _, ?_, hc2.kp (hkp.mono hok), hg2.kp (hkp.mono hok)⟩, hK2.trans hkp⟩
        have := kg2.set_ 0 (.int .i64 2)
        rwa [rjob_set0] at this
    · have HG : Hid (gotJ ⟨1, true, gr, cd, gl⟩ err ps = (⟨1, false, gr, cd, gl⟩, 0)) := by unfold gotJ; rw [if_neg (by simp), if_neg (by simp), if_pos rfl, if_neg he]; trivial
      have e1 : (err == 0) = false := by simp; exact fun h => he (.inl h)
      have e2 : (err == 7) = false := by simp; exact fun h => he (.inr h)
      clear he
      go_wp2
      go_ret
      rw [HG.out]
      exact ⟨rfl, ⟨C, _, kg2, hc2, hg2⟩, hK2⟩
  have s1 : (ph == 1) = false := by simpa using h1
  have HG : Hid (gotJ ⟨ph, true, gr, cd, gl⟩ err ps = (zJob, 0)) := by unfold gotJ; rw [if_neg (by simp), if_neg h0, if_neg h1]; trivial
  clear h0 h1
  go_upto_region 4 with fail
  refine wp_region_split 3 ?_
  simp only [List.take_succ_cons, List.take_zero, List.drop_succ_cons, List.drop_zero]
  go_wp2
  show wpList _ _ _ _ _ _
  refine wpList_storeB' rfl rfl (rjobCs 0 nl false 0 zC) rfl rfl kg2 (by rw [rjobCs_size hC]; rfl) (by rw [rjobCs_size rfl]; exact Try.infoRJob) zrjob_one ?_ rfl
  intro kg3
  have hK3 := Kp.setCells (ok := fun b => b ≠ g) (a := w) (b := g) (fun _ h => h rfl) (rjobCs 0 nl false 0 zC).toList 0 hK2
  clear p0 p1 q0 fz
  go_wp2
  go_ret
  rw [HG.out]
  exact ⟨rfl, ⟨zC, nl, kg3, CmdV.of (d := zCmd) (k := nl) (f := nl) (u := nl) (p := nl) ⟨RSl.nil_ _ _ _, RSl.nil_ _ _ _, RSl.nil_ _ _ _, RSl.nil_ _ _ _⟩, RSl.nil_ _ _ _⟩, hK3⟩
end Go.Proofs.Ytikkknaofiafhaa
