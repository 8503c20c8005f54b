/- Contract: rows.Owner, where it has an owner to tell. -/
import Derived.Test.YtikkknaofiafhaaR8
namespace Go.Proofs.Ytikkknaofiafhaa
open Go.RowKit

/-- an entry's column is right -/
def OwnCol (t : TabD) (L K : List Val) (k : Int) (i : Nat) : Prop :=
  ∃ q : Nat, k = q ∧ ∃ (hq : q < t.cols.length) (hi : i < L.length), mayC t.cols[q] L[i] = true ∧ (idxI t.key q 0 = -1 ∨ ∃ j : Nat, idxI t.key q 0 = j ∧ ∃ hj : j < K.length, K[j] = L[i])

set_option maxRecDepth 100000 in
set_option maxHeartbeats 6400000 in
theorem owner_ok {ok ok3 ok4 : Nat → Prop} (t : TabD) (x : IdxD) (a b xa k y : Value) (n0 : Int) (pk pv : List UInt8) (w : World) (ht : TabR ok w a b t) (hx : IdxR ok3 w xa x) (hk : RB ok4 w k pk) (hy : RB ok4 w y pv) (hkl : pk.length ≤ 1000000) (hyl : pv.length ≤ 1000000)
    (L K : List Val) (hp : partsV t x pk pv = (L, K, true)) (hf : fitAll t t.key K = true) (hc : ∀ i (h : i < x.cols.length), OwnCol t L K x.cols[i] i) :
    Calls Try.prog 55 #[.agg (tabCs t a b), .agg (idxCs x xa), .agg #[k, y, .int .i64 n0]] w fun e w' => (∃ v, e = .returned (.tuple #[v, .bool true]) ∧ RB (fun b => w.heap.size ≤ b) w' v (nameB t K)) ∧ Below w.heap.size w w' := by
  obtain ⟨A, c, rfl, hcc, _⟩ := ht.cols.form
  obtain ⟨A3, c3, rfl, _, _⟩ := ht.key.form
  obtain ⟨A4, c4, rfl, hcx, hxl⟩ := hx.cols.form
  obtain ⟨A1, c1, rfl, _, _⟩ := hk.form
  obtain ⟨A2, c2, rfl, _, _⟩ := hy.form
  have hxl' : x.cols.length * 8 ≤ 140737488351232 := hxl
  clear hxl
  have HP := Lib.hid hp
  have HC := Lib.hid hc
  have HF := Lib.hid hf
  clear hp hc hf
  go_enter Try.func55, Try.ntmps55
  unfold tabCs idxCs
  go_upto_region 1 with fail
  refine name_world (fun w1 => Below w.heap.size w w1 ∧ w.heap.size + 3 ≤ w1.heap.size ∧ Blk w1 w.heap.size 56 (tabCs t (.slice A t.cols.length c) (.slice A3 t.key.length c3)) ∧ Blk w1 (w.heap.size + 1) 58 (idxCs x (.slice A4 x.cols.length c4)) ∧ Blk w1 (w.heap.size + 2) 98 #[.slice A1 pk.length c1, .slice A2 pv.length c2, .int .i64 n0])
    ⟨(((Below.refl _ _).alloc (Nat.le_refl _) _).alloc (by simp) _).alloc (by simp; omega) _, by simp, ((Blk.new w _ _).alloc _).alloc _, (Blk.new_ (by simp)).alloc _, Blk.new_ (by simp)⟩ ?_
  rintro w1 ⟨hb1, hz1, kt, kx, kp⟩
  have a0 : w1.cell? ⟨w.heap.size, 0, none⟩ = some (.int .i64 t.id) := kt.cell 0
  have a1 : w1.cell? ⟨w.heap.size, 1, none⟩ = some (.string t.name) := kt.cell 1
  have a2 : w1.cell? ⟨w.heap.size, 2, none⟩ = some (.slice A t.cols.length c) := kt.cell 2
  have a3 : w1.cell? ⟨w.heap.size, 3, none⟩ = some (.slice A3 t.key.length c3) := kt.cell 3
  have i0 : w1.cell? ⟨w.heap.size + 1, 0, none⟩ = some (.int .i64 x.id) := kx.cell 0
  have i1 : w1.cell? ⟨w.heap.size + 1, 1, none⟩ = some (.int .i64 x.table) := kx.cell 1
  have i2 : w1.cell? ⟨w.heap.size + 1, 2, none⟩ = some (.string x.name) := kx.cell 2
  have i3 : w1.cell? ⟨w.heap.size + 1, 3, none⟩ = some (.slice A4 x.cols.length c4) := kx.cell 3
  have i4 : w1.cell? ⟨w.heap.size + 1, 4, none⟩ = some (.bool x.uniq) := kx.cell 4
  have i5 : w1.cell? ⟨w.heap.size + 1, 5, none⟩ = some (.int .i64 x.state) := kx.cell 5
  have i6 : w1.cell? ⟨w.heap.size + 1, 6, none⟩ = some (.bool x.bad) := kx.cell 6
  have p0 : w1.cell? ⟨w.heap.size + 2, 0, none⟩ = some (.slice A1 pk.length c1) := kp.cell 0
  have p1 : w1.cell? ⟨w.heap.size + 2, 1, none⟩ = some (.slice A2 pv.length c2) := kp.cell 1
  have p2 : w1.cell? ⟨w.heap.size + 2, 2, none⟩ = some (.int .i64 n0) := kp.cell 2
  go_wp2_with fail
  refine (parts_any t x _ _ _ _ _ n0 pk pv _ (ht.below hb1) (hx.below hb1) (hk.below hb1) (hy.below hb1) hkl hyl).mono ?_
  unfold PartsPost
  rw [HP.out]
  rintro e w2 ⟨⟨v1, v2, rfl, hv1, hv2⟩, hb2⟩
  obtain ⟨Al, cl, rfl, hcl, _⟩ := hv1.form
  obtain ⟨Ak, ck, rfl, hck, _⟩ := hv2.form
  have hB2 := hb1.trans (hb2.mono hb1.size)
  have kt2 := kt.below hb2 kt.lt
  have kx2 := kx.below hb2 kx.lt
  clear a0 a1 a2 a3 i0 i1 i2 i3 i4 i5 i6 p0 p1 p2 kt kx kp
  have a0 : w2.cell? ⟨w.heap.size, 0, none⟩ = some (.int .i64 t.id) := kt2.cell 0
  have a1 : w2.cell? ⟨w.heap.size, 1, none⟩ = some (.string t.name) := kt2.cell 1
  have a2 : w2.cell? ⟨w.heap.size, 2, none⟩ = some (.slice A t.cols.length c) := kt2.cell 2
  have a3 : w2.cell? ⟨w.heap.size, 3, none⟩ = some (.slice A3 t.key.length c3) := kt2.cell 3
  go_wp2_with fail
  refine (fits_any t _ _ _ K _ (ht.below hB2) hv2).mono ?_
  rw [HF.out]
  rintro e w3 ⟨rfl, hb3⟩
  have hB3 := hB2.trans (hb3.mono hB2.size)
  have kt3 := kt2.below hb3 kt2.lt
  have kx3 := kx2.below hb3 kx2.lt
  have hL3 := hv1.below hb3
  have hK3 := hv2.below hb3
  clear a0 a1 a2 a3 kt2 kx2 hv1 hv2
  have i3 : w3.cell? ⟨w.heap.size + 1, 3, none⟩ = some (.slice A4 x.cols.length c4) := kx3.cell 3
  go_wp2
  go_loopw [33] (fun j wr => ∃ k : Nat, k ≤ x.cols.length ∧ j = .int .i64 (k : Int) ∧ Below w3.heap.size w3 wr ∧ w3.heap.size ≤ wr.heap.size) (fun j _ => x.cols.length - (intOf j).toNat)
  case atStart => exact ⟨0, by omega, rfl, Below.refl _ _, Nat.le_refl _⟩
  case round =>
    obtain ⟨k, hk', rfl, hb, hz⟩ := hrel
    have hBw := hB3.trans (hb.mono hB3.size)
    by_cases hlt : k < x.cols.length
    · obtain ⟨q, hq, hqc, hqL, hM, hJ⟩ := HC.out k hlt
      obtain ⟨b0, off0, c0', cs0, hv0, _, ⟨rfl, _⟩, hcell0⟩ := (hx.cols.below hBw).at_ hlt
      simp only [Value.slice.injEq, true_and] at hv0
      obtain ⟨rfl, rfl⟩ := hv0
      obtain ⟨b1, off1, c1', cs1, hv1, _, ⟨rfl, _⟩, hcell1⟩ := (hL3.below hb).at_ hqL
      simp only [Value.slice.injEq, true_and] at hv1
      obtain ⟨rfl, rfl⟩ := hv1
      obtain ⟨b2, off2, c2', cs2, hv2, _, ⟨rfl, _⟩, hcell2⟩ := (ht.cols.below hBw).at_ hqc
      simp only [Value.slice.injEq, true_and] at hv2
      obtain ⟨rfl, rfl⟩ := hv2
      have r0 := hcell0 0 _ rfl
      have p0 := hcell1 0 _ rfl
      have p1 := hcell1 1 _ rfl
      have p2 := hcell1 2 _ rfl
      have q0 := hcell2 0 _ rfl
      have q1 := hcell2 1 _ rfl
      have q2 := hcell2 2 _ rfl
      simp only [Nat.add_zero, show rVal.sz = 3 from rfl, show rCol.sz = 3 from rfl, show rInt.sz = 1 from rfl, Nat.mul_one] at p0 p1 p2 q0 q1 q2 r0
      rw [hq] at r0
      clear hcell0 hcell1 hcell2 hq
      have ktw := kt3.below hb kt3.lt
      have x2 : wr.cell? ⟨w.heap.size, 2, none⟩ = some (.slice (some ⟨b2, off2, none⟩) t.cols.length c) := ktw.cell 2
      have x3 : wr.cell? ⟨w.heap.size, 3, none⟩ = some (.slice A3 t.key.length c3) := ktw.cell 3
      go_wp2_with fail
      refine (indexInt_any _ t.key q _ (ht.key.below hBw)).mono ?_
      rintro e w4 ⟨rfl, hww⟩
      subst hww
      obtain ⟨cD, hcD⟩ : ∃ c, c = t.cols[q] := ⟨_, rfl⟩
      obtain ⟨xv, hxv⟩ : ∃ z, z = L[k] := ⟨_, rfl⟩
      rw [← hcD, ← hxv] at hM
      rw [← hxv] at hJ p0 p1 p2
      rw [← hcD] at q0 q1 q2
      clear hxv hcD
      have MAY : ∀ w0, Calls Try.prog 120 #[.agg #[.string cD.name, .int .i64 cD.kind, .bool cD.null], .agg #[.int .i64 xv.k, .int .i64 xv.i, .string xv.s]] w0 fun e w' => e = .returned (.bool true) ∧ Below w0.heap.size w0 w' := by
        have := may_any cD xv
        rw [hM] at this
        exact this
      clear hM
      have l0 := Later.cell q0
      have l1 := Later.cell q1
      have l2 := Later.cell q2
      have l3 := Later.cell x2
      have m0 := Later.cell p0
      have m1 := Later.cell p1
      have m2 := Later.cell p2
      have hkL : k < L.length := hqL
      have d0 : decide ((q : Int) < 0) = false := decide_eq_false (by omega)
      have d1 : decide ((t.cols.length : Int) ≤ (q : Int)) = false := decide_eq_false (by omega)
      have d2 : decide (t.cols.length ≤ q) = false := decide_eq_false (by omega)
      rcases hJ with hJ | ⟨j, hJ, hjK, hjv⟩
      · rw [hJ]
        clear hJ
        go_wp2
        refine wp_region_later (by kernel_rfl) (by kernel_rfl) ?_
        repeat (go_big_quiet_step ((go_at_call 120; exact Later.call (MAY _))))
        refine wpQuiet_nil ?_
        intro s1
        have hbs := hb.trans (s1.below.mono hz)
        have hzs : w3.heap.size ≤ s1.val.heap.size := by have := s1.below.size; omega
        go_wp2
        go_roundw
        case rel => exact ⟨k + 1, by omega, by go_num, hbs, hzs⟩
        case measure => simp [intOf]; omega
      · rw [hJ]
        clear hJ
        obtain ⟨b3, off3, c3', cs3, hv3, _, ⟨rfl, _⟩, hcell3⟩ := (hK3.below hb).at_ hjK
        simp only [Value.slice.injEq, true_and] at hv3
        obtain ⟨rfl, rfl⟩ := hv3
        have z0 := hcell3 0 _ rfl
        have z1 := hcell3 1 _ rfl
        have z2 := hcell3 2 _ rfl
        simp only [Nat.add_zero, show rVal.sz = 3 from rfl] at z0 z1 z2
        rw [hjv] at z0 z1 z2
        clear hcell3
        have n0 := Later.cell z0
        have n1 := Later.cell z1
        have n2 := Later.cell z2
        have e0 : decide (0 ≤ (j : Int)) = true := decide_eq_true (by omega)
        go_wp2
        refine wp_region_later (by kernel_rfl) (by kernel_rfl) ?_
        repeat (go_big_quiet_step ((go_at_call 120; exact Later.call (MAY _))))
        refine wpQuiet_nil ?_
        intro s1
        have hbs := hb.trans (s1.below.mono hz)
        have hzs : w3.heap.size ≤ s1.val.heap.size := by have := s1.below.size; omega
        go_wp2
        go_roundw
        case rel => exact ⟨k + 1, by omega, by go_num, hbs, hzs⟩
        case measure => simp [intOf]; omega
    · have ktw := kt3.below hb kt3.lt
      have a0 : wr.cell? ⟨w.heap.size, 0, none⟩ = some (.int .i64 t.id) := ktw.cell 0
      have a1 : wr.cell? ⟨w.heap.size, 1, none⟩ = some (.string t.name) := ktw.cell 1
      have a2 : wr.cell? ⟨w.heap.size, 2, none⟩ = some (.slice A t.cols.length c) := ktw.cell 2
      have a3 : wr.cell? ⟨w.heap.size, 3, none⟩ = some (.slice A3 t.key.length c3) := ktw.cell 3
      have hKw := hK3.below hb
      go_wp2_with fail
      refine (name_any t _ _ _ K _ (ht.below hBw) hKw).mono ?_
      rintro e w5 ⟨⟨v5, rfl, hv5⟩, hb5⟩
      obtain ⟨A6, c6, rfl, _, _⟩ := hv5.form
      go_wp2
      go_ret2
      exact ⟨⟨_, rfl, hv5.mono (by decide) fun b hb _ => Nat.le_trans hBw.size hb⟩, hBw.trans (hb5.mono hBw.size)⟩
end Go.Proofs.Ytikkknaofiafhaa
