/- The walk of the law VaultGrows. -/
import Derived.Test.YtnlhjhpikjmoaaaGreatDoorA12
import Derived.Test.YtnlhjhpikjmoaaaGreatDoorV9
import Derived.Deep.DeepCutAuto
namespace Go.Proofs.YtnlhjhpikjmoaaaGreatDoor
open Go.RowKit
set_option maxRecDepth 100000 in
set_option maxHeartbeats 6400000 in
theorem lawVaultGrows (v0 v1 v2 : Value) (ls : List (List UInt8)) (ss os : List Bool) (w : World) (h0 : RSl rBs (fun b => b < w.heap.size) w v0 ls) (h1 : RSl rBool (fun b => b < w.heap.size) w v1 ss) (h2 : RSl rBool (fun b => b < w.heap.size) w v2 os) :
    Calls Tryz.prog 5 #[v0, v1, v2] w fun e w' => e = .returned (.bool true) ∧ Below w.heap.size w w' := by
  obtain ⟨A0, c0, rfl, hc0, hsl0⟩ := h0.form
  obtain ⟨A1, c1, rfl, hc1, hsl1⟩ := h1.form
  obtain ⟨A2, c2, rfl, hc2, hsl2⟩ := h2.form
  obtain ⟨n0, hn0⟩ : ∃ n, n = ls.length := ⟨_, rfl⟩
  obtain ⟨n1, hn1⟩ : ∃ n, n = ss.length := ⟨_, rfl⟩
  obtain ⟨n2, hn2⟩ : ∃ n, n = os.length := ⟨_, rfl⟩
  rw [show rBs.wt = 24 from rfl, ← hn0] at hsl0
  rw [show rBool.wt = 1 from rfl, ← hn1] at hsl1
  rw [show rBool.wt = 1 from rfl, ← hn2] at hsl2
  rw [← hn0] at hc0
  rw [← hn1] at hc1
  rw [← hn2] at hc2
  rw [← hn0, ← hn1, ← hn2]
  have HN0 := Lib.hid hn0
  have HN1 := Lib.hid hn1
  have HN2 := Lib.hid hn2
  clear hn0 hn1 hn2
  go_enter Tryz.func5, Tryz.ntmps5
  go_wp2_with fail
  refine (dNew_any 3000 (by omega) (by omega) w).mono ?_
  rintro e w1 ⟨⟨gd, rfl, hgd, hD1⟩, hb1⟩
  have HOP := Lib.hid (vopen_new (n := 3000) (f := fun b => w.heap.size ≤ b ∧ b < w1.heap.size) (by omega) (by omega) (hD1.mono fun b hb hlt => ⟨hb, hlt⟩) (fun x hx => hx.2))
  clear hD1
  go_wp2_with fail
  refine HOP.out.mono ?_
  rintro e w2 ⟨⟨gv, rfl, hV2⟩, hK2⟩
  have hz1 := hb1.size
  have hz2 := hK2.size
  have hb2 : Below w.heap.size w w2 := hb1.trans (hK2.below hz1 fun x hx h => by omega)
  have hV2 : VltS (fun x => w.heap.size ≤ x ∧ x < w2.heap.size) w2 gv gd 3000 2 VLog.zero := hV2.wide fun x hx => by rcases hx with h | h <;> omega
  have HV2 := Lib.hid hV2
  clear hK2 HOP hV2
  go_wp2_with fail
  refine (vawake_any w2).mono ?_
  rintro e w3 ⟨rfl, hb3⟩
  have hz3 := hb3.size
  have hB3 := hb2.trans (hb3.mono hb2.size)
  go_upto_region 5 with fail
  refine wp_region_split 3 ?_
  simp only [List.take_succ_cons, List.take_zero, List.drop_succ_cons, List.drop_zero]
  go_wp2
  show wpList _ _ _ _ _ _
  obtain ⟨gL, hgL⟩ : ∃ gL, gL = w3.heap.size := ⟨_, rfl⟩
  rw [← hgL]
  have kZ : Blk (w3.alloc (.cells #[.int .u64 0, .int .i64 0, .int .u64 0, .int .u64 0, .slice none 0 0, .slice none 0 0] 30)) gL 30 #[.int .u64 0, .int .i64 0, .int .u64 0, .int .u64 0, .slice none 0 0, .slice none 0 0] := Blk.new_ hgL
  refine wpList_st rfl rfl (vlCs growL (.slice none 0 0) (.slice none 0 0)) rfl rfl kZ rfl Tryz.infoLog (vl_all _ _ _ _ _ _ _) ?_ rfl
  intro k9
  have hK9 : Below w3.heap.size w3 (World.setCells (w3.alloc (.cells #[.int .u64 0, .int .i64 0, .int .u64 0, .int .u64 0, .slice none 0 0, .slice none 0 0] 30)) gL 0 (vlCs growL (.slice none 0 0) (.slice none 0 0)).toList) := below_setCells (by omega) _ 0 ((Below.refl _ _).alloc (Nat.le_refl _) _)
  generalize hwz : World.setCells (w3.alloc (.cells #[.int .u64 0, .int .i64 0, .int .u64 0, .int .u64 0, .slice none 0 0, .slice none 0 0] 30)) gL 0 (vlCs growL (.slice none 0 0) (.slice none 0 0)).toList = wz at k9 hK9 ⊢
  clear hwz kZ
  have hBz : Below w.heap.size w wz := hB3.trans (hK9.mono hB3.size)
  have hVz := (HV2.out.below hb3).below hK9
  have hzz := hK9.size
  have hgLz := k9.lt
  clear HV2 hK9 hB3 hb3 hb2 hb1
  go_upto_region 7 with fail
  go_loopw [9, 12] (fun vv vi wr => ∃ (i gv : Nat) (l lv : VLog) (vsd ves : Value) (F : Nat → Prop), i ≤ 120 ∧ vi = .int .i64 (i : Int) ∧ vv = .pointer (some ⟨gv, 0, none⟩) ∧ Hid (GrowI i l ∧ l.es.length ≤ 40) ∧ Hid (Blk wr gL 30 (vlCs l vsd ves)) ∧ Hid (VltS F wr gv gd 3000 (2 + 2 * i) lv) ∧ Hid (∀ x, F x → w.heap.size ≤ x ∧ x < wr.heap.size ∧ x ≠ gL ∧ some x ≠ ves.ownBlock) ∧ Hid (RB (fun b => b < w.heap.size) wr vsd l.sd) ∧ Hid (OwnL rEnt (fun b => b < w.heap.size) w.heap.size 50 wr ves l.es) ∧ Hid (ves.ownBlock ≠ some gL) ∧ Below w.heap.size w wr) (fun _ vi _ => 200 - (intOf vi).toNat)
  case atStart => exact ⟨0, gv, growL, VLog.zero, _, _, _, by omega, rfl, rfl, Lib.hid ⟨growL_ok, by decide⟩, Lib.hid k9, Lib.hid hVz, Lib.hid (fun x hx => ⟨hx.1, by omega, by omega, fun h => by cases h⟩), Lib.hid (RSl.nil_ _ _ _), Lib.hid (OwnL.nil_ _ _ _ _ _), Lib.hid (fun h => by cases h), hBz⟩
  have HGL : Hid (w.heap.size ≤ gL) := Lib.hid (by omega)
  clear hVz k9 hBz hzz hgLz hgL
  case round =>
    obtain ⟨i, gv, l, lv, vsd, ves, F, hi, rfl, rfl, HG, HK, HV, HF, HSD, HO, HOG, hB⟩ := hrel
    obtain ⟨go, hgo⟩ : ∃ go : Bool, go = decide (i < n0 ∧ i < 120) := ⟨_, rfl⟩
    have HGO := Lib.hid hgo
    clear hgo
    go_upto_region 7 with fail
    go_cut [45] (fun v wx => v = .bool go ∧ wx = wr)
    case first =>
      by_cases h1 : i < n0
      · have z1 : decide ((i : Int) < (n0 : Int)) = true := decide_eq_true (by omega)
        have z2 : decide (i < n0) = true := decide_eq_true h1
        have hg : go = decide ((i : Int) < 120) := by rw [HGO.out]; exact decide_eq_decide.2 (by omega)
        clear h1
        go_wp2
        go_meet
        exact ⟨by first | (rw [hg]; done) | (rw [hg]; congr 1; exact decide_eq_decide.2 (by omega)), rfl⟩
      · have z1 : decide ((i : Int) < (n0 : Int)) = false := decide_eq_false (by omega)
        have z2 : decide (i < n0) = false := decide_eq_false h1
        have hg : go = false := by rw [HGO.out]; exact decide_eq_false (by omega)
        clear h1
        go_wp2
        go_meet
        exact ⟨by rw [hg], rfl⟩
    obtain ⟨rfl, hwx⟩ := hcut
    rw [hwx]
    clear hwx
    cases go
    case false =>
      go_wp2
      go_ret
      exact ⟨rfl, hB⟩
    have hgo := of_decide_eq_true HGO.out.symm
    have hi1 : i < n0 := hgo.1
    have hi2 : i < 120 := hgo.2
    have hi3 : i < ls.length := by rw [← HN0.out]; exact hi1
    obtain ⟨b5, off5, c5, cs5, hv5, _, ⟨v5, rfl, hr5⟩, hcell5⟩ := (RSl.below h0 hB).at_ hi3
    rw [← HN0.out] at hv5
    simp only [Value.slice.injEq, true_and] at hv5
    obtain ⟨rfl, rfl⟩ := hv5
    obtain ⟨A5, d5, rfl, hd5, hw5⟩ := hr5.form
    obtain ⟨x, hx⟩ : ∃ x, x = ls[i] := ⟨_, rfl⟩
    rw [← hx] at hcell5 hd5 hw5 hr5
    obtain ⟨m, hm⟩ : ∃ m, m = x.length := ⟨_, rfl⟩
    rw [show rU8.wt = 1 from rfl] at hw5
    rw [← hm] at hcell5 hd5 hw5
    have q5 : wr.cell? ⟨b5, off5 + i * 1, none⟩ = some (.slice A5 m d5) := hcell5 0 _ rfl
    have q6 : wr.cell? ⟨b5, off5 + i, none⟩ = some (.slice A5 m d5) := by simpa using q5
    have HM := Lib.hid hm
    have hr6 : RB (fun b => b < w.heap.size) wr (.slice A5 (min 100 m) d5) (x.take 100) := by
      have hr5' : RB (fun b => b < w.heap.size) wr (.slice A5 m d5) x := by rw [hm]; exact hr5
      have := hr5'.take (k := min 100 m) (Nat.min_le_right _ _)
      rwa [show x.take (min 100 m) = x.take 100 by rw [hm, ← List.take_take, List.take_length]] at this
    obtain ⟨m', hm'⟩ : ∃ m', m' = min 100 m := ⟨_, rfl⟩
    rw [← hm'] at hr6
    have HM' := Lib.hid hm'
    have HR6 := Lib.hid hr6
    clear hx hm hm' hr5 hr6 hcell5
    go_upto_region 10 with fail
    clear q5 q6
    go_upto_if 54 with fail
    go_cut [13] (fun v wx => v = .slice A5 m' d5 ∧ wx = wr)
    case first =>
      by_cases hgt : 100 < m
      · have z1 : decide ((m : Int) > 100) = true := decide_eq_true (by omega)
        have z2 : decide (100 < m) = true := decide_eq_true hgt
        go_wp2
        go_meet
        exact ⟨by rw [HM'.out, Nat.min_eq_left (by omega)], rfl⟩
      · have z1 : decide ((m : Int) > 100) = false := decide_eq_false (by omega)
        have z2 : decide (100 < m) = false := decide_eq_false hgt
        go_wp2
        go_meet
        exact ⟨by rw [HM'.out, Nat.min_eq_right (by omega)], rfl⟩
    obtain ⟨rfl, hwx⟩ := hcut
    rw [hwx]
    clear hwx
    obtain ⟨b, hb⟩ : ∃ b, b = x.take 100 := ⟨_, rfl⟩
    have hbl : b.length = m' := by rw [hb, List.length_take, ← HM.out, HM'.out]
    have hb3 : b.length ≤ 100 := by rw [hbl, HM'.out]; exact Nat.min_le_left _ _
    have hrb := HR6.out
    rw [← hb] at hrb
    have HB3 := Lib.hid hb3
    have HBL := Lib.hid hbl
    have HRB := Lib.hid hrb
    clear hb hbl hb3 hrb HR6 HM HM'
    obtain ⟨As, cs, rfl, hcs, hws⟩ := HSD.out.form
    have hO := HO.out
    obtain ⟨Ae, ce, rfl, hce⟩ := hO.form
    obtain ⟨nl, hnl⟩ : ∃ nl, nl = l.es.length := ⟨_, rfl⟩
    obtain ⟨si, hsi⟩ : ∃ si, si = l.si := ⟨_, rfl⟩
    have hidx : si + nl ≤ i := by rw [hnl, hsi]; exact HG.out.1.idx
    have hnl40 : nl ≤ 40 := by rw [hnl]; exact HG.out.2
    have hkb : Blk wr gL 30 #[.int .u64 (l.term : Int), .int .i64 l.vote, .int .u64 (si : Int), .int .u64 (l.st : Int), .slice As l.sd.length cs, .slice Ae nl ce] := by rw [hsi, hnl]; exact HK.out
    have c2 : wr.cell? ⟨gL, 2, none⟩ = some (.int .u64 (si : Int)) := hkb.cell 2
    have c5 : wr.cell? ⟨gL, 5, none⟩ = some (.slice Ae nl ce) := hkb.cell 5
    rw [← hnl] at hO hce
    have HOG' := HOG.out
    rw [← hnl] at HOG' HF
    have hlt0 := hO.lt
    have HLT := Lib.hid hlt0
    have HKB := Lib.hid hkb
    have HNL := Lib.hid hnl
    have HSI := Lib.hid hsi
    have hbs := hB.size
    have hok : rEnt.rel (fun y => y < w.heap.size ∧ some y ≠ (Value.slice Ae nl ce).ownBlock) wr [.int .u64 1, .int .u64 ((si : Int) + (nl : Int) + 1), .slice A5 m' d5] ⟨1, si + nl + 1, b⟩ := ⟨_, by simp, HRB.out.mono (by decide) fun y hy _ => ⟨hy, fun e => by have := (HLT.out y e.symm).1; omega⟩, by show (1 : Nat) < _; omega, by show si + nl + 1 < _; omega⟩
    have hgne : some gL ≠ (Value.slice Ae nl ce).ownBlock := fun e => HOG' e.symm
    have hlen : (l.es.length + 1) * 40 ≤ 140737488355328 := by rw [← HNL.out]; omega
    have hlen2 : l.es.length + 1 ≤ 140737488355328 := by rw [← HNL.out]; omega
    clear hnl hsi hkb HK HO hlt0 hcs hws
    go_upto_region 12 with fail
    go_upto_region 13 with (at_builtin; go_loud (refine wp_app1 (E := rEnt) (okd := fun y => y < w.heap.size) Tryz.rowEnt (by decide) rfl _ _ rfl (.slice Ae nl ce) l.es wr #[.int .u64 1, .int .u64 ((si : Int) + (nl : Int) + 1), .slice A5 m' d5] ⟨1, si + nl + 1, b⟩ rfl hO rfl hok hlen hlen2 hbs ?_); intro v' w7 hown7 hk7 hv7; obtain ⟨A7, d7, rfl, hd7⟩ := hown7.form; have k7 := HKB.out.kp hk7 hgne; have c7 : w7.cell? ⟨gL, 5, none⟩ = some (.slice Ae nl ce) := k7.cell 5; have f7 : w7.frozen? ⟨gL, 5, none⟩ = false := k7.frozen 5)
    have hle : (l.es ++ [(⟨1, si + nl + 1, b⟩ : VEnt)]).length = nl + 1 := by rw [List.length_append, ← HNL.out]; rfl
    rw [hle] at hown7 hv7 hd7
    rw [show l.es.length + 1 = nl + 1 by rw [HNL.out]]
    refine name_world (fun w8 => Blk w8 gL 30 #[.int .u64 (l.term : Int), .int .i64 l.vote, .int .u64 (si : Int), .int .u64 (l.st : Int), .slice As l.sd.length cs, .slice A7 (nl + 1) d7] ∧ Kp (fun y => y ≠ gL) w7 w8) ⟨k7.set_ 5 _, (Kp.refl _ _).setCell (fun _ h => h rfl) _⟩ ?_
    rintro w8 ⟨k8, hk8⟩
    have hz7 := hk7.size
    have hz8 := hk8.size
    have hg7 : ∀ y, (Value.slice A7 (nl + 1) d7).ownBlock = some y → y ≠ gL ∧ ¬ F y ∧ w.heap.size ≤ y := fun y hy => by
      rcases hv7 with e | e
      · rw [e] at hy
        exact ⟨fun e => HOG' (e ▸ hy), fun h => (HF.out y h).2.2.2 hy.symm, (HLT.out y hy).1⟩
      · rw [e] at hy
        have := Option.some.inj hy
        have h1 := HKB.out.lt
        exact ⟨by omega, fun h => by have := (HF.out y h).2.1; omega, by omega⟩
    have hK78 : Kp (fun y => y ≠ gL ∧ some y ≠ (Value.slice Ae nl ce).ownBlock) wr w8 := (hk7.mono fun y h => h.2).trans (hk8.mono fun y h => h.1)
    have hB8 : Below w.heap.size w w8 := hB.trans (hK78.below hbs fun y hy => ⟨by have := HGL.out; omega, fun e => by have := (HLT.out y e.symm).1; omega⟩)
    have hO8 := hown7.kp hk8 (fun y hy => by have := HGL.out; omega) (fun y hy => (hg7 y hy).1)
    have hV8 := HV.out.kp hK78 (fun y hy => ⟨(HF.out y hy).2.2.1, (HF.out y hy).2.2.2⟩)
    have hS8 := HSD.out.kp (hK78.mono fun y hy => ⟨by have := HGL.out; omega, fun e => by have := (HLT.out y e.symm).1; omega⟩)
    have hR8 := HRB.out.kp (hK78.mono fun y hy => ⟨by have := HGL.out; omega, fun e => by have := (HLT.out y e.symm).1; omega⟩)
    have hG8 := HG.out.1.push HB3.out
    rw [← HSI.out, ← HNL.out] at hG8
    have HG7 := Lib.hid hg7
    have HO8 := Lib.hid hO8
    have HV8 := Lib.hid hV8
    have HS8 := Lib.hid hS8
    have HR8 := Lib.hid hR8
    have HG8 := Lib.hid hG8
    have HF8 : Hid (∀ x, F x → w.heap.size ≤ x ∧ x < w8.heap.size ∧ x ≠ gL) := Lib.hid fun x hx => ⟨(HF.out x hx).1, by have := (HF.out x hx).2.1; omega, (HF.out x hx).2.2.1⟩
    have HK8 := Lib.hid k8
    have c58 : w8.cell? ⟨gL, 5, none⟩ = some (.slice A7 (nl + 1) d7) := k8.cell 5
    clear hle hown7 hv7 k7 c7 f7 hk7 hk8 hg7 hK78 hO8 hV8 hS8 hR8 hG8 c2 c5 hok HKB HV HSD HRB HG HF HOG HOG' hO hgne hlen hlen2 hB HLT hce hz7 hz8 k8
    go_cut [88] (fun v wx => ∃ sn : Bool, v = .bool sn ∧ wx = w8 ∧ Hid (sn = false → nl + 1 ≤ 40))
    case first =>
      obtain ⟨q, hq⟩ : ∃ q : Bool, q = decide (40 < nl + 1) := ⟨_, rfl⟩
      have y1 : decide (((nl + 1 : Nat) : Int) > 40) = q := by rw [hq]; exact decide_eq_decide.2 (by omega)
      have y2 : decide (((nl : Int) + 1) > 40) = q := by rw [hq]; exact decide_eq_decide.2 (by omega)
      have y3 : decide (40 < nl + 1) = q := hq.symm
      have y4 : decide (40 < (nl : Int) + 1) = q := y2
      have HQ : Hid (q = false → nl + 1 ≤ 40) := Lib.hid fun h => by rw [hq, decide_eq_false_iff_not] at h; omega
      clear hq
      by_cases hs1 : i < n1
      · have z1 : decide ((i : Int) < (n1 : Int)) = true := decide_eq_true (by omega)
        have z2 : decide (i < n1) = true := decide_eq_true hs1
        have hs3 : i < ss.length := by rw [← HN1.out]; exact hs1
        obtain ⟨b6, off6, c6, cs6, hv6, _, hr6, hcell6⟩ := (RSl.below h1 hB8).at_ hs3
        rw [← HN1.out] at hv6
        simp only [Value.slice.injEq, true_and] at hv6
        obtain ⟨rfl, rfl⟩ := hv6
        have hr6 : cs6 = [.bool ss[i]] := hr6
        subst hr6
        obtain ⟨x, hx⟩ : ∃ x, x = ss[i] := ⟨_, rfl⟩
        rw [← hx] at hcell6
        have q5 : w8.cell? ⟨b6, off6 + i * 1, none⟩ = some (.bool x) := hcell6 0 _ rfl
        have q6 : w8.cell? ⟨b6, off6 + i, none⟩ = some (.bool x) := by simpa using q5
        clear hx hcell6
        cases x
        · go_wp2
          go_meet
          exact ⟨q, by first | rfl | (rw [y1]) | (rw [y2]), rfl, HQ⟩
        · go_wp2
          go_meet
          exact ⟨true, rfl, rfl, Lib.hid fun h => by cases h⟩
      · have z1 : decide ((i : Int) < (n1 : Int)) = false := decide_eq_false (by omega)
        have z2 : decide (i < n1) = false := decide_eq_false hs1
        go_wp2
        go_meet
        exact ⟨q, by first | rfl | (rw [y1]) | (rw [y2]), rfl, HQ⟩
    obtain ⟨sn, rfl, hwx, HSN⟩ := hcut
    rw [hwx]
    clear hwx
    go_upto_if 88 with fail
    go_cut [13] (fun v wx => v = .slice A5 m' d5 ∧ ∃ (l' : VLog) (vsd ves : Value), Hid (GrowI (i + 1) l' ∧ l'.es.length ≤ 40) ∧ Hid (Blk wx gL 30 (vlCs l' vsd ves)) ∧ Hid (VltS F wx gv gd 3000 (2 + 2 * i) lv) ∧ Hid (∀ x, F x → w.heap.size ≤ x ∧ x < wx.heap.size ∧ x ≠ gL ∧ some x ≠ ves.ownBlock) ∧ Hid (RB (fun b => b < w.heap.size) wx vsd l'.sd) ∧ Hid (OwnL rEnt (fun b => b < w.heap.size) w.heap.size 50 wx ves l'.es) ∧ Hid (ves.ownBlock ≠ some gL) ∧ Below w.heap.size w wx)
    case first =>
      cases sn
      · go_wp2
        go_meet
        refine ⟨rfl, ⟨l.term, l.vote, si, l.st, l.sd, l.es ++ [⟨1, si + nl + 1, b⟩]⟩, .slice As l.sd.length cs, .slice A7 (nl + 1) d7, Lib.hid ⟨HG8.out, by have := HSN.out (by first | trivial | rfl); show (l.es ++ [_]).length ≤ 40; rw [List.length_append, ← HNL.out]; exact this⟩, Lib.hid HK8.out, HV8, Lib.hid fun x hx => ⟨(HF8.out x hx).1, (HF8.out x hx).2.1, (HF8.out x hx).2.2, fun e => (HG7.out x e.symm).2.1 hx⟩, HS8, HO8, Lib.hid fun e => (HG7.out gL e).1 rfl, hB8⟩
      · have hrs : RSl rEnt (fun _ => True) w8 (.slice A7 (nl + 1) d7) (l.es ++ [⟨1, si + nl + 1, b⟩]) := HO8.out.rsl (by decide) (by rw [List.length_append, ← HNL.out]; show (nl + 1) * 40 ≤ _; omega) (fun _ _ => trivial) (fun _ _ => trivial)
        have hle : (l.es ++ [(⟨1, si + nl + 1, b⟩ : VEnt)]).length = nl + 1 := by rw [List.length_append, ← HNL.out]; rfl
        obtain ⟨b6, off6, c6, cs6, hv6, _, hr6, hcell6⟩ := hrs.at_ (i := nl) (by rw [hle]; omega)
        rw [hle] at hv6
        simp only [Value.slice.injEq, true_and] at hv6
        obtain ⟨rfl, rfl⟩ := hv6
        have hel : (l.es ++ [(⟨1, si + nl + 1, b⟩ : VEnt)])[nl]'(by rw [hle]; omega) = ⟨1, si + nl + 1, b⟩ := by
          have := HNL.out
          subst this
          simp
        rw [hel] at hr6
        obtain ⟨ve, rfl, hve, _, _⟩ := hr6
        obtain ⟨ix, hix⟩ : ∃ ix, ix = si + nl + 1 := ⟨_, rfl⟩
        rw [← hix] at hcell6
        have q5 : w8.cell? ⟨b6, off6 + nl * 3 + 1, none⟩ = some (.int .u64 (ix : Int)) := hcell6 1 _ rfl
        have q6 : w8.cell? ⟨b6, off6 + (nl * 3 + 1), none⟩ = some (.int .u64 (ix : Int)) := by rw [← Nat.add_assoc]; exact q5
        have HIX := Lib.hid hix
        clear hrs hle hel hve hcell6 hix
        go_upto_region 14 with fail
        refine wp_region_split 12 ?_
        simp only [List.take_succ_cons, List.take_zero, List.drop_succ_cons, List.drop_zero]
        go_wp2
        show wpList _ _ _ _ _ _
        clear q5 q6 c58
        have hkM : Blk w8 gL 30 (#[.int .u64 (l.term : Int), .int .i64 l.vote] ++ #[.int .u64 (si : Int), .int .u64 (l.st : Int), .slice As l.sd.length cs] ++ #[.slice (some ⟨b6, off6, none⟩) (nl + 1) d7]) := HK8.out
        refine wpList_stMid (C := #[.int .u64 (si : Int), .int .u64 (l.st : Int), .slice As l.sd.length cs]) rfl rfl #[.int .u64 (ix : Int), .int .u64 1, .slice A5 m' d5] rfl rfl hkM rfl rfl Tryz.infoSnap (snap_all ix 1 _ _ _) ?_ rfl
        intro k9
        have hK9 : Kp (fun b => ¬ b = gL) w8 (World.setCells w8 gL 2 (#[Value.int .u64 (ix : Int), .int .u64 1, .slice A5 m' d5] : Array Value).toList) := Kp.setCells (b := gL) (fun _ h => h rfl) _ 2 (Kp.refl _ _)
        generalize hwz : World.setCells w8 gL 2 (#[Value.int .u64 (ix : Int), .int .u64 1, .slice A5 m' d5] : Array Value).toList = wz at k9 hK9 ⊢
        clear hwz hkM
        have k9 : Blk wz gL 30 #[.int .u64 (l.term : Int), .int .i64 l.vote, .int .u64 (ix : Int), .int .u64 1, .slice A5 m' d5, .slice (some ⟨b6, off6, none⟩) (nl + 1) d7] := k9
        have c59 : wz.cell? ⟨gL, 5, none⟩ = some (.slice (some ⟨b6, off6, none⟩) (nl + 1) d7) := k9.cell 5
        have f59 : wz.frozen? ⟨gL, 5, none⟩ = false := k9.frozen 5
        have HK9 := Lib.hid k9
        have HKK := Lib.hid hK9
        clear k9 hK9
        go_wp2
        go_meet
        have k10 : Blk (wz.setCell ⟨gL, 5, none⟩ (.slice none 0 0)) gL 30 #[.int .u64 (l.term : Int), .int .i64 l.vote, .int .u64 (ix : Int), .int .u64 1, .slice A5 m' d5, .slice none 0 0] := HK9.out.set_ 5 _
        have hK10 : Kp (fun b => ¬ b = gL) w8 (wz.setCell ⟨gL, 5, none⟩ (.slice none 0 0)) := HKK.out.trans ((Kp.refl _ _).setCell (fun _ h => h rfl) _)
        have hgw := HGL.out
        have hix := HIX.out
        have hcut := HG8.out.cut (show 0 < (l.es ++ [(⟨1, si + nl + 1, b⟩ : VEnt)]).length by rw [List.length_append]; simp) HB3.out
        rw [show si + (l.es ++ [(⟨1, si + nl + 1, b⟩ : VEnt)]).length = ix by rw [List.length_append, ← HNL.out, hix]; simp; omega] at hcut
        refine ⟨rfl, ⟨l.term, l.vote, ix, 1, b, []⟩, .slice A5 m' d5, .slice none 0 0, Lib.hid ⟨hcut, by simp⟩, Lib.hid k10, Lib.hid (HV8.out.kp hK10 fun x hx e => (HF8.out x hx).2.2 e), Lib.hid fun x hx => ⟨(HF8.out x hx).1, Nat.lt_of_lt_of_le (HF8.out x hx).2.1 hK10.size, (HF8.out x hx).2.2, fun e => by cases e⟩, Lib.hid (HR8.out.kp (hK10.mono fun y hy => by omega)), Lib.hid (OwnL.nil_ _ _ _ _ _), Lib.hid fun e => (by cases e), hB8.trans (hK10.below hB8.size fun y hy => by omega)⟩
    obtain ⟨rfl, l', vsd', ves', HG9, HK9, HV9, HF9, HS9, HO9, HOG9, hB9⟩ := hcut
    obtain ⟨w9, rfl⟩ : ∃ w9, w9 = wc := ⟨_, rfl⟩
    clear HK8 HSN HG7 HO8 HV8 HS8 HR8 HG8 HF8 hB8 HSI HNL HBL HB3
    obtain ⟨A1', c1', rfl, _, _⟩ := HS9.out.form
    obtain ⟨A2', c2', rfl, _⟩ := HO9.out.form
    have HLT9 := Lib.hid HO9.out.lt
    have HVM : Hid (∀ (ok : Nat → Prop) (w' : World), (∀ x, x < w.heap.size → ok x) → (∀ x, (Value.slice A2' l'.es.length c2').ownBlock = some x → ok x) → Kp (fun x => ¬ F x) w9 w' → VLm ok w' (.slice A1' l'.sd.length c1') (.slice A2' l'.es.length c2') l') := Lib.hid fun ok w' h1 h2 hk => ⟨(HS9.out.kp (hk.mono fun y hy h => by have := (HF9.out y h).1; omega)).mono (by decide) fun b hb _ => h1 b hb, (HO9.out.kp hk (fun y hy h => by have := (HF9.out y h).1; omega) fun y hy h => (HF9.out y h).2.2.2 hy.symm).rslO (by have := HG9.out.2; show l'.es.length * 40 ≤ _; omega) h2 h1, by have := HG9.out.1.term; omega, by have := HG9.out.1.vote; rw [this]; exact ⟨by decide, by decide⟩, by have := HG9.out.1.idx; omega, by have := HG9.out.1.st; omega⟩
    obtain ⟨T1, hT1⟩ : ∃ T1 : Array Value, T1 = vlCs l' (.slice A1' l'.sd.length c1') (.slice A2' l'.es.length c2') := ⟨_, rfl⟩
    have hinf : (Tryz.prog.info? 30).map (·.size) = some T1.size := by rw [hT1]; exact Tryz.infoLog
    have HPUT := Lib.hid (vput_any HV9.out (fun x hx => (HF9.out x hx).2.1) (HVM.out (fun x => ¬ F x) w9 (fun x hx h => by have := (HF9.out x h).1; omega) (fun x hx h => (HF9.out x h).2.2.2 hx.symm) (Kp.refl _ _)) (fun b hb => hb) (by omega) (by omega) (by omega) (by have := HG9.out.2; omega))
    rw [← hT1] at HPUT
    have k9 := HK9.out
    rw [← hT1] at k9
    have HT1 := Lib.hid hT1
    clear hT1
    go_upto_region 16 with fail
    refine wp_region_split 1 ?_
    simp only [List.take_succ_cons, List.take_zero, List.drop_succ_cons, List.drop_zero]
    go_wp2
    show wpList _ _ _ _ _ _
    refine wpList_ld (g := gL) (k := 0) (cs := T1) rfl rfl rfl k9.range Tryz.underlying30 rfl hinf ?_
    go_wp2_with fail
    refine HPUT.out.mono ?_
    rintro e wB ⟨v, rfl, hKB, l2, hVB, hcase⟩
    obtain ⟨rfl, rfl⟩ : l2 = l' ∧ v = .nilIface := by
      rcases hcase with h | h | h
      · have := HG9.out.1.right (by omega); rw [h.1] at this; cases this
      · exact h.2
      · exact absurd h.2.2.2 (HG9.out.1.room (by have := HG9.out.2; omega))
    clear hcase HPUT
    have hzB := hKB.size
    have hb9 := hB9.size
    have hBB : Below w.heap.size w wB := hB9.trans (hKB.below hb9 fun x hx h => by have := (HF9.out x h).1; omega)
    have kB := k9.kp hKB fun h => (HF9.out gL h).2.2.1 rfl
    have hgl9 := k9.lt
    have hvB := HVM.out (fun _ => True) wB (fun _ _ => trivial) (fun _ _ => trivial) hKB
    obtain ⟨sz, hsz⟩ : ∃ sz, sz = sizeV l2 := ⟨_, rfl⟩
    have hszb : sz ≤ 8700 := by rw [hsz]; have := HG9.out.1.size; have := HG9.out.2; omega
    have HSZ := Lib.hid (size_any hvB (by have := HG9.out.1.dat; have := HG9.out.2; omega))
    rw [← HT1.out, ← hsz] at HSZ
    have hSB := HS9.out.kp (hKB.mono fun y hy h => by have := (HF9.out y h).1; omega)
    have hOB := HO9.out.kp hKB (fun y hy h => by have := (HF9.out y h).1; omega) (fun y hy h => (HF9.out y h).2.2.2 hy.symm)
    have HFB : Hid (∀ x, (F x ∨ (w9.heap.size ≤ x ∧ x < wB.heap.size)) → w.heap.size ≤ x ∧ x < wB.heap.size ∧ x ≠ gL ∧ some x ≠ (Value.slice A2' l2.es.length c2').ownBlock) := Lib.hid fun x hx => by
      rcases hx with hx | hx
      · have := HF9.out x hx
        exact ⟨this.1, by omega, this.2.2⟩
      · exact ⟨by omega, hx.2, by omega, fun e => by have := (HLT9.out x e.symm).2; omega⟩
    have HSB := Lib.hid hSB
    have HOB := Lib.hid hOB
    have HVB := Lib.hid hVB
    have HBB := Lib.hid hBB
    have HWB := Lib.hid hvB
    clear hsz hSB hOB hVB HK9 HV9 HF9 HS9 HO9 HVM HLT9 hKB k9 hvB hBB hB9 hgl9
    go_upto_region 17 with fail
    refine wp_region_lit ?_
    refine wpList_ld (g := gL) (k := 0) (cs := T1) rfl rfl rfl kB.range Tryz.underlying30 rfl hinf ?_
    go_wp2_with fail
    refine HSZ.out.mono ?_
    rintro e wC ⟨rfl, hbC⟩
    have z1 : decide (12 * (sz : Int) > 192000) = false := decide_eq_false (by omega)
    have z2 : decide (192000 < 12 * sz) = false := decide_eq_false (by omega)
    have z3 : decide ((192000 : Int) < 12 * (sz : Int)) = false := decide_eq_false (by omega)
    clear HSZ
    have kC := kB.below hbC kB.lt
    obtain ⟨F2, hF2⟩ : ∃ F2 : Nat → Prop, F2 = fun x => F x ∨ (w9.heap.size ≤ x ∧ x < wB.heap.size) := ⟨_, rfl⟩
    have HFC : Hid (∀ x, F2 x → w.heap.size ≤ x ∧ x < wC.heap.size ∧ x ≠ gL ∧ some x ≠ (Value.slice A2' l2.es.length c2').ownBlock) := Lib.hid fun x hx => by
      rw [hF2] at hx
      have := HFB.out x hx
      have := hbC.size
      exact ⟨by omega, by omega, (HFB.out x hx).2.2⟩
    rw [← hF2] at HVB
    have HVC := Lib.hid (HVB.out.below hbC)
    have HSC := Lib.hid (RSl.below HSB.out hbC)
    have HOC := Lib.hid (HOB.out.below hbC)
    have HWC := Lib.hid (HWB.out.below hbC)
    have HBC := Lib.hid (HBB.out.trans (hbC.mono HBB.out.size))
    clear hF2 HFB HVB HSB HOB HWB HBB hbC kB hzB hb9
    go_upto_region 21 with fail
    refine wp_seqL [4, 6] (by as_aux_lemma => kernel_rfl) (by as_aux_lemma => kernel_rfl) fun wD hbD => ?_
    refine seqL_pre 4 (by kernel_rfl) ?_
    simp only [List.take_succ_cons, List.take_zero, List.drop_succ_cons, List.drop_zero]
    repeat (go_big_quiet_step (fail))
    refine wpQuiet_nil ?_
    have HVL : Hid (Calls Tryz.prog 17 #[.pointer (some ⟨gv, 0, none⟩)] wD fun e w' => (∃ vsd' ves', e = .returned (.agg (vlCs l2 vsd' ves')) ∧ VLm (fun b => wD.heap.size ≤ b) w' vsd' ves' l2) ∧ Below wD.heap.size wD w') := by
      obtain ⟨f', gl', T', first', recs', vsd', ves', _, _, _, _, _, hbB, _, hmB, _, _, hleB⟩ := HVC.out.below hbD
      exact Lib.hid (vlog_any hbB hmB (by omega))
    refine seqL_wild hbD rfl rfl fun K hK => ?_
    unfold Gives
    go_simp
    refine HVL.out.mono ?_
    rintro e wE ⟨⟨v3, e3, rfl, hm3⟩, hbE⟩
    obtain ⟨A3, c3, rfl, _⟩ := hm3.sd.form
    obtain ⟨A4, c4, rfl, _⟩ := hm3.es.form
    obtain ⟨U, hU⟩ : ∃ U : Array Value, U = vlCs l2 (.slice A3 l2.sd.length c3) (.slice A4 l2.es.length c4) := ⟨_, rfl⟩
    rw [← hU]
    have HU := Lib.hid hU
    have HM3 := Lib.hid hm3
    clear hU hm3 HVL
    refine ⟨_, rfl, hK _ _ (hbE) fun hbE' => ?_⟩
    clear hK
    clear K
    simp only [Act.put, List.setIfInBounds_toArray, List.set_cons_succ, List.set_cons_zero]
    refine seqL_still (.agg T1) rfl rfl (fun s => still_ld (g := gL) (k := 0) rfl rfl (kC.below s.below kC.lt).range Tryz.underlying30 rfl hinf) ?_
    have HLG := Lib.hid (log_any HM3.out (HWC.out.below hbE'))
    rw [← HT1.out, ← HU.out, sameV_refl] at HLG
    refine seqL_wild hbE' rfl rfl fun K hK => ?_
    unfold Gives
    go_simp
    refine HLG.out.mono ?_
    rintro e wG ⟨rfl, hbG⟩
    refine ⟨_, rfl, hK _ _ (hbG) fun hbG' => ?_⟩
    clear hK
    clear K
    simp only [Act.put, List.setIfInBounds_toArray, List.set_cons_succ, List.set_cons_zero]
    refine seqL_pre 2 (by kernel_rfl) ?_
    simp only [List.take_succ_cons, List.take_zero, List.drop_succ_cons, List.drop_zero]
    repeat (go_big_quiet_step (fail))
    refine wpQuiet_nil ?_
    refine seqL_nil ?_
    have hzG := hbG'.size
    have kG := kC.below hbG' kC.lt
    have HFG : Hid (∀ x, F2 x → w.heap.size ≤ x ∧ x < wG.heap.size ∧ x ≠ gL ∧ some x ≠ (Value.slice A2' l2.es.length c2').ownBlock) := Lib.hid fun x hx => ⟨(HFC.out x hx).1, by have := (HFC.out x hx).2.1; omega, (HFC.out x hx).2.2⟩
    have HVG := Lib.hid (HVC.out.below hbG')
    have HSG := Lib.hid (RSl.below HSC.out hbG')
    have HOG := Lib.hid (HOC.out.below hbG')
    have HWG := Lib.hid (HWC.out.below hbG')
    have HBG := Lib.hid (HBC.out.trans (hbG'.mono HBC.out.size))
    have hBG := HBG.out
    clear HFC HVC HSC HOC HWC HBC hbG' hbG hbE hbE' hbD HM3 HU HLG kC hzG
    go_upto_region 23 with fail
    go_cut [134] (fun v wx => ∃ op : Bool, v = .bool op ∧ wx = wG)
    case first =>
      by_cases hs1 : i < n2
      · have z1 : decide ((i : Int) < (n2 : Int)) = true := decide_eq_true (by omega)
        have z2 : decide (i < n2) = true := decide_eq_true hs1
        have hs3 : i < os.length := by rw [← HN2.out]; exact hs1
        obtain ⟨b6, off6, c6, cs6, hv6, _, hr6, hcell6⟩ := (RSl.below h2 hBG).at_ hs3
        rw [← HN2.out] at hv6
        simp only [Value.slice.injEq, true_and] at hv6
        obtain ⟨rfl, rfl⟩ := hv6
        have hr6 : cs6 = [.bool os[i]] := hr6
        subst hr6
        obtain ⟨x, hx⟩ : ∃ x, x = os[i] := ⟨_, rfl⟩
        rw [← hx] at hcell6
        have q5 : wG.cell? ⟨b6, off6 + i * 1, none⟩ = some (.bool x) := hcell6 0 _ rfl
        have q6 : wG.cell? ⟨b6, off6 + i, none⟩ = some (.bool x) := by simpa using q5
        clear hx hcell6
        go_wp2
        go_meet
        exact ⟨x, rfl, rfl⟩
      · have z1 : decide ((i : Int) < (n2 : Int)) = false := decide_eq_false (by omega)
        have z2 : decide (i < n2) = false := decide_eq_false hs1
        go_wp2
        go_meet
        exact ⟨false, rfl, rfl⟩
    obtain ⟨op, rfl, hwx⟩ := hcut
    rw [hwx]
    clear hwx
    cases op
    · have HRG := Lib.hid (HG9.out)
      go_wp2
      go_roundw
      case rel => exact ⟨i + 1, gv, l2, l2, _, _, F2, by omega, by go_num, rfl, HG9, Lib.hid (by rw [← HT1.out]; exact kG), Lib.hid (HVG.out.later (by omega)), HFG, HSG, HOG, HOG9, hBG⟩
      case measure => simp [intOf]; omega
    obtain ⟨f', gl', T', first', recs', vsd', ves', hf1, hf2, hf3, hf4, hf5, hf6, hf7, hf8, hf9, hf10, hf11⟩ := HVG.out
    have HOP := Lib.hid (vopen_any (c := 2 + 2 * i + 2) (open_opS hf7 (by omega) (fun x hx => (HFG.out x (hf1 x hx)).2.1)) hf9 hf10 (by omega) (fun x hx => (HFG.out x (hf1 x hx)).2.1) (by omega) (by omega) (by omega))
    have HF1 := Lib.hid hf1
    clear hf1 hf2 hf3 hf4 hf5 hf6 hf7 hf8 hf9 hf10 hf11 HVG
    go_wp2_with fail
    refine HOP.out.mono ?_
    rintro e wH ⟨⟨gw, rfl, hVH⟩, hKH⟩
    have hKH : Kp (fun x => ¬ F2 x) wG wH := hKH.mono fun x hx h => hx (HF1.out x h)
    have hzG := hBG.size
    have hzH := hKH.size
    have hglG := kG.lt
    have hBH : Below w.heap.size w wH := hBG.trans (hKH.below hzG fun x hx h => by have := (HFG.out x h).1; omega)
    have kH := kG.kp hKH fun h => (HFG.out gL h).2.2.1 rfl
    have HLT := Lib.hid HOG.out.lt
    have HFH : Hid (∀ x, (f' x ∨ (wG.heap.size ≤ x ∧ x < wH.heap.size)) → w.heap.size ≤ x ∧ x < wH.heap.size ∧ x ≠ gL ∧ some x ≠ (Value.slice A2' l2.es.length c2').ownBlock) := Lib.hid fun x hx => by
      rcases hx with hx | hx
      · have := HFG.out x (HF1.out x hx)
        exact ⟨this.1, by omega, this.2.2⟩
      · exact ⟨by omega, hx.2, by omega, fun e => by have := (HLT.out x e.symm).2; omega⟩
    have HVH := Lib.hid hVH
    have HSH := Lib.hid (HSG.out.kp (hKH.mono fun y hy h => by have := (HFG.out y h).1; omega))
    have HOH := Lib.hid (HOG.out.kp hKH (fun y hy h => by have := (HFG.out y h).1; omega) (fun y hy h => (HFG.out y h).2.2.2 hy.symm))
    have HWH : Hid (VLm (fun _ => True) wH (.slice A1' l2.sd.length c1') (.slice A2' l2.es.length c2') l2) := Lib.hid ⟨HSH.out.mono (by decide) fun _ _ _ => trivial, HOH.out.rslO (by have := HG9.out.2; show l2.es.length * 40 ≤ _; omega) (fun _ _ => trivial) (fun _ _ => trivial), HWG.out.term, HWG.out.vote, HWG.out.si, HWG.out.st⟩
    have HBH := Lib.hid hBH
    clear HOP HF1 HFG HSG HOG HWG HBG hBG hzG hzH hglG hBH kG HLT hKH hVH
    go_upto_region 25 with fail
    refine wp_seqL [8, 10] (by as_aux_lemma => kernel_rfl) (by as_aux_lemma => kernel_rfl) fun wI hbI => ?_
    refine seqL_pre 8 (by kernel_rfl) ?_
    simp only [List.take_succ_cons, List.take_zero, List.drop_succ_cons, List.drop_zero]
    repeat (go_big_quiet_step (fail))
    refine wpQuiet_nil ?_
    have HVL : Hid (Calls Tryz.prog 17 #[.pointer (some ⟨gw, 0, none⟩)] wI fun e w' => (∃ vsd' ves', e = .returned (.agg (vlCs l2 vsd' ves')) ∧ VLm (fun b => wI.heap.size ≤ b) w' vsd' ves' l2) ∧ Below wI.heap.size wI w') := by
      obtain ⟨f', gl', T', first', recs', vsd', ves', _, _, _, _, _, hbB, _, hmB, _, _, hleB⟩ := HVH.out.below hbI
      exact Lib.hid (vlog_any hbB hmB (by omega))
    refine seqL_wild hbI rfl rfl fun K hK => ?_
    unfold Gives
    go_simp
    refine HVL.out.mono ?_
    rintro e wJ ⟨⟨v3, e3, rfl, hm3⟩, hbJ⟩
    obtain ⟨A3, c3, rfl, _⟩ := hm3.sd.form
    obtain ⟨A4, c4, rfl, _⟩ := hm3.es.form
    obtain ⟨U, hU⟩ : ∃ U : Array Value, U = vlCs l2 (.slice A3 l2.sd.length c3) (.slice A4 l2.es.length c4) := ⟨_, rfl⟩
    rw [← hU]
    have HU := Lib.hid hU
    have HM3 := Lib.hid hm3
    clear hU hm3 HVL
    refine ⟨_, rfl, hK _ _ (hbJ) fun hbJ' => ?_⟩
    clear hK
    clear K
    simp only [Act.put, List.setIfInBounds_toArray, List.set_cons_succ, List.set_cons_zero]
    refine seqL_still (.agg T1) rfl rfl (fun s => still_ld (g := gL) (k := 0) rfl rfl (kH.below s.below kH.lt).range Tryz.underlying30 rfl hinf) ?_
    have HLG := Lib.hid (log_any HM3.out (HWH.out.below hbJ'))
    rw [← HT1.out, ← HU.out, sameV_refl] at HLG
    refine seqL_wild hbJ' rfl rfl fun K hK => ?_
    unfold Gives
    go_simp
    refine HLG.out.mono ?_
    rintro e wK ⟨rfl, hbK⟩
    refine ⟨_, rfl, hK _ _ (hbK) fun hbK' => ?_⟩
    clear hK
    clear K
    simp only [Act.put, List.setIfInBounds_toArray, List.set_cons_succ, List.set_cons_zero]
    refine seqL_pre 2 (by kernel_rfl) ?_
    simp only [List.take_succ_cons, List.take_zero, List.drop_succ_cons, List.drop_zero]
    repeat (go_big_quiet_step (fail))
    refine wpQuiet_nil ?_
    refine seqL_nil ?_
    have hzK := hbK'.size
    have kK := kH.below hbK' kH.lt
    have HFK : Hid (∀ x, (f' x ∨ (wG.heap.size ≤ x ∧ x < wH.heap.size)) → w.heap.size ≤ x ∧ x < wK.heap.size ∧ x ≠ gL ∧ some x ≠ (Value.slice A2' l2.es.length c2').ownBlock) := Lib.hid fun x hx => ⟨(HFH.out x hx).1, by have := (HFH.out x hx).2.1; omega, (HFH.out x hx).2.2⟩
    have HVK := Lib.hid (HVH.out.below hbK')
    have HSK := Lib.hid (RSl.below HSH.out hbK')
    have HOK := Lib.hid (HOH.out.below hbK')
    have hBK := HBH.out.trans (hbK'.mono HBH.out.size)
    clear HFH HVH HSH HOH HWH HBH hbK' hbK hbJ hbJ' hbI HM3 HU HLG kH hzK
    go_wp2
    go_roundw
    case rel => exact ⟨i + 1, gw, l2, l2, _, _, _, by omega, by go_num, rfl, HG9, Lib.hid (by rw [← HT1.out]; exact kK), Lib.hid (HVK.out.later (by omega)), HFK, HSK, HOK, HOG9, hBK⟩
    case measure => simp [intOf]; omega
end Go.Proofs.YtnlhjhpikjmoaaaGreatDoor
