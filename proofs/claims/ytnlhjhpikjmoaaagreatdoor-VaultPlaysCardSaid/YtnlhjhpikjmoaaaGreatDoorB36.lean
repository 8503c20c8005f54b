/- Contracts: VaultPlays' changed.
VaultPlays: the state between its steps.
VaultPlays: Put in any state. -/
import Derived.Test.YtnlhjhpikjmoaaaGreatDoorB32
import Derived.Test.YtnlhjhpikjmoaaaGreatDoorB34
namespace Go.Proofs.YtnlhjhpikjmoaaaGreatDoor
open Go.RowKit
theorem Tryz.infoOp7 : (Tryz.prog.info? 61).map (·.size) = some 10 := by kernel_rfl
set_option maxRecDepth 100000 in
set_option maxHeartbeats 6400000 in
theorem changed_any {ok ok2 : Nat → Prop} {w : World} {vsd ves : Value} {l : VLog} (h : VLm ok w vsd ves l) (o : Op7) {vb usd ues vk : Value} (hb : RB ok2 w vb o.b) (hl : VLm ok2 w usd ues o.l) (hn : I64 o.n) (hle : l.es.length ≤ 1000) (hsi : l.si ≤ 4611686018427387904) (hole : o.l.es.length ≤ 1000) :
    Calls Tryz.prog 24 #[.agg (vlCs l vsd ves), .agg (o7Cs o vb usd ues vk)] w fun e w' => (∃ t a b, e = .returned (.agg (vlCs t a b)) ∧ VLm (fun b => w.heap.size ≤ b) w' a b t ∧ Chg l o t) ∧ Below w.heap.size w w' := by
  have h := h.mono (ok' := fun b => b < w.heap.size) fun b _ hb => hb
  have hl := hl.mono (ok' := fun b => b < w.heap.size) fun b _ hb => hb
  have hb := hb.mono (by decide) (ok' := fun b => b < w.heap.size) fun b _ hb => hb
  obtain ⟨A1, c1, rfl, _, _⟩ := h.sd.form
  obtain ⟨A2, c2, rfl, _, _⟩ := h.es.form
  obtain ⟨B1, d1, rfl, _, _⟩ := hl.sd.form
  obtain ⟨B2, d2, rfl, _, _⟩ := hl.es.form
  obtain ⟨C1, e1, rfl, hce1, _⟩ := hb.form
  obtain ⟨T1, hT1⟩ : ∃ T : Array Value, T = vlCs l (.slice A1 l.sd.length c1) (.slice A2 l.es.length c2) := ⟨_, rfl⟩
  obtain ⟨T2, hT2⟩ : ∃ T : Array Value, T = vlCs o.l (.slice B1 o.l.sd.length d1) (.slice B2 o.l.es.length d2) := ⟨_, rfl⟩
  obtain ⟨O1, hO1⟩ : ∃ T : Array Value, T = o7Cs o (.slice C1 o.b.length e1) (.slice B1 o.l.sd.length d1) (.slice B2 o.l.es.length d2) vk := ⟨_, rfl⟩
  have hinf1 : (Tryz.prog.info? 30).map (·.size) = some T1.size := by rw [hT1]; exact Tryz.infoLog
  have hinf2 : (Tryz.prog.info? 30).map (·.size) = some T2.size := by rw [hT2]; exact Tryz.infoLog
  have HCL := Lib.hid (fun (w' : World) (hb : Below w.heap.size w w') => copyLog_own (h.below hb) (by omega))
  have HCO := Lib.hid (fun (w' : World) (hb : Below w.heap.size w w') => copyLog_any (hl.below hb) (by omega))
  rw [← hT1] at HCL
  rw [← hT2] at HCO
  have HB := Lib.hid hb
  have HLF := Lib.hid (And.intro h.term (And.intro h.vote (And.intro h.si h.st)))
  have HO := Lib.hid (And.intro hl.term (And.intro hl.vote (And.intro hl.si hl.st)))
  have HT1 := Lib.hid hT1
  have HT2 := Lib.hid hT2
  have HO1 := Lib.hid hO1
  rw [← hT1, ← hO1]
  clear h hl hb hT1 hT2 hO1
  go_enter Tryz.func24, Tryz.ntmps24
  go_upto_region 1 with fail
  obtain ⟨g2, hg2⟩ : ∃ g2, g2 = w.heap.size := ⟨_, rfl⟩
  refine name_world (fun w1 => Blk w1 g2 30 T1 ∧ Blk w1 (g2 + 1) 61 O1 ∧ Blk w1 (g2 + 1 + 1) 30 #[.int .u64 0, .int .i64 0, .int .u64 0, .int .u64 0, .slice none 0 0, .slice none 0 0] ∧ Below w.heap.size w w1 ∧ w1.heap.size = g2 + 3) ⟨by rw [hg2]; exact ((Blk.new _ _ _).alloc _).alloc _, by rw [hg2]; exact (Blk.new_ (by simp)).alloc _, by rw [hg2]; exact Blk.new_ (by simp), (((Below.refl _ _).alloc (Nat.le_refl _) _).alloc (by simp) _).alloc (by simp; omega) _, by rw [hg2]; simp⟩ ?_
  rintro w1 ⟨k2, k3, k4, hB1, hz1⟩
  obtain ⟨g3, hg3⟩ : ∃ g, g = g2 + 1 := ⟨_, rfl⟩
  obtain ⟨g4, hg4⟩ : ∃ g, g = g3 + 1 := ⟨_, rfl⟩
  rw [← hg2]
  rw [← hg3] at k3 k4 ⊢
  rw [← hg4] at k4 ⊢
  have HGG := Lib.hid (And.intro hg2 (And.intro hg3 (And.intro hg4 hz1)))
  clear hg2 hg3 hg4 hz1
  go_upto_region 1 with fail
  refine wp_region_split 2 ?_
  simp only [List.take_succ_cons, List.take_zero, List.drop_succ_cons, List.drop_zero]
  refine wpList_ld (g := g2) (k := 0) (cs := T1) rfl rfl rfl k2.range Tryz.underlying30 rfl hinf1 ?_
  go_wp2_with fail
  refine (HCL.out _ hB1).mono ?_
  rintro e w2 ⟨⟨a1, a2, rfl, hsd, hes⟩, hb2⟩
  obtain ⟨A3, c3, rfl, hc3, _⟩ := hsd.form
  obtain ⟨A4, c4, rfl, hc4⟩ := hes.form
  have k22 := k2.below hb2 k2.lt
  have HSD := Lib.hid hsd
  have HES := Lib.hid hes
  clear hsd hes
  go_wp2
  show wpList _ _ _ _ _ _
  refine wpList_st rfl rfl (vlCs l (.slice A3 l.sd.length c3) (.slice A4 l.es.length c4)) rfl rfl k22 (by rw [HT1.out]; rfl) Tryz.infoLog (vl_all _ _ _ _ _ _ _) ?_ rfl
  intro k9
  have hK9 : Kp (fun b => ¬ b = g2) w2 (World.setCells w2 g2 0 (vlCs l (.slice A3 l.sd.length c3) (.slice A4 l.es.length c4)).toList) := Kp.setCells (b := g2) (fun _ h => h rfl) _ 0 (Kp.refl _ _)
  generalize hwz : World.setCells w2 g2 0 (vlCs l (.slice A3 l.sd.length c3) (.slice A4 l.es.length c4)).toList = wz at k9 hK9 ⊢
  clear hwz k22
  have hgg := HGG.out
  have hzz := hK9.size
  have hz2 := hb2.size
  have hz1 := hB1.size
  have hgg3 : g3 ≠ g2 := by omega
  have hgg4 : g4 ≠ g2 := by omega
  have k3 := (k3.below hb2 k3.lt).kp hK9 hgg3
  have k4 := (k4.below hb2 k4.lt).kp hK9 hgg4
  have hBz : Below w.heap.size w wz := (hB1.trans (hb2.mono hz1)).trans (hK9.below (by omega) fun b hb => by omega)
  have hsd : RB (fun b => w1.heap.size ≤ b ∧ some b ≠ (Value.slice A4 l.es.length c4).ownBlock) wz (.slice A3 l.sd.length c3) l.sd := RSl.kp (hK9.mono fun b hb => by omega) HSD.out
  have hes : OwnL rEnt (fun b => w1.heap.size ≤ b) w1.heap.size 50 wz (.slice A4 l.es.length c4) l.es := HES.out.kp (hK9.mono fun b (hb : w1.heap.size ≤ b) => by omega) (fun b hb => hb) fun b hb => (HES.out.lt b hb).1
  have k3' := k3
  rw [HO1.out] at k3'
  have y2 : wz.cell? ⟨g3, 2, none⟩ = some (.slice C1 o.b.length e1) := k3'.cell 2
  have y1 : wz.cell? ⟨g3, 1, none⟩ = some (.int .i64 o.n) := k3'.cell 1
  have y0 : wz.cell? ⟨g3, 0, none⟩ = some (.int .i64 o.kind) := k3'.cell 0
  have HSD := Lib.hid hsd
  have HES := Lib.hid hes
  have HKZ := Lib.hid (And.intro k9 (And.intro k3 k4))
  have HG4 : Hid (w.heap.size ≤ g2 ∧ g2 < g3 ∧ g3 < g4 ∧ g4 < w1.heap.size ∧ w1.heap.size ≤ wz.heap.size) := Lib.hid (by omega)
  clear hsd hes k2 k3 k4 k3' hb2 hB1 hK9 hgg hz1 hz2 hzz
  obtain ⟨mb, hmb⟩ : ∃ m, m = min 200 o.b.length := ⟨_, rfl⟩
  have hrb : RB (fun b => b < w.heap.size) wz (.slice C1 mb e1) (o.b.take 200) := by
    have := (RSl.below HB.out hBz).take (k := mb) (by rw [hmb]; exact Nat.min_le_right _ _)
    rwa [show o.b.take mb = o.b.take 200 by rw [hmb, ← List.take_take, List.take_length]] at this
  obtain ⟨ob, hob⟩ : ∃ n, n = o.b.length := ⟨_, rfl⟩
  rw [← hob] at y2 hmb hce1
  have HRB := Lib.hid hrb
  have HMB := Lib.hid hmb
  clear hrb hmb hob
  go_upto_if 15 with fail
  go_cut [5] (fun v wx => v = .slice C1 mb e1 ∧ wx = wz)
  case first =>
    by_cases hgt : 200 < ob
    · have z1 : decide ((ob : Int) > 200) = true := decide_eq_true (by omega)
      have z2 : decide (200 < ob) = true := decide_eq_true hgt
      go_wp2
      go_meet
      exact ⟨by rw [HMB.out, Nat.min_eq_left (by omega)], rfl⟩
    · have z1 : decide ((ob : Int) > 200) = false := decide_eq_false (by omega)
      have z2 : decide (200 < ob) = false := decide_eq_false hgt
      go_wp2
      go_meet
      exact ⟨by rw [HMB.out, Nat.min_eq_right (by omega)], rfl⟩
  obtain ⟨rfl, hwx⟩ := hcut
  rw [hwx]
  clear hwx y2
  have y5 : wz.cell? ⟨g2, 5, none⟩ = some (.slice A4 l.es.length c4) := HKZ.out.1.cell 5
  go_upto_region 5 with fail
  go_cut [6] (fun v wx => ∃ k : Nat, v = .int .i64 (k : Int) ∧ k ≤ l.es.length ∧ wx = wz)
  case first =>
    obtain ⟨k, hk, hkl⟩ := modk_at o.n l.es.length (by omega)
    have HK := Lib.hid hk
    clear hk
    go_wp2
    go_meet
    exact ⟨k, by rw [← HK.out], hkl, rfl⟩
  obtain ⟨k, rfl, hkl, hwx⟩ := hcut
  rw [hwx]
  clear hwx y5
  obtain ⟨kd, hkd⟩ : ∃ kd, kd = o.kind := ⟨_, rfl⟩
  rw [← hkd] at y0
  have HKD := Lib.hid hkd
  have hkeep : ∀ w' : World, Kp (fun b => b ≠ g2) wz w' → RB (fun b => w1.heap.size ≤ b) w' (.slice A3 l.sd.length c3) l.sd ∧ RSl rEnt (fun b => w1.heap.size ≤ b) w' (.slice A4 l.es.length c4) l.es ∧ Blk w' g4 30 #[.int .u64 0, .int .i64 0, .int .u64 0, .int .u64 0, .slice none 0 0, .slice none 0 0] ∧ Below w.heap.size w w' := fun w' hk => by
    have hg := HG4.out
    refine ⟨(RSl.kp (hk.mono fun b hb => by omega) HSD.out).mono (by decide) fun b hb _ => hb.1, ?_, HKZ.out.2.2.kp hk (by omega), hBz.trans (hk.below (by omega) fun b hb => by omega)⟩
    have := HES.out.kp (hk.mono fun b (hb : w1.heap.size ≤ b) => by omega) (fun b hb => hb) fun b hb => (HES.out.lt b hb).1
    exact this.rslO (by show l.es.length * 40 ≤ _; omega) (fun b hb => (HES.out.lt b hb).1) (fun b hb => hb)
  have HKEEP := Lib.hid hkeep
  clear hkd hkeep
  go_upto_block 0 with fail
  go_cut [4] (fun v wx => v = .pointer (some ⟨g4, 0, none⟩) ∧ ∃ (t : VLog) (a1 : Option Addr) (b1 : Nat) (a2 : Option Addr) (b2 : Nat), Hid (Blk wx g2 30 (vlCs t (.slice a1 t.sd.length b1) (.slice a2 t.es.length b2))) ∧ Hid (VLm (fun b => w1.heap.size ≤ b) wx (.slice a1 t.sd.length b1) (.slice a2 t.es.length b2) t) ∧ Hid (Blk wx g4 30 #[.int .u64 0, .int .i64 0, .int .u64 0, .int .u64 0, .slice none 0 0, .slice none 0 0]) ∧ Hid (Chg l o t) ∧ Below w.heap.size w wx)
  case first =>
    have HY1 := Lib.hid y1
    have fg := fun j => HKZ.out.1.frozen j
    have x0 : wz.cell? ⟨g2, 0, none⟩ = some (.int .u64 (l.term : Int)) := HKZ.out.1.cell 0
    have x1 : wz.cell? ⟨g2, 1, none⟩ = some (.int .i64 l.vote) := HKZ.out.1.cell 1
    have x5 : wz.cell? ⟨g2, 5, none⟩ = some (.slice A4 l.es.length c4) := HKZ.out.1.cell 5
    by_cases h1 : kd = 1
    · obtain rfl : kd = 1 := h1
      clear x1 x5 y1 y0
      obtain ⟨m4, hm4, hm43⟩ := modk_at o.n 3 (by omega)
      have hm4 : wrap64 ((IntKind.u64.wrap o.n).tmod 4) = (m4 : Int) := hm4
      have HM4 := Lib.hid hm4
      obtain ⟨tm, htm⟩ : ∃ tm : Nat, tm = max l.term 1 := ⟨_, rfl⟩
      have hmx : max (l.term : Int) 1 = (tm : Int) := by omega
      have htm64 : tm < 18446744073709551616 := by have := HLF.out.1; omega
      have HTM := Lib.hid htm64
      have y0 : wz.cell? ⟨g3, 0, none⟩ = some (.int .i64 1) := by
        have h := HKZ.out.2.1
        rw [HO1.out] at h
        have := h.cell 0
        rw [show (o7Cs o (.slice C1 o.b.length e1) (.slice B1 o.l.sd.length d1) (.slice B2 o.l.es.length d2) vk)[0]? = some (.int .i64 o.kind) from rfl, ← HKD.out] at this
        exact this
      have HOB : Hid ((o.b.take 200).length = mb) := Lib.hid (by obtain ⟨_, _, h, _⟩ := HRB.out.form; simp only [Value.slice.injEq] at h; exact h.2.1.symm)
      clear hm4 htm htm64
      go_upto_region 11 with fail
      refine name_world (fun w5 => Blk w5 g2 30 (vlCs ⟨tm, l.vote, l.si, l.st, l.sd, l.es⟩ (.slice A3 l.sd.length c3) (.slice A4 l.es.length c4)) ∧ Kp (fun b => b ≠ g2) wz w5) ⟨by first | exact HKZ.out.1.set_ 0 _ | (rw [hmx]; exact HKZ.out.1.set_ 0 _), (Kp.refl _ _).setCell (fun _ h => h rfl) _⟩ ?_
      rintro w5 ⟨hb5, hk5⟩
      have hg := HG4.out
      have hsd5 : RB (fun b => w1.heap.size ≤ b ∧ some b ≠ (Value.slice A4 l.es.length c4).ownBlock) w5 (.slice A3 l.sd.length c3) l.sd := RSl.kp (hk5.mono fun b hb => by omega) HSD.out
      have hes5 : OwnL rEnt (fun b => w1.heap.size ≤ b) w1.heap.size 50 w5 (.slice A4 l.es.length c4) l.es := HES.out.kp (hk5.mono fun b (hb : w1.heap.size ≤ b) => by omega) (fun b hb => hb) fun b hb => (HES.out.lt b hb).1
      clear x0 hg
      go_loopw [7] (fun vi wr => ∃ (i : Nat) (es : List VEnt) (A : Option Addr) (c : Nat), i ≤ m4 + 1 ∧ vi = .int .i64 (i : Int) ∧ Hid (Blk wr g2 30 (vlCs ⟨tm, l.vote, l.si, l.st, l.sd, es⟩ (.slice A3 l.sd.length c3) (.slice A es.length c))) ∧ Hid (OwnL rEnt (fun b => w1.heap.size ≤ b) w1.heap.size 50 wr (.slice A es.length c) es) ∧ Hid (RB (fun b => w1.heap.size ≤ b ∧ some b ≠ (Value.slice A es.length c).ownBlock) wr (.slice A3 l.sd.length c3) l.sd) ∧ Hid (Kp (fun b => b < w1.heap.size ∧ b ≠ g2) wz wr) ∧ Hid (es.length = l.es.length + i ∧ datS es ≤ datS l.es + 200 * i)) (fun vi _ => 10 - (intOf vi).toNat)
      case atStart => exact ⟨0, l.es, A4, c4, by omega, rfl, Lib.hid hb5, Lib.hid hes5, Lib.hid hsd5, Lib.hid (hk5.mono fun b hb => hb.2), Lib.hid ⟨by omega, by omega⟩⟩
      clear hb5 hk5 hsd5 hes5 y0 fg
      case round =>
        obtain ⟨i, es, A, c, hi, rfl, HB2, HOE, HSE, HKK, HLE⟩ := hrel
        have hg := HG4.out
        have y1 : wr.cell? ⟨g3, 1, none⟩ = some (.int .i64 o.n) := by
          have h := HKZ.out.2.1.kp HKK.out ⟨by omega, by omega⟩
          rw [HO1.out] at h
          exact h.cell 1
        by_cases hlt : i ≤ m4
        · have z1 : decide ((i : Int) ≤ (m4 : Int)) = true := decide_eq_true (by omega)
          have z2 : decide (i ≤ m4) = true := decide_eq_true hlt
          have zm := HM4.out
          have hle2 := HLE.out
          obtain ⟨nl, hnl⟩ : ∃ nl, nl = es.length := ⟨_, rfl⟩
          have hnlb : nl ≤ 1004 := by omega
          have hB2 := HB2.out
          have hOE := HOE.out
          rw [← hnl] at hOE
          have hOlt := hOE.lt
          have x0 : ∀ s : Later wr, s.val.cell? ⟨g2, 0, none⟩ = some (.int .u64 (tm : Int)) := Later.cell (hB2.cell 0)
          have x2 : ∀ s : Later wr, s.val.cell? ⟨g2, 2, none⟩ = some (.int .u64 (l.si : Int)) := Later.cell (hB2.cell 2)
          have x5 : ∀ s : Later wr, s.val.cell? ⟨g2, 5, none⟩ = some (.slice A nl c) := Later.cell (by rw [hnl]; exact hB2.cell 5)
          have hRBr : RB (fun b => b < w.heap.size) wr (.slice C1 mb e1) (o.b.take 200) := RSl.kp (HKK.out.mono fun b (hb : b < w.heap.size) => ⟨by omega, by omega⟩) HRB.out
          have HRBr := Lib.hid hRBr
          have HNL := Lib.hid hnl
          have hsz := HKK.out.size
          clear hle2 hg hRBr hnl hB2
          go_upto_region 13 with fail
          clear z1 z2 y1 zm
          refine wp_seqB (fun y => y = g2 ∨ some y = (Value.slice A nl c).ownBlock) 18 [15, 17, 18, 20] (by as_aux_lemma => kernel_rfl) (by as_aux_lemma => kernel_rfl) fun w2 hb2 => ?_
          refine seqB_pre 1 (by kernel_rfl) ?_
          simp only [List.take_succ_cons, List.take_zero, List.drop_succ_cons, List.drop_zero]
          repeat (go_big_quiet_step (fail))
          refine wpQuiet_nil ?_
          refine seqB_pre0 1 (by kernel_rfl) (by kernel_rfl) ?_
          simp only [List.take_succ_cons, List.take_zero, List.drop_succ_cons, List.drop_zero]
          repeat (go_big_quiet_step (fail))
          refine wpQuiet_nil ?_
          refine seqB_pre 2 (by kernel_rfl) ?_
          simp only [List.take_succ_cons, List.take_zero, List.drop_succ_cons, List.drop_zero]
          repeat (go_big_quiet_step (fail))
          refine wpQuiet_nil ?_
          refine seqB_pre0 1 (by kernel_rfl) (by kernel_rfl) ?_
          simp only [List.take_succ_cons, List.take_zero, List.drop_succ_cons, List.drop_zero]
          repeat (go_big_quiet_step (fail))
          refine wpQuiet_nil ?_
          refine seqB_pre 2 (by kernel_rfl) ?_
          simp only [List.take_succ_cons, List.take_zero, List.drop_succ_cons, List.drop_zero]
          repeat (go_big_quiet_step (fail))
          refine wpQuiet_nil ?_
          refine seqB_pre0 1 (by kernel_rfl) (by kernel_rfl) ?_
          simp only [List.take_succ_cons, List.take_zero, List.drop_succ_cons, List.drop_zero]
          repeat (go_big_quiet_step (fail))
          refine wpQuiet_nil ?_
          refine seqB_pre 1 (by kernel_rfl) ?_
          simp only [List.take_succ_cons, List.take_zero, List.drop_succ_cons, List.drop_zero]
          repeat (go_big_quiet_step (fail))
          refine wpQuiet_nil ?_
          refine seqB_pre0 1 (by kernel_rfl) (by kernel_rfl) ?_
          simp only [List.take_succ_cons, List.take_zero, List.drop_succ_cons, List.drop_zero]
          repeat (go_big_quiet_step (fail))
          refine wpQuiet_nil ?_
          refine seqB_pre 5 (by kernel_rfl) ?_
          simp only [List.take_succ_cons, List.take_zero, List.drop_succ_cons, List.drop_zero]
          repeat (go_big_quiet_step (fail))
          refine wpQuiet_nil ?_
          refine seqB_wild0 hb2 rfl rfl fun K hK => ?_
          unfold Gives
          go_simp
          refine (copy_rb _ (o.b.take 200) _ (RSl.below HRBr.out hb2)).mono ?_
          rintro e w3 ⟨⟨v3, rfl, hv3⟩, hb3⟩
          refine ⟨_, rfl, hK _ _ (hb3) fun hb3' => ?_⟩
          clear hK
          clear K
          simp only [Act.put, List.setIfInBounds_toArray, List.set_cons_succ, List.set_cons_zero]
          obtain ⟨A8, q8, rfl, _⟩ := hv3.form
          rw [HOB.out] at hv3 ⊢
          refine seqB_pre 1 (by kernel_rfl) ?_
          simp only [List.take_succ_cons, List.take_zero, List.drop_succ_cons, List.drop_zero]
          repeat (go_big_quiet_step (fail))
          refine wpQuiet_nil ?_
          refine seqB_wild0 hb3' rfl rfl fun K hK => ?_
          unfold Gives
          go_simp
          have hal : Below w3.heap.size w3 (w3.alloc (.cells #[.int .u64 (tm : Int), .int .u64 ((l.si : Int) + (nl : Int) + 1), .slice A8 mb q8] 50)) := (Below.refl _ _).alloc (Nat.le_refl _) _
          refine hK _ _ hal fun hb4 => ?_
          clear hK
          clear K
          simp only [Act.put, List.setIfInBounds_toArray, List.set_cons_succ, List.set_cons_zero]
          have hz2 := hb2.size
          have hz3 := hb3.size
          have hz4 := hb4.size
          have hg := HG4.out
          have hv4 : rEnt.rel (fun b => w1.heap.size ≤ b ∧ some b ≠ (Value.slice A nl c).ownBlock) (w3.alloc (.cells #[.int .u64 (tm : Int), .int .u64 ((l.si : Int) + (nl : Int) + 1), .slice A8 mb q8] 50)) [.int .u64 (tm : Int), .int .u64 ((l.si : Int) + (nl : Int) + 1), .slice A8 mb q8] ⟨tm, l.si + nl + 1, o.b.take 200⟩ := ⟨_, by simp, (RSl.below hv3 hal).mono (by decide) fun y hy _ => ⟨by omega, fun h => by have := (hOlt y h.symm).2; omega⟩, HTM.out, by show l.si + nl + 1 < _; omega⟩
          refine seqB_wild (Kp.of_below hb4) rfl rfl fun K hK => ?_
          refine gives_app0' (E := rEnt) Tryz.rowEnt (by decide) _ _ rfl (.slice A nl c) es _ rfl (hOE.below hb4) (some ⟨w3.heap.size, 0, none⟩) 1 [⟨tm, l.si + nl + 1, o.b.take 200⟩] [[.int .u64 (tm : Int), .int .u64 ((l.si : Int) + (nl : Int) + 1), .slice A8 mb q8]] rfl (show Rd _ 3 _ _ _ by simpa using Rd.new w3 50 3 1 #[.int .u64 (tm : Int), .int .u64 ((l.si : Int) + (nl : Int) + 1), .slice A8 mb q8] rfl) (Chunks.single (E := rEnt) hv4) ?_ ?_ (by omega) fun v' w5 hown5 hk5 hloc5 => ?_
          · rw [← HNL.out]
            show (nl + 1) * 40 ≤ _
            omega
          · rw [← HNL.out]
            show nl + 1 ≤ _
            omega
          refine hK _ _ ((hk5.mono fun y hy e => hy (.inr e))) fun hK5 => ?_
          clear hK
          clear K
          simp only [Act.put, List.setIfInBounds_toArray, List.set_cons_succ, List.set_cons_zero]
          have hl9 : (es ++ [(⟨tm, l.si + nl + 1, o.b.take 200⟩ : VEnt)]).length = nl + 1 := by rw [List.length_append, ← HNL.out]; rfl
          obtain ⟨A9, c9, rfl, hc9⟩ := hown5.form
          rw [hl9] at hown5 hloc5 ⊢
          refine seqB_pre 1 (by kernel_rfl) ?_
          simp only [List.take_succ_cons, List.take_zero, List.drop_succ_cons, List.drop_zero]
          repeat (go_big_quiet_step (fail))
          refine wpQuiet_nil ?_
          have hb24 : Below wr.heap.size wr (w3.alloc (.cells #[.int .u64 (tm : Int), .int .u64 ((l.si : Int) + (nl : Int) + 1), .slice A8 mb q8] 50)) := hb4
          have hne2 : some g2 ≠ (Value.slice A nl c).ownBlock := fun e => by have := (hOlt g2 e.symm).1; omega
          have hB5 := (HB2.out.below hb24 HB2.out.lt).kp hk5 hne2
          have x5' : w5.cell? ⟨g2, 5, none⟩ = some (.slice A es.length c) := hB5.cell 5
          have fg := fun j => hB5.frozen j
          refine seqB_wild hK5 rfl rfl fun K hK => ?_
          unfold Gives
          go_simp
          have hkp : ∀ u, Kp (fun b => ¬ (b = g2 ∨ some b = (Value.slice A nl c).ownBlock)) w5 (w5.setCell ⟨g2, 5, none⟩ u) := fun u => (Kp.refl _ _).setCell (fun _ h => h (.inl rfl)) _
          refine hK _ _ (hkp _) fun hK6 => ?_
          clear hK
          clear K
          simp only [Act.put, List.setIfInBounds_toArray, List.set_cons_succ, List.set_cons_zero]
          refine seqB_nil ?_
          have hk6 : Kp (fun b => ¬ b = g2) w5 (w5.setCell ⟨g2, 5, none⟩ (.slice A9 (nl + 1) c9)) := (Kp.refl _ _).setCell (fun _ h => h rfl) _
          have hB6 := hB5.set_ 5 (.slice A9 (nl + 1) c9)
          have hO6 := hown5.kp hk6 (fun b (hb : w1.heap.size ≤ b) => by omega) fun b hb e => by have := (hown5.lt b hb).1; omega
          have hS6 : RB (fun b => w1.heap.size ≤ b ∧ some b ≠ (Value.slice A9 (nl + 1) c9).ownBlock) (w5.setCell ⟨g2, 5, none⟩ (.slice A9 (nl + 1) c9)) (.slice A3 l.sd.length c3) l.sd := by
            have h0 := HSE.out
            rw [← HNL.out] at h0
            have h1 := h0.mono (by decide) (ok' := fun b => b < wr.heap.size ∧ w1.heap.size ≤ b ∧ some b ≠ (Value.slice A nl c).ownBlock) fun b hb hlt => ⟨hlt, hb⟩
            refine (RSl.kp (hK6.mono fun b hb h => ?_) h1).mono (by decide) fun b hb _ => ⟨hb.2.1, fun e => ?_⟩
            · rcases h with h | h
              · omega
              · exact hb.2.2 h
            · rcases hloc5 with h | h
              · exact hb.2.2 (by rw [e, h])
              · rw [h] at e
                have := Option.some.inj e
                simp only [World.size_alloc] at this
                omega
          have hK7 : Kp (fun b => b < w1.heap.size ∧ b ≠ g2) wz (w5.setCell ⟨g2, 5, none⟩ (.slice A9 (nl + 1) c9)) := HKK.out.trans (hK6.mono fun b hb h => by
            rcases h with h | h
            · exact hb.2 h
            · have := (hOlt b h.symm).1
              omega)
          have HB6 := Lib.hid hB6
          have HO6 := Lib.hid hO6
          have HS6 := Lib.hid hS6
          have HK7 := Lib.hid hK7
          have HL9 := Lib.hid hl9
          clear hk6 hB6 hO6 hS6 hK7 hl9 hK6 hkp fg x5' hB5 hK5 hloc5 hown5 hk5 hv4 hal hb24 hv3 hc9 x0 x2 x5 hOE hne2 hb2 hb3 hb3' hb4
          go_wp2
          go_roundw
          case rel => exact ⟨i + 1, es ++ [⟨tm, l.si + nl + 1, o.b.take 200⟩], A9, c9, by omega, by go_num, Lib.hid (by rw [HL9.out]; exact HB6.out), Lib.hid (by rw [HL9.out]; exact HO6.out), Lib.hid (by rw [HL9.out]; exact HS6.out), HK7, Lib.hid ⟨by rw [HL9.out]; have := HLE.out; have := HNL.out; omega, by
            have h1 := HLE.out.2
            have h2 := HOB.out
            have h3 := HMB.out
            have h4 : datS (es ++ [(⟨tm, l.si + nl + 1, o.b.take 200⟩ : VEnt)]) = datS es + (o.b.take 200).length := by unfold datS; rw [List.map_append, List.sum_append]; rfl
            rw [h4]
            omega⟩⟩
          case measure => simp [intOf]; omega
        · have z1 : decide ((i : Int) ≤ (m4 : Int)) = false := decide_eq_false (by omega)
          have z2 : decide (i ≤ m4) = false := decide_eq_false hlt
          have zm := HM4.out
          clear hg
          go_wp2
          go_meet
          have hg := HG4.out
          have hlf := HLF.out
          have hle2 := HLE.out
          have hz := HKK.out.size
          refine ⟨rfl, ⟨tm, l.vote, l.si, l.st, l.sd, es⟩, A3, c3, A, c, HB2, Lib.hid ⟨HSE.out.mono (by decide) fun b hb _ => hb.1, HOE.out.rslO (by show es.length * 40 ≤ _; omega) (fun b hb => (HOE.out.lt b hb).1) (fun b hb => hb), HTM.out, hlf.2.1, hlf.2.2.1, hlf.2.2.2⟩, Lib.hid (HKZ.out.2.2.kp HKK.out ⟨by omega, by omega⟩), Lib.hid (.inl ⟨by show es.length ≤ _; omega, by show l.sd.length + datS es ≤ _; unfold datL; omega⟩), hBz.trans (HKK.out.below (by omega) fun b hb => ⟨by omega, by omega⟩)⟩
    by_cases h2 : kd = 2
    · obtain rfl : kd = 2 := h2
      clear h1 x5
      obtain ⟨j, hj, hj5⟩ := modk_at o.n 5 (by omega)
      have hj : wrap64 ((IntKind.u64.wrap o.n).tmod 6) = (j : Int) := hj
      have HJ := Lib.hid hj
      clear hj
      go_wp2
      go_meet
      have hk : Kp (fun b => b ≠ g2) wz ((wz.setCell ⟨g2, 0, none⟩ (.int .u64 (IntKind.u64.wrap ((l.term : Int) + 1)))).setCell ⟨g2, 1, none⟩ (.int .i64 (wrap64 ((IntKind.u64.wrap o.n).tmod 6)))) := ((Kp.refl _ _).setCell (fun _ h => h rfl) _).setCell (fun _ h => h rfl) _
      obtain ⟨p1, p2, p3, p4⟩ := HKEEP.out _ hk
      obtain ⟨tm, htm, htl⟩ : ∃ tm : Nat, IntKind.u64.wrap ((l.term : Int) + 1) = (tm : Int) ∧ tm < 18446744073709551616 := ⟨(l.term + 1) % 18446744073709551616, by rw [IntKind.wrap_u64]; omega, by omega⟩
      have p0 := (HKZ.out.1.set_ 0 (.int .u64 (IntKind.u64.wrap ((l.term : Int) + 1)))).set_ 1 (.int .i64 (wrap64 ((IntKind.u64.wrap o.n).tmod 6)))
      have hlf := HLF.out
      refine ⟨rfl, ⟨tm, j, l.si, l.st, l.sd, l.es⟩, A3, c3, A4, c4, Lib.hid ?_, Lib.hid ⟨p1, p2, ?_, ?_, hlf.2.2.1, hlf.2.2.2⟩, Lib.hid p3, Lib.hid (.inl ⟨by show l.es.length ≤ _; omega, by show datL l ≤ _; omega⟩), p4⟩
      · rw [htm, HJ.out] at p0
        rw [htm, HJ.out]
        exact p0
      · exact htl
      · show I64 (j : Int)
        unfold I64
        omega
    by_cases h3 : kd = 3
    · obtain rfl : kd = 3 := h3
      clear h1 h2 x0 x1
      have hck : l.es.length - k ≤ c4 := by omega
      have hkn : (l.es.length : Int) - (k : Int) = ((l.es.length - k : Nat) : Int) := by omega
      obtain ⟨nk, hnk⟩ : ∃ nk, nk = l.es.length - k := ⟨_, rfl⟩
      rw [← hnk] at hkn hck
      have HNK := Lib.hid hnk
      clear hnk
      go_wp2
      go_meet
      have hk : Kp (fun b => b ≠ g2) wz (wz.setCell ⟨g2, 5, none⟩ (.slice A4 nk c4)) := (Kp.refl _ _).setCell (fun _ h => h rfl) _
      obtain ⟨p1, p2, p3, p4⟩ := HKEEP.out _ hk
      have p0 := HKZ.out.1.set_ 5 (.slice A4 nk c4)
      have hlf := HLF.out
      have htk := p2.take (k := nk) (by have := HNK.out; omega)
      have hlen : (l.es.take nk).length = nk := by rw [List.length_take]; have := HNK.out; omega
      refine ⟨rfl, ⟨l.term, l.vote, l.si, l.st, l.sd, l.es.take nk⟩, A3, c3, A4, c4, Lib.hid ?_, Lib.hid ⟨p1, ?_, hlf.1, hlf.2.1, hlf.2.2.1, hlf.2.2.2⟩, Lib.hid p3, Lib.hid (.inl ⟨by show (l.es.take nk).length ≤ _; have := HNK.out; omega, ?_⟩), p4⟩
      · show Blk _ g2 _ (vlCs _ _ (.slice A4 (l.es.take nk).length c4))
        rw [hlen]
        exact p0
      · show RSl rEnt _ _ (.slice A4 (l.es.take nk).length c4) (l.es.take nk)
        rw [hlen]
        exact htk
      · show l.sd.length + datS (l.es.take nk) ≤ _
        have := datS_tk l.es nk
        unfold datL
        omega
    by_cases h4 : kd = 4
    · obtain rfl : kd = 4 := h4
      clear h1 h2 h3 x0 x1 HY1 y1
      by_cases hk0 : k = 0
      · subst hk0
        clear x5
        go_wp2
        go_meet
        obtain ⟨p1, p2, p3, p4⟩ := HKEEP.out wz (Kp.refl _ _)
        have hlf := HLF.out
        exact ⟨rfl, l, A3, c3, A4, c4, Lib.hid HKZ.out.1, Lib.hid ⟨p1, p2, hlf.1, hlf.2.1, hlf.2.2.1, hlf.2.2.2⟩, Lib.hid p3, Lib.hid (.inl ⟨by omega, by omega⟩), p4⟩
      obtain ⟨kp, hkp⟩ : ∃ kp, kp + 1 = k := ⟨k - 1, by omega⟩
      have hkpl : kp < l.es.length := by omega
      have hk1 : (k : Int) - 1 = (kp : Int) := by omega
      have z1 : decide ((k : Int) > 0) = true := decide_eq_true (by omega)
      have z2 : decide (0 < k) = true := decide_eq_true (by omega)
      have hes := (HKEEP.out wz (Kp.refl _ _)).2.1
      obtain ⟨b6, off6, c6, cs6, hv6, hbg6, ⟨vd, rfl, hvd, ht64, hi64⟩, hcell6⟩ := hes.at_ hkpl
      simp only [Value.slice.injEq, true_and] at hv6
      obtain ⟨rfl, rfl⟩ := hv6
      obtain ⟨A6, c6, rfl, hf6⟩ := hvd.form
      obtain ⟨en, hen⟩ : ∃ en, en = l.es[kp] := ⟨_, rfl⟩
      rw [← hen] at hcell6 ht64 hi64 hf6 hvd
      obtain ⟨E3, hE3⟩ : ∃ E : Array Value, E = #[.int .u64 (en.term : Int), .int .u64 (en.idx : Int), .slice A6 en.data.length c6] := ⟨_, rfl⟩
      have hrE : wz.rangeAt b6 (off6 + kp * 3) E3.toList := fun j v hv => by rw [hE3] at hv; exact hcell6 j v hv
      have hinfE : (Tryz.prog.info? 50).map (·.size) = some E3.size := by rw [hE3]; exact Tryz.infoEnt
      have hallE : E3.all (·.oneCell') = true := by rw [hE3]; simp [Value.oneCell']
      have HT := Lib.hid (And.intro ht64 hi64)
      have HRE := Lib.hid hrE
      have HE3 := Lib.hid hE3
      have HKP := Lib.hid hkp
      clear hcell6 hvd ht64 hi64 hf6 hen hrE hE3 hkp hes
      go_upto_region 21 with fail
      refine wp_region_split 5 ?_
      simp only [List.take_succ_cons, List.take_zero, List.drop_succ_cons, List.drop_zero]
      go_wp2
      show wpList _ _ _ _ _ _
      refine wpList_ld (g := b6) (k := off6 + kp * 3) (cs := E3) rfl rfl rfl HRE.out Tryz.underlying50 rfl hinfE ?_
      refine wpList_split 1 ?_
      simp only [List.take_succ_cons, List.take_zero, List.drop_succ_cons, List.drop_zero]
      go_wp2
      show wpList _ _ _ _ _ _
      obtain ⟨ge, hge⟩ : ∃ ge, ge = wz.heap.size := ⟨_, rfl⟩
      rw [← hge]
      have kE : Blk (wz.alloc (.cells #[.int .u64 0, .int .u64 0, .slice none 0 0] 50)) ge 50 #[.int .u64 0, .int .u64 0, .slice none 0 0] := Blk.new_ hge
      refine wpList_st rfl rfl E3 rfl rfl kE (by rw [HE3.out]; rfl) hinfE hallE ?_ rfl
      intro kE
      have hbE : Below wz.heap.size wz (World.setCells (wz.alloc (.cells #[.int .u64 0, .int .u64 0, .slice none 0 0] 50)) ge 0 E3.toList) := below_setCells (by omega) _ 0 ((Below.refl _ _).alloc (Nat.le_refl _) _)
      generalize hwz : World.setCells (wz.alloc (.cells #[.int .u64 0, .int .u64 0, .slice none 0 0] 50)) ge 0 E3.toList = wy at kE hbE ⊢
      clear hwz
      rw [HE3.out] at kE
      have hzy := hbE.size
      have hneE : ge ≠ g2 := by have := HG4.out; omega
      have e0 : ∀ s : LaterB wy (fun b => b = g2), s.val.cell? ⟨ge, 0, none⟩ = some (.int .u64 (en.term : Int)) := LaterB.cell (kE.cell 0) hneE
      have e1 : ∀ s : LaterB wy (fun b => b = g2), s.val.cell? ⟨ge, 1, none⟩ = some (.int .u64 (en.idx : Int)) := LaterB.cell (kE.cell 1) hneE
      have HRBy := Lib.hid (RSl.below HRB.out hbE)
      have kLy := HKZ.out.1.below hbE HKZ.out.1.lt
      have kL5 := kLy.cell 5
      have HBE := Lib.hid hbE
      have HOB : Hid ((o.b.take 200).length = mb) := Lib.hid (by obtain ⟨_, _, h, _⟩ := HRB.out.form; simp only [Value.slice.injEq] at h; exact h.2.1.symm)
      clear hallE hinfE kE hge x5 hk1 z1 z2
      go_upto_region 22 with fail
      refine wp_seqB (fun b => b = g2) 8 [5, 8] (by as_aux_lemma => kernel_rfl) (by as_aux_lemma => kernel_rfl) fun w3 hb3 => ?_
      refine seqB_pre 5 (by kernel_rfl) ?_
      simp only [List.take_succ_cons, List.take_zero, List.drop_succ_cons, List.drop_zero]
      repeat (go_big_quiet_step (fail))
      refine wpQuiet_nil ?_
      refine seqB_wild0 hb3 rfl rfl fun K hK => ?_
      unfold Gives
      go_simp
      refine (copy_rb _ (o.b.take 200) _ (RSl.below HRBy.out hb3)).mono ?_
      rintro e w4 ⟨⟨v4, rfl, hv4⟩, hb4⟩
      refine ⟨_, rfl, hK _ _ (hb4) fun hb4' => ?_⟩
      clear hK
      clear K
      simp only [Act.put, List.setIfInBounds_toArray, List.set_cons_succ, List.set_cons_zero]
      obtain ⟨A8, q8, rfl, _⟩ := hv4.form
      rw [HOB.out] at hv4 ⊢
      refine seqB_pre 2 (by kernel_rfl) ?_
      simp only [List.take_succ_cons, List.take_zero, List.drop_succ_cons, List.drop_zero]
      repeat (go_big_quiet_step (fail))
      refine wpQuiet_nil ?_
      have kL4 := kLy.below hb4' kLy.lt
      have kM4 : Blk w4 g2 30 (#[.int .u64 (l.term : Int), .int .i64 l.vote] ++ #[.int .u64 (l.si : Int), .int .u64 (l.st : Int), .slice A3 l.sd.length c3] ++ #[.slice (some ⟨b6, off6, none⟩) l.es.length c4]) := kL4
      refine seqB_wild (Kp.of_below hb4') rfl rfl fun K hK => ?_
      refine gives_st (k := 2) rfl #[.int .u64 (en.idx : Int), .int .u64 (en.term : Int), .slice A8 mb q8] rfl rfl kL4 (by show 5 ≤ 6; decide) Tryz.infoSnap (snap_all _ _ _ _ _) ?_
      have k9 := kM4.setCells_mid #[.int .u64 (en.idx : Int), .int .u64 (en.term : Int), .slice A8 mb q8] rfl
      have hK9 : Kp (fun b => ¬ b = g2) w4 (World.setCells w4 g2 2 (#[Value.int .u64 (en.idx : Int), .int .u64 (en.term : Int), .slice A8 mb q8] : Array Value).toList) := Kp.setCells (b := g2) (fun _ h => h rfl) _ 2 (Kp.refl _ _)
      have k9 : Blk (World.setCells w4 g2 2 (#[Value.int .u64 (en.idx : Int), .int .u64 (en.term : Int), .slice A8 mb q8] : Array Value).toList) g2 30 #[.int .u64 (l.term : Int), .int .i64 l.vote, .int .u64 (en.idx : Int), .int .u64 (en.term : Int), .slice A8 mb q8, .slice (some ⟨b6, off6, none⟩) l.es.length c4] := k9
      refine hK _ _ (hK9) fun hK8 => ?_
      clear hK
      clear K
      simp only [Act.put, List.setIfInBounds_toArray, List.set_cons_succ, List.set_cons_zero]
      generalize hwz : World.setCells w4 g2 2 (#[Value.int .u64 (en.idx : Int), .int .u64 (en.term : Int), .slice A8 mb q8] : Array Value).toList = wx at k9 hK9 hK8 ⊢
      clear hwz kM4 kL4
      refine seqB_nil ?_
      have HV4 := Lib.hid hv4
      have HK9 := Lib.hid hK9
      have HK8 := Lib.hid hK8
      have HB3 := Lib.hid hb4'
      have hz3 := hb3.size
      have HZ3 : Hid (wy.heap.size ≤ w3.heap.size) := Lib.hid hz3
      have x95 : wx.cell? ⟨g2, 5, none⟩ = some (.slice (some ⟨b6, off6, none⟩) l.es.length c4) := k9.cell 5
      have f95 : wx.frozen? ⟨g2, 5, none⟩ = false := k9.frozen 5
      have HL9 := Lib.hid k9
      have hkc : k ≤ c4 := by omega
      clear hv4 hK9 hK8 k9 kL5 kLy e0 e1 hb3 hb4 hb4' hz3
      have hkkx : Kp (fun b => b ≠ g2) wz wx := (Kp.of_below HBE.out).trans HK8.out
      have HKKX := Lib.hid hkkx
      have hlf := HLF.out
      clear hkkx hlf
      have hrd := ((HKEEP.out wx HKKX.out).2.1).drop (k := k) hkl
      rw [show rEnt.sz = 3 from rfl] at hrd
      have HV5 : Hid (RB (fun b => w1.heap.size ≤ b) wx (.slice A8 mb q8) (o.b.take 200)) := Lib.hid ((RSl.kp (HK9.out.mono fun b (hb : w3.heap.size ≤ b) => by have := HG4.out; have := HZ3.out; omega) HV4.out).mono (by decide) fun b (hb : w3.heap.size ≤ b) _ => by have := HG4.out; have := HZ3.out; omega)
      have hck : l.es.length - k ≤ c4 - k := by omega
      by_cases hcc : c4 = k
      · rw [if_pos hcc] at hrd
        have HRD := Lib.hid hrd
        clear hrd
        go_wp2
        go_meet
        have hk : Kp (fun b => b ≠ g2) wx (wx.setCell ⟨g2, 5, none⟩ (.slice (some ⟨b6, off6, none⟩) (l.es.length - k) 0)) := (Kp.refl _ _).setCell (fun _ h => h rfl) _
        obtain ⟨p1, p2, p3, p4⟩ := HKEEP.out _ (HKKX.out.trans hk)
        have p0 := HL9.out.set_ 5 (.slice (some ⟨b6, off6, none⟩) (l.es.length - k) 0)
        have hlf := HLF.out
        have ht := HT.out
        have hg := HG4.out
        have hld : (l.es.drop k).length = l.es.length - k := List.length_drop
        have hes9 : RSl rEnt (fun b => w1.heap.size ≤ b) (wx.setCell ⟨g2, 5, none⟩ (.slice (some ⟨b6, off6, none⟩) (l.es.length - k) 0)) (.slice (some ⟨b6, off6, none⟩) (l.es.length - k) 0) (l.es.drop k) := RSl.kp (hk.mono fun b hb => by omega) (by have h := HRD.out; rw [hcc, Nat.sub_self] at h; exact h)
        have hsd9 := RSl.kp (hk.mono fun b (hb : w1.heap.size ≤ b) => by omega) HV5.out
        refine ⟨rfl, ⟨l.term, l.vote, en.idx, en.term, o.b.take 200, l.es.drop k⟩, A8, q8, (some ⟨b6, off6, none⟩), 0, Lib.hid ?_, Lib.hid ⟨?_, ?_, hlf.1, hlf.2.1, ht.2, ht.1⟩, Lib.hid p3, Lib.hid (.inl ⟨by show (l.es.drop k).length ≤ _; omega, ?_⟩), p4⟩
        · show Blk _ g2 _ (vlCs _ (.slice A8 (o.b.take 200).length q8) (.slice (some ⟨b6, off6, none⟩) (l.es.drop k).length 0))
          rw [hld, HOB.out]
          exact p0
        · show RB _ _ (.slice A8 (o.b.take 200).length q8) (o.b.take 200)
          rw [HOB.out]
          exact hsd9
        · show RSl rEnt _ _ (.slice (some ⟨b6, off6, none⟩) (l.es.drop k).length 0) (l.es.drop k)
          rw [hld]
          exact hes9
        · show (o.b.take 200).length + datS (l.es.drop k) ≤ _
          have := datS_td l.es k
          have hob := HOB.out
          have hmb := HMB.out
          unfold datL
          omega
      · rw [if_neg hcc] at hrd
        have HRD := Lib.hid hrd
        clear hrd
        go_wp2
        go_meet
        have hk : Kp (fun b => b ≠ g2) wx (wx.setCell ⟨g2, 5, none⟩ (.slice (some ⟨b6, off6 + k * 3, none⟩) (l.es.length - k) (c4 - k))) := (Kp.refl _ _).setCell (fun _ h => h rfl) _
        obtain ⟨p1, p2, p3, p4⟩ := HKEEP.out _ (HKKX.out.trans hk)
        have p0 := HL9.out.set_ 5 (.slice (some ⟨b6, off6 + k * 3, none⟩) (l.es.length - k) (c4 - k))
        have hlf := HLF.out
        have ht := HT.out
        have hg := HG4.out
        have hld : (l.es.drop k).length = l.es.length - k := List.length_drop
        have hes9 : RSl rEnt (fun b => w1.heap.size ≤ b) (wx.setCell ⟨g2, 5, none⟩ (.slice (some ⟨b6, off6 + k * 3, none⟩) (l.es.length - k) (c4 - k))) (.slice (some ⟨b6, off6 + k * 3, none⟩) (l.es.length - k) (c4 - k)) (l.es.drop k) := RSl.kp (hk.mono fun b hb => by omega) (by have h := HRD.out; simp only [Option.map_some, Addr.add] at h; rw [if_neg (by omega)] at h; exact h)
        have hsd9 := RSl.kp (hk.mono fun b (hb : w1.heap.size ≤ b) => by omega) HV5.out
        refine ⟨rfl, ⟨l.term, l.vote, en.idx, en.term, o.b.take 200, l.es.drop k⟩, A8, q8, (some ⟨b6, off6 + k * 3, none⟩), (c4 - k), Lib.hid ?_, Lib.hid ⟨?_, ?_, hlf.1, hlf.2.1, ht.2, ht.1⟩, Lib.hid p3, Lib.hid (.inl ⟨by show (l.es.drop k).length ≤ _; omega, ?_⟩), p4⟩
        · show Blk _ g2 _ (vlCs _ (.slice A8 (o.b.take 200).length q8) (.slice (some ⟨b6, off6 + k * 3, none⟩) (l.es.drop k).length (c4 - k)))
          rw [hld, HOB.out]
          exact p0
        · show RB _ _ (.slice A8 (o.b.take 200).length q8) (o.b.take 200)
          rw [HOB.out]
          exact hsd9
        · show RSl rEnt _ _ (.slice (some ⟨b6, off6 + k * 3, none⟩) (l.es.drop k).length (c4 - k)) (l.es.drop k)
          rw [hld]
          exact hes9
        · show (o.b.take 200).length + datS (l.es.drop k) ≤ _
          have := datS_td l.es k
          have hob := HOB.out
          have hmb := HMB.out
          unfold datL
          omega
    · have z1 : (kd == 1) = false := by simpa using h1
      have z2 : (kd == 2) = false := by simpa using h2
      have z3 : (kd == 3) = false := by simpa using h3
      have z4 : (kd == 4) = false := by simpa using h4
      have z5 : decide (kd = 1) = false := decide_eq_false h1
      have z6 : decide (kd = 2) = false := decide_eq_false h2
      have z7 : decide (kd = 3) = false := decide_eq_false h3
      have z8 : decide (kd = 4) = false := decide_eq_false h4
      clear h1 h2 h3 h4 x0 x1 x5 HY1 y1
      have hrg : wz.rangeAt g3 3 T2.toList := HKZ.out.2.1.rangeW 3 _ fun j v hv => by
        rw [HT2.out] at hv
        rw [HO1.out]
        match j, hv with
        | 0, hv => exact hv
        | 1, hv => exact hv
        | 2, hv => exact hv
        | 3, hv => exact hv
        | 4, hv => exact hv
        | 5, hv => exact hv
        | j + 6, hv => simp [vlCs] at hv
      go_upto_region 7 with fail
      refine wp_region_split 1 ?_
      simp only [List.take_succ_cons, List.take_zero, List.drop_succ_cons, List.drop_zero]
      go_wp2
      show wpList _ _ _ _ _ _
      refine wpList_ld (g := g3) (k := 3) (cs := T2) rfl rfl rfl hrg Tryz.underlying30 rfl hinf2 ?_
      refine wpList_split 1 ?_
      simp only [List.take_succ_cons, List.take_zero, List.drop_succ_cons, List.drop_zero]
      go_wp2_with fail
      refine (HCO.out _ hBz).mono ?_
      rintro e w5 ⟨⟨u1, u2, rfl, hm5⟩, hb5⟩
      obtain ⟨B5, d5, rfl, _⟩ := hm5.sd.form
      obtain ⟨B6, d6, rfl, _⟩ := hm5.es.form
      have HM5 := Lib.hid hm5
      clear hm5
      go_wp2
      show wpList _ _ _ _ _ _
      refine wpList_st rfl rfl (vlCs o.l (.slice B5 o.l.sd.length d5) (.slice B6 o.l.es.length d6)) rfl rfl (HKZ.out.1.below hb5 HKZ.out.1.lt) rfl Tryz.infoLog (vl_all _ _ _ _ _ _ _) ?_ rfl
      intro k9
      have hK9 : Kp (fun b => ¬ b = g2) w5 (World.setCells w5 g2 0 (vlCs o.l (.slice B5 o.l.sd.length d5) (.slice B6 o.l.es.length d6)).toList) := Kp.setCells (b := g2) (fun _ h => h rfl) _ 0 (Kp.refl _ _)
      generalize hwz : World.setCells w5 g2 0 (vlCs o.l (.slice B5 o.l.sd.length d5) (.slice B6 o.l.es.length d6)).toList = wx at k9 hK9 ⊢
      clear hwz
      have HK9 := Lib.hid hK9
      have HL9 := Lib.hid k9
      have hz5 := hb5.size
      clear hK9 k9 hrg
      go_wp2
      go_meet
      have hg := HG4.out
      obtain ⟨p1, p2, p3, p4⟩ := HKEEP.out wx ((Kp.of_below hb5).trans HK9.out)
      exact ⟨rfl, o.l, B5, d5, B6, d6, HL9, Lib.hid ((HM5.out.kp (HK9.out.mono fun b (hb : wz.heap.size ≤ b) => by omega)).mono fun b (hb : wz.heap.size ≤ b) _ => by omega), Lib.hid p3, Lib.hid (.inr rfl), p4⟩
  obtain ⟨rfl, t, a1, b1, a2, b2, HK2, HM2, HK4, HCH, hBc⟩ := hcut
  obtain ⟨wd, rfl⟩ : ∃ wd, wd = wc := ⟨_, rfl⟩
  obtain ⟨TT, hTT⟩ : ∃ T : Array Value, T = vlCs t (.slice a1 t.sd.length b1) (.slice a2 t.es.length b2) := ⟨_, rfl⟩
  have hinfT : (Tryz.prog.info? 30).map (·.size) = some TT.size := by rw [hTT]; exact Tryz.infoLog
  have hallT : TT.all (·.oneCell') = true := by rw [hTT]; exact vl_all _ _ _ _ _ _ _
  have hszT : TT.size = 6 := by rw [hTT]; rfl
  have hk2 := HK2.out
  rw [← hTT] at hk2
  have HTT := Lib.hid hTT
  have HG4' := HG4
  clear hTT
  go_upto_region 24 with fail
  refine wp_region_lit ?_
  refine wpList_ld (g := g2) (k := 0) (cs := TT) rfl rfl rfl hk2.range Tryz.underlying30 rfl hinfT ?_
  refine wpList_st rfl rfl TT rfl rfl HK4.out (by rw [hszT]; rfl) hinfT hallT ?_ rfl
  intro k9
  have hK9 : Kp (fun b => ¬ b = g4) wd (World.setCells wd g4 0 TT.toList) := Kp.setCells (b := g4) (fun _ h => h rfl) _ 0 (Kp.refl _ _)
  generalize hwz : World.setCells wd g4 0 TT.toList = we at k9 hK9 ⊢
  clear hwz hk2
  have lv := k9.loadVar (P := Tryz.prog) Tryz.underlying30 rfl hinfT
  have HK9 := Lib.hid hK9
  clear hK9 k9
  go_wp2
  have hg := HG4.out
  refine bodyPost_ret (v := .agg TT) ?_ rfl ⟨⟨t, .slice a1 t.sd.length b1, .slice a2 t.es.length b2, by rw [HTT.out], ?_, HCH.out⟩, hBc.trans (HK9.out.below hBc.size fun b hb => by omega)⟩
  · simp [results, Tryz.results24, Act.put, Sem.run_bind, Sem.run_pure, asAddr_ok, lv]
  · have := HM2.out.kp (HK9.out.mono fun b (hb : w1.heap.size ≤ b) => by omega)
    exact this.mono fun b (hb : w1.heap.size ≤ b) _ => by omega
end Go.Proofs.YtnlhjhpikjmoaaaGreatDoor
namespace Go.Proofs.YtnlhjhpikjmoaaaGreatDoor
open Go.RowKit
def PBd (i : Nat) (l : VLog) : Prop := l.es.length ≤ 400 + 4 * i ∧ datL l ≤ 131072 + 1000 * i ∧ l.si ≤ 4611686018427387904
def PBx (gD gU gM gL gV gW W : Nat) : Prop := W ≤ gD ∧ gD < gV ∧ gV < gL ∧ gL < gM ∧ gM < gU ∧ gU < gW
def isB (gD gU gM gL gV gW x : Nat) : Prop := x = gD ∨ x = gV ∨ x = gL ∨ x = gM ∨ x = gU ∨ x = gW
structure PBox (gD gU gM gL gV gW gd W : Nat) (F : Nat → Prop) (w : World) (i : Nat) (dn : Bool) (vp : Value) (l t : VLog) (a b a' b' : Value) (M : Array Value) : Prop where
  bx : PBx gD gU gM gL gV gW W
  ff : ∀ x, F x → W ≤ x ∧ x < w.heap.size ∧ ¬ isB gD gU gM gL gV gW x
  kD : Blk w gD 46 #[.pointer (some ⟨gd, 0, none⟩)]
  kU : Blk w gU 4 #[.bool dn]
  kM : Blk w gM 30 M
  kL : Blk w gL 30 (vlCs l a b)
  kV : Blk w gV 35 #[vp]
  kW : Blk w gW 4 #[.bool dn]
  M6 : M.size = 6
  vl : VLm (fun x => ¬ F x ∧ ¬ isB gD gU gM gL gV gW x) w a b l
  vm : dn = true → M = vlCs t a' b' ∧ VLm (fun x => ¬ F x ∧ ¬ isB gD gU gM gL gV gW x) w a' b' t
  bl : PBd i l
  bt : PBd i t
  eq : dn = false → t = l
def PSt (gD gU gM gL gV gW gd n W : Nat) (w : World) (i : Nat) (dn : Bool) : Prop :=
  ∃ (F : Nat → Prop) (gv : Nat) (l t : VLog) (a b a' b' : Value) (M : Array Value), PBox gD gU gM gL gV gW gd W F w i dn (.pointer (some ⟨gv, 0, none⟩)) l t a b a' b' M ∧ (dn = false → VltX F w gv gd n (2 + 4 * i) l) ∧ (dn = true → VltD F w gv gd n (2 + 4 * i) l t)
def POs (gD gU gM gL gV gW gd n W : Nat) (w : World) (i : Nat) : Prop :=
  ∃ (F : Nat → Prop) (dn : Bool) (vp : Value) (l t : VLog) (a b a' b' : Value) (M : Array Value), PBox gD gU gM gL gV gW gd W F w i dn vp l t a b a' b' M ∧ DiskO F w gd n (2 + 4 * i) l t
section
variable {gD gU gM gL gV gW gd n W i j : Nat} {F : Nat → Prop} {w w' : World} {dn : Bool} {vp : Value} {l t : VLog} {a b a' b' : Value} {M : Array Value}
theorem PBd.later (h : PBd i l) (hj : i ≤ j) : PBd j l := ⟨by have := h.1; omega, by have := h.2.1; omega, h.2.2⟩
theorem PBox.later (h : PBox gD gU gM gL gV gW gd W F w i dn vp l t a b a' b' M) (hj : i ≤ j) : PBox gD gU gM gL gV gW gd W F w j dn vp l t a b a' b' M := { h with bl := h.bl.later hj, bt := h.bt.later hj }
theorem PBox.box (h : PBox gD gU gM gL gV gW gd W F w i dn vp l t a b a' b' M) {x : Nat} (hx : isB gD gU gM gL gV gW x) : x < w.heap.size ∧ ¬ F x := ⟨by
  rcases hx with rfl | rfl | rfl | rfl | rfl | rfl
  · exact h.kD.lt
  · exact h.kV.lt
  · exact h.kL.lt
  · exact h.kM.lt
  · exact h.kU.lt
  · exact h.kW.lt, fun hf => (h.ff x hf).2.2 hx⟩
theorem vl_newer (hl : VLm (fun x => ¬ F x ∧ ¬ isB gD gU gM gL gV gW x) w a b l) (hk : Kp (fun x => ¬ F x) w w') : VLm (fun x => ¬ (F x ∨ (w.heap.size ≤ x ∧ x < w'.heap.size)) ∧ ¬ isB gD gU gM gL gV gW x) w' a b l := by
  have h1 := hl.mono (ok' := fun x => x < w.heap.size ∧ ¬ F x ∧ ¬ isB gD gU gM gL gV gW x) fun x hx hlt => ⟨hlt, hx⟩
  exact (h1.kp (hk.mono fun x hx => hx.2.1)).mono fun x hx _ => ⟨fun hh => hh.elim hx.2.1 fun hh => by omega, hx.2.2⟩
theorem PBox.kp (h : PBox gD gU gM gL gV gW gd W F w i dn vp l t a b a' b' M) (hk : Kp (fun x => ¬ F x) w w') : PBox gD gU gM gL gV gW gd W (fun x => F x ∨ (w.heap.size ≤ x ∧ x < w'.heap.size)) w' i dn vp l t a b a' b' M := by
  have hz := hk.size
  have hD := h.box (x := gD) (by simp [isB])
  have hU := h.box (x := gU) (by simp [isB])
  have hM := h.box (x := gM) (by simp [isB])
  have hL := h.box (x := gL) (by simp [isB])
  have hV := h.box (x := gV) (by simp [isB])
  have hW := h.box (x := gW) (by simp [isB])
  have hb := h.bx
  unfold PBx at hb
  refine ⟨h.bx, fun x hx => ?_, h.kD.kp hk hD.2, h.kU.kp hk hU.2, h.kM.kp hk hM.2, h.kL.kp hk hL.2, h.kV.kp hk hV.2, h.kW.kp hk hW.2, h.M6, vl_newer h.vl hk, fun hd => ⟨(h.vm hd).1, vl_newer (h.vm hd).2 hk⟩, h.bl, h.bt, h.eq⟩
  rcases hx with hx | hx
  · have := h.ff x hx
    exact ⟨this.1, by omega, this.2.2⟩
  · exact ⟨by omega, hx.2, fun hh => by have := (h.box hh).1; omega⟩
theorem PBox.below (h : PBox gD gU gM gL gV gW gd W F w i dn vp l t a b a' b' M) (hb : Below w.heap.size w w') : PBox gD gU gM gL gV gW gd W F w' i dn vp l t a b a' b' M :=
  ⟨h.bx, fun x hx => ⟨(h.ff x hx).1, Nat.lt_of_lt_of_le (h.ff x hx).2.1 hb.size, (h.ff x hx).2.2⟩, h.kD.below hb h.kD.lt, h.kU.below hb h.kU.lt, h.kM.below hb h.kM.lt, h.kL.below hb h.kL.lt, h.kV.below hb h.kV.lt, h.kW.below hb h.kW.lt, h.M6, h.vl.below hb, fun hd => ⟨(h.vm hd).1, (h.vm hd).2.below hb⟩, h.bl, h.bt, h.eq⟩
theorem PBox.bel (h : PBox gD gU gM gL gV gW gd W F w i dn vp l t a b a' b' M) (hk : Kp (fun x => ¬ F x) w w') : Below W w w' :=
  hk.below (by have := h.kD.lt; have := h.bx; unfold PBx at this; omega) fun x hx hf => by have := (h.ff x hf).1; omega
theorem PSt.below (h : PSt gD gU gM gL gV gW gd n W w i dn) (hb : Below w.heap.size w w') : PSt gD gU gM gL gV gW gd n W w' i dn := by
  obtain ⟨F, gv, l, t, a, b, a', b', M, h1, h2, h3⟩ := h
  exact ⟨F, gv, l, t, a, b, a', b', M, h1.below hb, fun hd => (h2 hd).below hb, fun hd => (h3 hd).below hb⟩
theorem PSt.later (h : PSt gD gU gM gL gV gW gd n W w i dn) (hj : i ≤ j) : PSt gD gU gM gL gV gW gd n W w j dn := by
  obtain ⟨F, gv, l, t, a, b, a', b', M, h1, h2, h3⟩ := h
  exact ⟨F, gv, l, t, a, b, a', b', M, h1.later hj, fun hd => (h2 hd).later (by omega), fun hd => (h3 hd).later (by omega)⟩
theorem PSt.o (h : PSt gD gU gM gL gV gW gd n W w i dn) (hn : n ≤ 65536) : POs gD gU gM gL gV gW gd n W w i := by
  obtain ⟨F, gv, l, t, a, b, a', b', M, h1, h2, h3⟩ := h
  refine ⟨F, dn, _, l, t, a, b, a', b', M, h1, ?_⟩
  cases dn
  · have := (h2 rfl).o hn
    rw [h1.eq rfl]
    exact this
  · exact (h3 rfl).o
theorem PSt.kD (h : PSt gD gU gM gL gV gW gd n W w i dn) : Blk w gD 46 #[.pointer (some ⟨gd, 0, none⟩)] := by
  obtain ⟨F, gv, l, t, a, b, a', b', M, h1, h2, h3⟩ := h
  exact h1.kD
theorem DiskO.newer (h : DiskO F w gd n i l t) : DiskO (fun x => F x ∨ (w'.heap.size ≤ x ∧ x < w.heap.size)) w gd n i l t := by
  obtain ⟨f, T, first, cut, sf, us, h1, h2⟩ := h
  exact ⟨f, T, first, cut, sf, us, fun x hx => .inl (h1 x hx), h2⟩
theorem pst_arm (h : PSt gD gU gM gL gV gW gd n W w i dn) (x : Int) (hx : I64 x) :
    Calls Tryz.prog 23 #[.pointer (some ⟨gd, 0, none⟩), .int .i64 x] w fun e w' => e = .returned (.int .i64 0) ∧ PSt gD gU gM gL gV gW gd n W w' i dn ∧ Below W w w' := by
  obtain ⟨F, gv, l, t, a, b, a', b', M, h1, h2, h3⟩ := h
  cases dn
  · refine (arm_VX (h2 rfl) x hx).mono ?_
    rintro e w' ⟨rfl, hV, hK⟩
    exact ⟨rfl, ⟨_, gv, l, t, a, b, a', b', M, h1.kp hK, fun _ => hV.wide fun x hx => .inl hx, fun h => (by cases h)⟩, h1.bel hK⟩
  · refine (arm_VD (h3 rfl) x hx).mono ?_
    rintro e w' ⟨rfl, hV, hK⟩
    exact ⟨rfl, ⟨_, gv, l, t, a, b, a', b', M, h1.kp hK, fun h => (by cases h), fun _ => hV.wide fun x hx => .inl hx⟩, h1.bel hK⟩
theorem pst_crash (h : PSt gD gU gM gL gV gW gd n W w i dn) (hn : n ≤ 65536) (hc : 2 + 4 * i < 256) (v : Value) (keep : List Int) (hkp : RSl rInt (fun b => b < W) w v keep) :
    Calls Tryz.prog 20 #[.pointer (some ⟨gd, 0, none⟩), v] w fun e w' => e = .returned (.int .i64 0) ∧ POs gD gU gM gL gV gW gd n W w' i ∧ Blk w' gD 46 #[.pointer (some ⟨gd, 0, none⟩)] ∧ Below W w w' := by
  obtain ⟨F, gv, l, t, a, b, a', b', M, h1, h2, h3⟩ := h
  cases dn
  · refine (crash_VX (h2 rfl) hn hc v keep hkp fun b hb hf => by have := (h1.ff b hf).1; omega).mono ?_
    rintro e w' ⟨rfl, hO, hK⟩
    rw [← h1.eq rfl] at hO
    have hO : DiskO F w' gd n (2 + 4 * i) l t := by
      have := h1.eq rfl
      subst this
      exact hO
    exact ⟨rfl, ⟨_, false, _, l, t, a, b, a', b', M, h1.kp hK, hO.newer⟩, (h1.kp hK).kD, h1.bel hK⟩
  · refine (crash_VD (h3 rfl) hc v keep hkp fun b hb hf => by have := (h1.ff b hf).1; omega).mono ?_
    rintro e w' ⟨rfl, hO, hK⟩
    exact ⟨rfl, ⟨_, true, _, l, t, a, b, a', b', M, h1.kp hK, hO.newer⟩, (h1.kp hK).kD, h1.bel hK⟩
theorem po_open (h : POs gD gU gM gL gV gW gd n W w i) (hn : n ≤ 65536) (hc : i ≤ 60) :
    Calls Tryz.prog 22 #[.pointer (some ⟨gD, 0, none⟩), .pointer (some ⟨gU, 0, none⟩), .pointer (some ⟨gM, 0, none⟩), .pointer (some ⟨gL, 0, none⟩), .pointer (some ⟨gV, 0, none⟩), .pointer (some ⟨gW, 0, none⟩)] w fun e w' => e = .returned (.bool true) ∧ PSt gD gU gM gL gV gW gd n W w' (i + 1) false ∧ Below W w w' := by
  obtain ⟨F, dn, vp, l, t, a, b, a', b', M, h1, hO⟩ := h
  have hD := h1.box (x := gD) (by simp [isB])
  have hU := h1.box (x := gU) (by simp [isB])
  have hM := h1.box (x := gM) (by simp [isB])
  have hL := h1.box (x := gL) (by simp [isB])
  have hV := h1.box (x := gV) (by simp [isB])
  have hW := h1.box (x := gW) (by simp [isB])
  have hb := h1.bx
  unfold PBx at hb
  refine (popen_any (ok := fun x => x < w.heap.size ∧ ¬ F x ∧ ¬ isB gD gU gM gL gV gW x) (un := dn) (dn := dn) hO hn (by omega) (fun x hx => (h1.ff x hx).2.1) h1.kD h1.kU h1.kM h1.kL h1.kV h1.kW (h1.vl.mono fun x hx hlt => ⟨hlt, hx⟩) (fun hd => ⟨(h1.vm hd).1, (h1.vm hd).2.mono fun x hx hlt => ⟨hlt, hx⟩⟩) h1.M6 h1.eq ⟨hD.2, hU.2, hM.2, hL.2, hV.2, hW.2⟩ ⟨by omega, by omega, by omega, by omega⟩ ⟨by omega, by omega, by omega⟩ (fun x hx => ⟨hx.2.1, fun e => hx.2.2 (by simp [isB, e]), fun e => hx.2.2 (by simp [isB, e]), fun e => hx.2.2 (by simp [isB, e]), fun e => hx.2.2 (by simp [isB, e])⟩) ⟨by have := h1.bl.1; omega, by have := h1.bt.1; omega⟩).mono ?_
  rintro e w' ⟨rfl, ⟨l', gv, c, d, hl', k1, k2, k3, k4, k5, k6⟩, hK⟩
  have hz := hK.size
  have hbd : PBd i l' := by
    rcases hl' with rfl | rfl
    · exact h1.bl
    · exact h1.bt
  have hf2 : ∀ x, (F x ∨ (w.heap.size ≤ x ∧ x < w'.heap.size)) → W ≤ x ∧ x < w'.heap.size ∧ ¬ isB gD gU gM gL gV gW x := fun x hx => by
    rcases hx with hx | hx
    · have := h1.ff x hx
      exact ⟨this.1, by omega, this.2.2⟩
    · exact ⟨by omega, hx.2, fun hh => by have := (h1.box hh).1; omega⟩
  have hk2 : VLm (fun x => ¬ (F x ∨ (w.heap.size ≤ x ∧ x < w'.heap.size)) ∧ ¬ isB gD gU gM gL gV gW x) w' c d l' := k2.mono fun x hx _ => ⟨fun hh => hh.elim hx.2.1 fun hh => by omega, hx.2.2⟩
  refine ⟨rfl, ⟨_, gv, l', l', c, d, c, d, M, ⟨h1.bx, hf2, h1.kD.kp hK ⟨hD.2, by omega, by omega, by omega, by omega⟩, k4, h1.kM.kp hK ⟨hM.2, by omega, by omega, by omega, by omega⟩, k1, k3, k5, h1.M6, hk2, fun h => (by cases h), hbd.later (by omega), hbd.later (by omega), fun _ => rfl⟩, fun _ => ?_, fun h => (by cases h)⟩, hK.below (by omega) fun x hx => ⟨fun hf => by have := (h1.ff x hf).1; omega, by omega, by omega, by omega, by omega⟩⟩
  rw [show 2 + 4 * (i + 1) = 2 + 4 * i + 4 by omega]
  exact k6
end
end Go.Proofs.YtnlhjhpikjmoaaaGreatDoor
namespace Go.Proofs.YtnlhjhpikjmoaaaGreatDoor
open Go.RowKit
theorem wpList_ldG {P : Program} {ops : Array Oper} {rest : List Oper} {o : Oper} {a : Act} {w : World} {Q : Exit → Act → World → Prop} {g : Nat} {T : TypeId} {C : Array Value} (hw : Region.wanted o (yielded ops a.tmps) = true) {ty : TypeId} {x : Operand} (ho : o.op = .load ty x) (hx : a.eval x = .pointer (some ⟨g, 0, none⟩)) (hk : Blk w g T C) {d : TypeDesc} (hu : P.underlying ty = some d) (hd : d.isRow = true) (hi : (P.info? ty).map (·.size) = some C.size)
    (h : wpList P ops Q rest (a.put o.dst (.agg C)) w) : wpList P ops Q (o :: rest) a w := by
  unfold wpList
  rw [if_pos hw]
  have := wp_load_mid (P := P) (op := o) (a := a) (w := w) (K := wpList P ops Q rest) (Q := Q) ty x ho g 0 hx C.toList d hk.range hu hd (by simpa using hi)
  exact .inl (this (by simpa using h))
def PStA (gD gU gM gL gV gW gd n W : Nat) (w : World) (i : Nat) : Prop := ∃ dn : Bool, PSt gD gU gM gL gV gW gd n W w i dn
def POut (F : Nat → Prop) (w w' : World) (gv gd n i : Nat) (dn : Bool) (l t t2 : VLog) (v : Value) (cd : Int) : Prop :=
  Kp (fun x => ¬ F x) w w' ∧ ((v = .nilIface ∧ cd = 0) ∨ (ErrV 2 w' v cd ∧ cd ≠ 0)) ∧
    ((cd = 9 ∧ rightV t2 = false ∧ (dn = false → VltX (fun x => F x ∨ (w.heap.size ≤ x ∧ x < w'.heap.size)) w' gv gd n (2 + 4 * (i + 1)) l) ∧ (dn = true → VltD (fun x => F x ∨ (w.heap.size ≤ x ∧ x < w'.heap.size)) w' gv gd n (2 + 4 * (i + 1)) l t)) ∨
     (cd = 3 ∧ rightV t2 = true ∧ dn = true ∧ VltD (fun x => F x ∨ (w.heap.size ≤ x ∧ x < w'.heap.size)) w' gv gd n (2 + 4 * (i + 1)) l t) ∨
     (cd = 0 ∧ rightV t2 = true ∧ dn = false ∧ VltX (fun x => F x ∨ (w.heap.size ≤ x ∧ x < w'.heap.size)) w' gv gd n (2 + 4 * (i + 1)) t2) ∨
     (cd = 4 ∧ rightV t2 = true ∧ dn = false ∧ (n - 2) / 3 < secSum (recordsV VLog.zero t2 .beg) ∧ VltX (fun x => F x ∨ (w.heap.size ≤ x ∧ x < w'.heap.size)) w' gv gd n (2 + 4 * (i + 1)) l) ∨
     (cd = 3 ∧ rightV t2 = true ∧ dn = false ∧ VltD (fun x => F x ∨ (w.heap.size ≤ x ∧ x < w'.heap.size)) w' gv gd n (2 + 4 * (i + 1)) l t2))
theorem pput_any {ok F : Nat → Prop} {w : World} {gv gd n i : Nat} {dn : Bool} {l t t2 : VLog} {usd ues : Value} (hX : dn = false → VltX F w gv gd n (2 + 4 * i) l) (hD : dn = true → VltD F w gv gd n (2 + 4 * i) l t) (hF : ∀ x, F x → x < w.heap.size) (ht : VLm ok w usd ues t2) (hok : ∀ b, ok b → ¬ F b) (hn : n ≤ 65536) (hn3 : 3 ≤ n) (hi : i ≤ 60) (htl : t2.es.length ≤ 100000) (h0F : ¬ F 0) (hg0 : w.cell? ⟨0, 0, none⟩ = some (.iface 149 (.agg #[.pointer (some ⟨1, 37, none⟩)]))) :
    Calls Tryz.prog 16 #[.pointer (some ⟨gv, 0, none⟩), .agg (vlCs t2 usd ues)] w fun e w' => ∃ v cd, e = .returned v ∧ POut F w w' gv gd n i dn l t t2 v cd := by
  cases dn
  · refine (vputX_any (hX rfl) hF ht hok hn hn3 (by omega) htl h0F hg0).mono ?_
    rintro e w' ⟨v, rfl, hK, hc⟩
    rcases hc with ⟨h1, h2, h3⟩ | ⟨h1, rfl, h3⟩ | ⟨h1, h2, h3, h4⟩ | ⟨h1, h2, h3⟩
    · exact ⟨v, 9, rfl, hK, .inr ⟨h2, by decide⟩, .inl ⟨rfl, h1, fun _ => h3.later (by omega), fun h => (by cases h)⟩⟩
    · exact ⟨_, 0, rfl, hK, .inl ⟨rfl, rfl⟩, .inr (.inr (.inl ⟨rfl, h1, rfl, h3.later (by omega)⟩))⟩
    · exact ⟨v, 4, rfl, hK, .inr ⟨h2, by decide⟩, .inr (.inr (.inr (.inl ⟨rfl, h1, rfl, h3, h4.later (by omega)⟩)))⟩
    · exact ⟨v, 3, rfl, hK, .inr ⟨h2, by decide⟩, .inr (.inr (.inr (.inr ⟨rfl, h1, rfl, h3.later (by omega)⟩)))⟩
  · refine (vputD_any (hD rfl) hF ht).mono ?_
    rintro e w' ⟨⟨v, rfl, hc⟩, hb⟩
    have hd : VltD (fun x => F x ∨ (w.heap.size ≤ x ∧ x < w'.heap.size)) w' gv gd n (2 + 4 * (i + 1)) l t := (((hD rfl).below hb).wide fun x hx => .inl hx).later (by omega)
    rcases hc with ⟨h1, h2⟩ | ⟨h1, h2⟩
    · exact ⟨v, 9, rfl, .of_below hb, .inr ⟨h2, by decide⟩, .inl ⟨rfl, h1, fun h => (by cases h), fun _ => hd⟩⟩
    · exact ⟨v, 3, rfl, .of_below hb, .inr ⟨h2, by decide⟩, .inr (.inl ⟨rfl, h1, rfl, hd⟩)⟩
theorem chg_bd {i : Nat} {l t : VLog} {o : Op7} (hl : PBd i l) (h : Chg l o t) (ho : o.l.es.length < 400 ∧ o.l.sd.length + datS o.l.es < 131072) : t.es.length ≤ 400 + 4 * (i + 1) ∧ datL t ≤ 131072 + 1000 * (i + 1) := by
  rcases h with h | rfl
  · have := hl.1
    have := hl.2.1
    omega
  · unfold datL
    omega
theorem right_si {t : VLog} (h : rightV t = true) : t.si ≤ 4611686018427387904 := by
  simp only [rightV, Bool.and_eq_true, decide_eq_true_eq] at h
  exact h.2.2.1
theorem full_size {n : Nat} {t : VLog} (hn : 2 ≤ n) (h : (n - 2) / 3 < secSum (recordsV VLog.zero t .beg)) : n * 64 < 12 * sizeV t := by
  have h2 := whole_secs t .beg (by decide)
  have h3 : 100 * t.es.length ≤ sizeV t := by unfold sizeV; rw [size_datS]; omega
  omega
end Go.Proofs.YtnlhjhpikjmoaaaGreatDoor
