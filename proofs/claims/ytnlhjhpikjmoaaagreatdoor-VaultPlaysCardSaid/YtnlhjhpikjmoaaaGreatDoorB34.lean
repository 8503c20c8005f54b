/- Contracts: VaultPlays' closure: the disk is started, and the vault opened anew. -/
import Derived.Test.YtnlhjhpikjmoaaaGreatDoorB32
namespace Go.Proofs.YtnlhjhpikjmoaaaGreatDoor
open Go.RowKit
set_option maxRecDepth 100000 in
set_option maxHeartbeats 6400000 in
theorem popen_any {ok F : Nat → Prop} {w : World} {gD gU gM gL gV gW gd n c : Nat} {l t : VLog} {un dn : Bool} {vp : Value} {M : Array Value} {asd aes bsd bes : Value} (h : DiskO F w gd n c l t) (hn : n ≤ 65536) (hc : c + 4 < 256) (hF : ∀ x, F x → x < w.heap.size)
    (kD : Blk w gD 46 #[.pointer (some ⟨gd, 0, none⟩)]) (kU : Blk w gU 4 #[.bool un]) (kM : Blk w gM 30 M) (kL : Blk w gL 30 (vlCs l asd aes)) (kV : Blk w gV 35 #[vp]) (kW : Blk w gW 4 #[.bool dn])
    (hl : VLm ok w asd aes l) (hM : un = true → M = vlCs t bsd bes ∧ VLm ok w bsd bes t) (hM6 : M.size = 6) (hu : un = false → t = l)
    (hnF : ¬ F gD ∧ ¬ F gU ∧ ¬ F gM ∧ ¬ F gL ∧ ¬ F gV ∧ ¬ F gW) (hne : gL ≠ gM ∧ gL ≠ gV ∧ gL ≠ gU ∧ gL ≠ gW) (hne2 : gV ≠ gU ∧ gV ≠ gW ∧ gU ≠ gW) (hok : ∀ b, ok b → ¬ F b ∧ b ≠ gL ∧ b ≠ gV ∧ b ≠ gU ∧ b ≠ gW) (hlen : l.es.length ≤ 1000000 ∧ t.es.length ≤ 1000000) :
    Calls Tryz.prog 22 #[.pointer (some ⟨gD, 0, none⟩), .pointer (some ⟨gU, 0, none⟩), .pointer (some ⟨gM, 0, none⟩), .pointer (some ⟨gL, 0, none⟩), .pointer (some ⟨gV, 0, none⟩), .pointer (some ⟨gW, 0, none⟩)] w fun e w' => e = .returned (.bool true) ∧
      (∃ l' gv a b, (l' = l ∨ l' = t) ∧ Blk w' gL 30 (vlCs l' a b) ∧ VLm ok w' a b l' ∧ Blk w' gV 35 #[.pointer (some ⟨gv, 0, none⟩)] ∧ Blk w' gU 4 #[.bool false] ∧ Blk w' gW 4 #[.bool false] ∧ VltX (fun x => F x ∨ (w.heap.size ≤ x ∧ x < w'.heap.size)) w' gv gd n (c + 4) l') ∧ Kp (fun b => ¬ F b ∧ b ≠ gL ∧ b ≠ gV ∧ b ≠ gU ∧ b ≠ gW) w w' := by
  obtain ⟨f, T, first, cut, sf, us, hfF, hT, hfi, hsh, hst⟩ := h
  obtain ⟨A1, c1, rfl, _, _⟩ := hl.sd.form
  obtain ⟨A2, c2, rfl, _, _⟩ := hl.es.form
  have HST := Lib.hid hst
  have HSH := Lib.hid hsh
  have HL := Lib.hid hl
  have HMM := Lib.hid hM
  have HHU := Lib.hid hu
  have HOK := Lib.hid hok
  have HKS := Lib.hid (And.intro kD (And.intro kU (And.intro kM (And.intro kL (And.intro kV kW)))))
  have cD : w.cell? ⟨gD, 0, none⟩ = some (.pointer (some ⟨gd, 0, none⟩)) := kD.cell 0
  have HNE := Lib.hid (And.intro hne (And.intro hne2 hnF))
  have HTT := Lib.hid (And.intro hT hfi)
  clear hst hsh hl hM hu hok kD kU kM kL kV kW hne hne2 hnF hT hfi
  go_enter Tryz.func22, Tryz.ntmps22
  go_wp2_with fail
  refine (HST.out w (Below.refl _ _)).mono ?_
  rintro e w1 ⟨rfl, hD1, hK1⟩
  have hz1 := hK1.size
  have hne := HNE.out
  obtain ⟨l', hl', hop⟩ := vopen_F (c := c + 4) hD1 HSH.out hn (fun x hx => Nat.lt_of_lt_of_le (hF x (hfF x hx)) hz1) (by have := HTT.out.1; omega) hc (by have := HTT.out.2; omega)
  have HOP := Lib.hid hop
  have cD1 : w1.cell? ⟨gD, 0, none⟩ = some (.pointer (some ⟨gd, 0, none⟩)) := hK1.cell (p := ⟨gD, 0, none⟩) (fun h => hne.2.2.1 (hfF _ h)) cD
  have HK1 := Lib.hid hK1
  have HL' := Lib.hid hl'
  clear hD1 hop hK1 hl' cD hne
  go_wp2_with fail
  refine HOP.out.mono ?_
  rintro e w2 ⟨⟨gv, rfl, hV2⟩, hK2⟩
  have hK02 : Kp (fun x => ¬ f x) w w2 := HK1.out.trans hK2
  have hz2 := hK02.size
  have HV2 := Lib.hid ((hV2.wide (F' := fun x => F x ∨ (w.heap.size ≤ x ∧ x < w2.heap.size)) fun x hx => hx.elim (fun h => .inl (hfF x h)) fun h => .inr (by omega)).x)
  have HK02 := Lib.hid hK02
  clear hV2 hK2 hK02 HOP cD1 HK1
  go_upto_region 4 with fail
  go_loopw [7, 8, 9] (fun va vb vi wr => va = .pointer (some ⟨gv, 0, none⟩) ∧ vb = .nilIface ∧ vi = .int .i64 0 ∧ wr = w2) (fun _ _ _ _ => 0)
  case atStart => exact ⟨rfl, rfl, rfl, rfl⟩
  case round =>
    obtain ⟨rfl, rfl, rfl, hwr⟩ := hrel
    rw [hwr]
    clear hwr
    go_wp2_with fail
    refine (code_nil w2).mono ?_
    rintro e w3 ⟨rfl, rfl⟩
    have hne := HNE.out
    have hks := HKS.out
    have hk2 := HK02.out
    have kD2 := hks.1.kp hk2 fun h => hne.2.2.1 (hfF _ h)
    have kU2 := hks.2.1.kp hk2 fun h => hne.2.2.2.1 (hfF _ h)
    have kM2 := hks.2.2.1.kp hk2 fun h => hne.2.2.2.2.1 (hfF _ h)
    have kL2 := hks.2.2.2.1.kp hk2 fun h => hne.2.2.2.2.2.1 (hfF _ h)
    have kV2 := hks.2.2.2.2.1.kp hk2 fun h => hne.2.2.2.2.2.2.1 (hfF _ h)
    have kW2 := hks.2.2.2.2.2.kp hk2 fun h => hne.2.2.2.2.2.2.2 (hfF _ h)
    have hl2 := HL.out.kp (hk2.mono fun b hb h => (HOK.out b hb).1 (hfF b h))
    have HL2 := Lib.hid hl2
    have HKS2 := Lib.hid (And.intro kV2 (And.intro kW2 (And.intro kL2 kU2)))
    have hinfM : (Tryz.prog.info? 30).map (·.size) = some M.size := by rw [hM6]; exact Tryz.infoLog
    have cU : ∀ s : Later w3, s.val.cell? ⟨gU, 0, none⟩ = some (.bool un) := Later.cell (kU2.cell 0)
    clear hne hks hk2 kD2 kV2 kW2 hl2
    go_upto_region 10 with fail
    go_cut [45] (fun v wx => ∃ q : Bool, v = .bool q ∧ Below w3.heap.size w3 wx ∧ Hid (q = true → un = true ∧ l' = t) ∧ Hid (q = false → l' = l))
    case first =>
      cases un
      · refine wp_seqL [3, 5] (by as_aux_lemma => kernel_rfl) (by as_aux_lemma => kernel_rfl) fun wA hbA => ?_
        refine seqL_pre 3 (by kernel_rfl) ?_
        simp only [List.take_succ_cons, List.take_zero, List.drop_succ_cons, List.drop_zero]
        repeat (go_big_quiet_step (fail))
        refine wpQuiet_nil ?_
        refine seqL_skip rfl ?_
        simp only [Act.put, List.setIfInBounds_toArray, List.set_cons_succ, List.set_cons_zero]
        refine seqL_pre 1 (by kernel_rfl) ?_
        simp only [List.take_succ_cons, List.take_zero, List.drop_succ_cons, List.drop_zero]
        repeat (go_big_quiet_step (fail))
        refine wpQuiet_nil ?_
        refine seqL_skip rfl ?_
        simp only [Act.put, List.setIfInBounds_toArray, List.set_cons_succ, List.set_cons_zero]
        refine seqL_pre 1 (by kernel_rfl) ?_
        simp only [List.take_succ_cons, List.take_zero, List.drop_succ_cons, List.drop_zero]
        repeat (go_big_quiet_step (fail))
        refine wpQuiet_nil ?_
        refine seqL_nil ?_
        clear cU
        go_wp2
        go_meet
        have hlt : l' = l := by
          rcases HL'.out with h | h
          · exact h
          · rw [h]
            exact HHU.out (by first | rfl | trivial)
        first
          | exact ⟨false, rfl, hbA, Lib.hid fun h => (by cases h), Lib.hid fun _ => hlt⟩
          | exact ⟨hbA, Lib.hid fun h => (by cases h), Lib.hid fun _ => hlt⟩
      · obtain ⟨hMe, hMv⟩ := HMM.out rfl
        obtain ⟨B1, d1, rfl, _, _⟩ := hMv.sd.form
        obtain ⟨B2, d2, rfl, _, _⟩ := hMv.es.form
        have HMV := Lib.hid (hMv.kp (HK02.out.mono fun b hb h => (HOK.out b hb).1 (hfF b h)))
        have HME := Lib.hid hMe
        clear hMe hMv
        refine wp_seqL [3, 5] (by as_aux_lemma => kernel_rfl) (by as_aux_lemma => kernel_rfl) fun wA hbA => ?_
        refine seqL_pre 3 (by kernel_rfl) ?_
        simp only [List.take_succ_cons, List.take_zero, List.drop_succ_cons, List.drop_zero]
        repeat (go_big_quiet_step (fail))
        refine wpQuiet_nil ?_
        have HVL : Hid (Calls Tryz.prog 17 #[.pointer (some ⟨gv, 0, none⟩)] wA fun e w' => (∃ vsd' ves', e = .returned (.agg (vlCs l' vsd' ves')) ∧ VLm (fun b => wA.heap.size ≤ b) w' vsd' ves' l') ∧ Below wA.heap.size wA w') := by
          obtain ⟨f', gl', T', first', recs', vsd', ves', _, _, _, _, _, hbB, _, hmB, _, _, hleB⟩ := HV2.out.below hbA
          exact Lib.hid (vlog_any hbB hmB (by omega))
        refine seqL_wild hbA rfl rfl fun K hK => ?_
        unfold Gives
        go_simp
        refine HVL.out.mono ?_
        rintro e wB ⟨⟨v3, e3, rfl, hm3⟩, hbB⟩
        obtain ⟨A3, c3, rfl, _⟩ := hm3.sd.form
        obtain ⟨A4, c4, rfl, _⟩ := hm3.es.form
        obtain ⟨U, hU⟩ : ∃ U : Array Value, U = vlCs l' (.slice A3 l'.sd.length c3) (.slice A4 l'.es.length c4) := ⟨_, rfl⟩
        rw [← hU]
        have HU := Lib.hid hU
        have HM3 := Lib.hid hm3
        clear hU hm3 HVL
        refine ⟨_, rfl, hK _ _ (hbB) fun hbB' => ?_⟩
        clear hK
        clear K
        simp only [Act.put, List.setIfInBounds_toArray, List.set_cons_succ, List.set_cons_zero]
        refine seqL_still (.agg M) rfl rfl (fun s => still_ld (g := gM) (k := 0) rfl rfl (kM2.below s.below kM2.lt).range Tryz.underlying30 rfl hinfM) ?_
        have HLG := Lib.hid (log_any HM3.out (HMV.out.below hbB'))
        rw [← HME.out, ← HU.out] at HLG
        refine seqL_wild hbB' rfl rfl fun K hK => ?_
        unfold Gives
        go_simp
        refine HLG.out.mono ?_
        rintro e wC ⟨rfl, hbC⟩
        obtain ⟨q, hq⟩ : ∃ q, q = sameV l' t := ⟨_, rfl⟩
        rw [← hq]
        have HQ := Lib.hid hq
        clear hq HLG
        refine ⟨_, rfl, hK _ _ (hbC) fun hbC' => ?_⟩
        clear hK
        clear K
        simp only [Act.put, List.setIfInBounds_toArray, List.set_cons_succ, List.set_cons_zero]
        refine seqL_pre 1 (by kernel_rfl) ?_
        simp only [List.take_succ_cons, List.take_zero, List.drop_succ_cons, List.drop_zero]
        repeat (go_big_quiet_step (fail))
        refine wpQuiet_nil ?_
        refine seqL_nil ?_
        have HBC := Lib.hid hbC'
        clear hbA hbB hbB' hbC hbC' cU
        go_wp2
        go_meet
        refine ⟨q, rfl, HBC.out, Lib.hid fun h => ⟨by first | rfl | trivial, (sameV_iff l' t).1 (by rw [← HQ.out, h])⟩, Lib.hid fun h => ?_⟩
        rcases HL'.out with h2 | h2
        · exact h2
        · have := (sameV_iff l' t).2 h2
          rw [← HQ.out, h] at this
          cases this
    obtain ⟨q, rfl, hbc, HQ1, HQ0⟩ := hcut
    obtain ⟨w4, rfl⟩ : ∃ w4, w4 = wc := ⟨_, rfl⟩
    have hz4 := hbc.size
    have HM4 := Lib.hid (kM2.below hbc kM2.lt)
    have HBC := Lib.hid hbc
    clear cU kU2 kM2 kL2 hbc
    go_upto_if 45 with fail
    go_cut [7] (fun v wx => v = .pointer (some ⟨gv, 0, none⟩) ∧ ∃ a1 b1 a2 b2, Hid (Blk wx gL 30 (vlCs l' (.slice a1 l'.sd.length b1) (.slice a2 l'.es.length b2))) ∧ Hid (VLm ok wx (.slice a1 l'.sd.length b1) (.slice a2 l'.es.length b2) l') ∧ Hid (Kp (fun b => ¬ b = gL) w4 wx))
    case first =>
      cases q
      · have HE := Lib.hid (HQ0.out rfl)
        go_wp2
        go_meet
        have hb := HBC.out
        refine ⟨rfl, A1, c1, A2, c2, Lib.hid ?_, Lib.hid ?_, Lib.hid (Kp.refl _ _)⟩
        · rw [HE.out]
          exact HKS2.out.2.2.1.below hb HKS2.out.2.2.1.lt
        · rw [HE.out]
          exact HL2.out.below hb
      · have HE := Lib.hid (HQ1.out rfl)
        obtain ⟨hMe, hMv⟩ := HMM.out HE.out.1
        obtain ⟨B1, d1, rfl, _, _⟩ := hMv.sd.form
        obtain ⟨B2, d2, rfl, _, _⟩ := hMv.es.form
        have HMV := Lib.hid (hMv.kp (HK02.out.mono fun b hb h => (HOK.out b hb).1 (hfF b h)))
        have HME := Lib.hid hMe
        have hallM : M.all (·.oneCell') = true := by rw [hMe]; exact vl_all _ _ _ _ _ _ _
        clear hMe hMv
        go_upto_region 11 with fail
        refine wp_region_lit ?_
        refine wpList_ld (g := gM) (k := 0) (cs := M) rfl rfl rfl HM4.out.range Tryz.underlying30 rfl hinfM ?_
        refine wpList_st rfl rfl M rfl rfl (HKS2.out.2.2.1.below HBC.out HKS2.out.2.2.1.lt) (by rw [hM6]; rfl) hinfM hallM ?_ rfl
        intro k9
        have hK9 : Kp (fun b => ¬ b = gL) w4 (World.setCells w4 gL 0 M.toList) := Kp.setCells (b := gL) (fun _ h => h rfl) _ 0 (Kp.refl _ _)
        generalize hwz : World.setCells w4 gL 0 M.toList = wz at k9 hK9 ⊢
        clear hwz hallM
        have HK9 := Lib.hid hK9
        have HL9 := Lib.hid k9
        clear hK9 k9
        go_wp2
        go_meet
        refine ⟨rfl, B1, d1, B2, d2, Lib.hid ?_, Lib.hid ?_, HK9⟩
        · have h := HL9.out
          rw [HME.out] at h
          rw [HE.out.2]
          exact h
        · rw [HE.out.2]
          exact (HMV.out.below HBC.out).kp (HK9.out.mono fun b hb => (HOK.out b hb).2.1)
    obtain ⟨rfl, a1, b1, a2, b2, HKL, HLM, HKK⟩ := hcut
    obtain ⟨w5, rfl⟩ : ∃ w5, w5 = wc := ⟨_, rfl⟩
    have hne := HNE.out
    have kV5 := (HKS2.out.1.below HBC.out HKS2.out.1.lt).kp HKK.out fun e => hne.1.2.1 e.symm
    have kW5 := (HKS2.out.2.1.below HBC.out HKS2.out.2.1.lt).kp HKK.out fun e => hne.1.2.2.2 e.symm
    have kU5 := (HKS2.out.2.2.2.below HBC.out HKS2.out.2.2.2.lt).kp HKK.out fun e => hne.1.2.2.1 e.symm
    have cV : w5.cell? ⟨gV, 0, none⟩ = some vp := kV5.cell 0
    have cU : w5.cell? ⟨gU, 0, none⟩ = some (.bool un) := kU5.cell 0
    have cW : w5.cell? ⟨gW, 0, none⟩ = some (.bool dn) := kW5.cell 0
    have fV : w5.frozen? ⟨gV, 0, none⟩ = false := kV5.frozen 0
    have fU : w5.frozen? ⟨gU, 0, none⟩ = false := kU5.frozen 0
    have fW : w5.frozen? ⟨gW, 0, none⟩ = false := kW5.frozen 0
    have nUV : ¬ gU = gV := fun e => hne.2.1.1 e.symm
    have nVU : ¬ gV = gU := hne.2.1.1
    have nWV : ¬ gW = gV := fun e => hne.2.1.2.1 e.symm
    have nVW : ¬ gV = gW := hne.2.1.2.1
    have nWU : ¬ gW = gU := fun e => hne.2.1.2.2 e.symm
    have nUW : ¬ gU = gW := hne.2.1.2.2
    have HK5 := Lib.hid (And.intro kV5 (And.intro kU5 kW5))
    clear kV5 kW5 kU5 hne
    go_upto_region 13 with fail
    refine name_world (fun w6 => Blk w6 gV 35 #[.pointer (some ⟨gv, 0, none⟩)] ∧ Blk w6 gU 4 #[.bool false] ∧ Blk w6 gW 4 #[.bool false] ∧ Kp (fun b => b ≠ gV ∧ b ≠ gU ∧ b ≠ gW) w5 w6) ⟨((HK5.out.1.set_ 0 _).far (p := ⟨gU, 0, none⟩) nVU _).far (p := ⟨gW, 0, none⟩) nVW _, ((HK5.out.2.1.far (p := ⟨gV, 0, none⟩) nUV _).set_ 0 _).far (p := ⟨gW, 0, none⟩) nUW _, ((HK5.out.2.2.far (p := ⟨gV, 0, none⟩) nWV _).far (p := ⟨gU, 0, none⟩) nWU _).set_ 0 _, (((Kp.refl _ _).setCell (fun _ h => h.1 rfl) _).setCell (fun _ h => h.2.1 rfl) _).setCell (fun _ h => h.2.2 rfl) _⟩ ?_
    rintro w6 ⟨kV6, kU6, kW6, hK6⟩
    clear cV cU cW fV fU fW nUV nVU nWV nVW nWU nUW HK5
    have hne := HNE.out
    have hz5 := HKK.out.size
    have hz6 := hK6.size
    have kL6 := HKL.out.kp hK6 ⟨hne.1.2.1, hne.1.2.2.1, hne.1.2.2.2⟩
    have HLM6 := Lib.hid (HLM.out.kp (hK6.mono fun b hb => (HOK.out b hb).2.2))
    have hKA : Kp (fun b => ¬ F b ∧ b ≠ gL ∧ b ≠ gV ∧ b ≠ gU ∧ b ≠ gW) w w6 := (((HK02.out.mono fun b hb h => hb.1 (hfF b h)).trans (.of_below HBC.out)).trans (HKK.out.mono fun b hb => hb.2.1)).trans (hK6.mono fun b hb => hb.2.2)
    have HKA := Lib.hid hKA
    have hK36 : Kp (fun b => b ≠ gL ∧ b ≠ gV ∧ b ≠ gU ∧ b ≠ gW) w3 w6 := ((Kp.of_below HBC.out).trans (HKK.out.mono fun b hb => hb.1)).trans (hK6.mono fun b hb => hb.2)
    have hbl := And.intro HKS.out.2.2.2.1.lt (And.intro HKS.out.2.2.2.2.1.lt (And.intro HKS.out.2.1.lt HKS.out.2.2.2.2.2.lt))
    have HV6 := Lib.hid (HV2.out.kp hK36 fun x hx => by
      rcases hx with h | h
      · exact ⟨fun e => hne.2.2.2.2.2.1 (e ▸ h), fun e => hne.2.2.2.2.2.2.1 (e ▸ h), fun e => hne.2.2.2.1 (e ▸ h), fun e => hne.2.2.2.2.2.2.2 (e ▸ h)⟩
      · exact ⟨by omega, by omega, by omega, by omega⟩)
    obtain ⟨H, hH⟩ : ∃ H : Array Value, H = vlCs l' (.slice a1 l'.sd.length b1) (.slice a2 l'.es.length b2) := ⟨_, rfl⟩
    have hinfH : (Tryz.prog.info? 30).map (·.size) = some H.size := by rw [hH]; exact Tryz.infoLog
    have kH := kL6
    rw [← hH] at kH
    have HH := Lib.hid hH
    have HKE := Lib.hid (And.intro kL6 (And.intro kV6 (And.intro kU6 kW6)))
    have cV6 : ∀ s : Later w6, s.val.cell? ⟨gV, 0, none⟩ = some (.pointer (some ⟨gv, 0, none⟩)) := Later.cell (kV6.cell 0)
    clear hH kL6 kV6 kU6 kW6 hKA hK36 hbl hK6 hne
    refine wp_seqL [1, 3] (by as_aux_lemma => kernel_rfl) (by as_aux_lemma => kernel_rfl) fun wA hbA => ?_
    refine seqL_pre 1 (by kernel_rfl) ?_
    simp only [List.take_succ_cons, List.take_zero, List.drop_succ_cons, List.drop_zero]
    repeat (go_big_quiet_step (fail))
    refine wpQuiet_nil ?_
    have HVL : Hid (Calls Tryz.prog 17 #[.pointer (some ⟨gv, 0, none⟩)] wA fun e w' => (∃ vsd' ves', e = .returned (.agg (vlCs l' vsd' ves')) ∧ VLm (fun b => wA.heap.size ≤ b) w' vsd' ves' l') ∧ Below wA.heap.size wA w') := by
      obtain ⟨f', gl', T', first', recs', vsd', ves', _, _, _, _, _, hbB, _, hmB, _, _, hleB⟩ := HV6.out.below hbA
      exact Lib.hid (vlog_any hbB hmB (by omega))
    refine seqL_wild hbA rfl rfl fun K hK => ?_
    unfold Gives
    go_simp
    refine HVL.out.mono ?_
    rintro e wB ⟨⟨v3, e3, rfl, hm3⟩, hbB⟩
    obtain ⟨A3, c3, rfl, _⟩ := hm3.sd.form
    obtain ⟨A4, c4, rfl, _⟩ := hm3.es.form
    obtain ⟨U, hU⟩ : ∃ U : Array Value, U = vlCs l' (.slice A3 l'.sd.length c3) (.slice A4 l'.es.length c4) := ⟨_, rfl⟩
    rw [← hU]
    have HU := Lib.hid hU
    have HM3 := Lib.hid hm3
    clear hU hm3 HVL
    refine ⟨_, rfl, hK _ _ (hbB) fun hbB' => ?_⟩
    clear hK
    clear K
    simp only [Act.put, List.setIfInBounds_toArray, List.set_cons_succ, List.set_cons_zero]
    refine seqL_still (.agg H) rfl rfl (fun s => still_ld (g := gL) (k := 0) rfl rfl (kH.below s.below kH.lt).range Tryz.underlying30 rfl hinfH) ?_
    have HLG := Lib.hid (log_any HM3.out (HLM6.out.below hbB'))
    rw [← HH.out, ← HU.out, sameV_refl] at HLG
    refine seqL_wild hbB' rfl rfl fun K hK => ?_
    unfold Gives
    go_simp
    refine HLG.out.mono ?_
    rintro e wC ⟨rfl, hbC⟩
    refine ⟨_, rfl, hK _ _ (hbC) fun hbC' => ?_⟩
    clear hK
    clear K
    simp only [Act.put, List.setIfInBounds_toArray, List.set_cons_succ, List.set_cons_zero]
    refine seqL_pre 1 (by kernel_rfl) ?_
    simp only [List.take_succ_cons, List.take_zero, List.drop_succ_cons, List.drop_zero]
    repeat (go_big_quiet_step (fail))
    refine wpQuiet_nil ?_
    refine seqL_nil ?_
    have HBF := Lib.hid hbC'
    have hzC := hbC'.size
    clear hbA hbB hbB' hbC hbC' cV6 hinfH kH
    go_wp2
    go_ret
    have hbf := HBF.out
    have hke := HKE.out
    exact ⟨rfl, ⟨l', gv, _, _, HL'.out, hke.1.below hbf hke.1.lt, HLM6.out.below hbf, hke.2.1.below hbf hke.2.1.lt, hke.2.2.1.below hbf hke.2.2.1.lt, hke.2.2.2.below hbf hke.2.2.2.lt, (HV6.out.below hbf).wide fun x hx => hx.imp_right fun h => by omega⟩, HKA.out.trans (.of_below hbf)⟩
end Go.Proofs.YtnlhjhpikjmoaaaGreatDoor
