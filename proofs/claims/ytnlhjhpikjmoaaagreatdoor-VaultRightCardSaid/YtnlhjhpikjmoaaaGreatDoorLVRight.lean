/- The walk of the law VaultRight. -/
import Derived.Test.YtnlhjhpikjmoaaaGreatDoorB17
namespace Go.Proofs.YtnlhjhpikjmoaaaGreatDoor
open Go.RowKit

set_option maxRecDepth 100000 in
set_option maxHeartbeats 6400000 in
theorem lawVaultRight {ok : Nat → Prop} {w : World} {vsd ves : Value} {l : VLog} (h : VLm ok w vsd ves l) :
    Calls Tryz.prog 3 #[.agg (vlCs l vsd ves)] w fun e w' => e = .returned (.bool true) ∧ Below w.heap.size w w' := by
  have h := h.mono (ok' := fun b => b < w.heap.size) fun b _ hb => hb
  obtain ⟨As, cs, rfl, _, _⟩ := h.sd.form
  obtain ⟨Ae, ce, rfl, _, _⟩ := h.es.form
  obtain ⟨L1, hL1⟩ : ∃ L1 : Array Value, L1 = vlCs l (.slice As l.sd.length cs) (.slice Ae l.es.length ce) := ⟨_, rfl⟩
  have hinf : (Tryz.prog.info? 30).map (·.size) = some L1.size := by rw [hL1]; exact Tryz.infoLog
  obtain ⟨g, hg⟩ : ∃ g, g = w.heap.size := ⟨_, rfl⟩
  have HH := Lib.hid h
  have HL1 := Lib.hid hL1
  rw [← hL1]
  clear h hL1
  go_enter Tryz.func3, Tryz.ntmps3
  go_upto_region 1 with fail
  refine name_world (fun w1 => Blk w1 g 30 L1 ∧ Below g w w1 ∧ g < w1.heap.size) ⟨by rw [hg]; exact Blk.new _ _ _, by rw [hg]; exact (Below.refl _ _).alloc (Nat.le_refl _) _, by rw [hg]; simp⟩ ?_
  rintro w1 ⟨k1, hB1, hz1⟩
  rw [← hg]
  have HG := Lib.hid hg
  have hv1 := HH.out.below (hg ▸ hB1)
  have HS := Lib.hid (small_any hv1)
  rw [← HL1.out] at HS
  have HV1 := Lib.hid hv1
  clear hv1 hg
  refine wp_region_lit ?_
  refine wpList_ld (g := g) (k := 0) (cs := L1) rfl rfl rfl k1.range Tryz.underlying30 rfl hinf ?_
  go_wp2_with fail
  refine HS.out.mono ?_
  rintro e w2 ⟨⟨q, rfl, hq⟩, hB2⟩
  have hB02 : Below g w w2 := hB1.trans (hB2.mono (by omega))
  have HQ := Lib.hid hq
  clear hq HS
  cases q
  · go_wp2_with fail
    refine (vawake_any _).mono ?_
    rintro e w3 ⟨rfl, hB3⟩
    go_wp2
    go_ret
    exact ⟨rfl, by rw [← HG.out]; exact hB02.trans (hB3.mono (by have := hB2.size; omega))⟩
  have k2 := k1.below hB2 k1.lt
  have hz2 := hB2.size
  have hv2 := HV1.out.below hB2
  have HCP := Lib.hid (copyLog_any hv2 (by have := (HQ.out rfl).1; omega))
  rw [← HL1.out] at HCP
  have HV2 := Lib.hid hv2
  clear hv2 HV1
  go_upto_region 3 with fail
  refine wp_region_lit ?_
  refine wpList_ld (g := g) (k := 0) (cs := L1) rfl rfl rfl k2.range Tryz.underlying30 rfl hinf ?_
  refine wpList_split 2 ?_
  simp only [List.take_succ_cons, List.take_zero, List.drop_succ_cons, List.drop_zero]
  go_wp2_with fail
  refine HCP.out.mono ?_
  rintro e w3 ⟨⟨v3, e3, rfl, hm3⟩, hB3⟩
  obtain ⟨A3, c3, rfl, _⟩ := hm3.sd.form
  obtain ⟨B3, d3, rfl, _⟩ := hm3.es.form
  have HM3 := Lib.hid hm3
  clear hm3 HCP
  go_wp2
  show wpList _ _ _ _ _ _
  have kZ : Blk (w3.alloc (.cells #[.int .u64 0, .int .i64 0, .int .u64 0, .int .u64 0, .slice none 0 0, .slice none 0 0] 30)) w3.heap.size 30 #[.int .u64 0, .int .i64 0, .int .u64 0, .int .u64 0, .slice none 0 0, .slice none 0 0] := Blk.new _ _ _
  refine wpList_st rfl rfl (vlCs l (.slice A3 l.sd.length c3) (.slice B3 l.es.length d3)) rfl rfl kZ rfl Tryz.infoLog (vl_all _ _ _ _ _ _ _) ?_ rfl
  intro k9
  have hK9 : Below w3.heap.size w3 (World.setCells (w3.alloc (.cells #[.int .u64 0, .int .i64 0, .int .u64 0, .int .u64 0, .slice none 0 0, .slice none 0 0] 30)) w3.heap.size 0 (vlCs l (.slice A3 l.sd.length c3) (.slice B3 l.es.length d3)).toList) := below_setCells (Nat.le_refl _) _ 0 ((Below.refl _ _).alloc (Nat.le_refl _) _)
  obtain ⟨g3, hg3⟩ : ∃ g3, g3 = w3.heap.size := ⟨_, rfl⟩
  generalize hwz : World.setCells (w3.alloc (.cells #[.int .u64 0, .int .i64 0, .int .u64 0, .int .u64 0, .slice none 0 0, .slice none 0 0] 30)) w3.heap.size 0 (vlCs l (.slice A3 l.sd.length c3) (.slice B3 l.es.length d3)).toList = wz at k9 hK9 ⊢
  clear hwz kZ
  rw [← hg3] at k9 ⊢
  clear hg3
  have hz3 := hB3.size
  have hB0z : Below g w wz := (hB02.trans (hB3.mono (by omega))).trans (hK9.mono (by omega))
  have kz := (k2.below hB3 k2.lt).below hK9 (by have := k2.lt; omega)
  have hv2 := (HV2.out.below hB3).below hK9
  have hv3 := HM3.out.below hK9
  obtain ⟨T1, hT1⟩ : ∃ T1 : Array Value, T1 = vlCs l (.slice A3 l.sd.length c3) (.slice B3 l.es.length d3) := ⟨_, rfl⟩
  have hinf3 : (Tryz.prog.info? 30).map (·.size) = some T1.size := by rw [hT1]; exact Tryz.infoLog
  rw [← hT1] at k9
  have HR := Lib.hid (fun (w' : World) (hb : Below wz.heap.size wz w') => vright_any (hv3.below hb))
  have HRR := Lib.hid (fun (w' : World) (hb : Below wz.heap.size wz w') => vrefRight_any (hv2.below hb))
  have HLG := Lib.hid (fun (w' : World) (hb : Below wz.heap.size wz w') => log_any (hv3.below hb) (hv2.below hb))
  rw [← hT1] at HR
  rw [← HL1.out] at HRR
  rw [← hT1, ← HL1.out, sameV_refl] at HLG
  obtain ⟨r, hr⟩ : ∃ r, r = rightV l := ⟨_, rfl⟩
  rw [← hr] at HR HRR
  clear hv2 hv3 hT1 hr HM3 HV2
  go_upto_region 4 with fail
  refine wp_seqL [0, 3, 5, 11] (by as_aux_lemma => kernel_rfl) (by as_aux_lemma => kernel_rfl) fun wA hbA => ?_
  refine seqL_wild hbA rfl rfl fun K hK => ?_
  unfold Gives
  go_simp
  refine (vawake_any _).mono ?_
  rintro e wB ⟨rfl, hbB⟩
  refine ⟨_, rfl, hK _ _ (hbB) fun hbB' => ?_⟩
  clear hK
  clear K
  simp only [Act.put, List.setIfInBounds_toArray, List.set_cons_succ, List.set_cons_zero]
  refine seqL_pre 1 (by kernel_rfl) ?_
  simp only [List.take_succ_cons, List.take_zero, List.drop_succ_cons, List.drop_zero]
  repeat (go_big_quiet_step (fail))
  refine wpQuiet_nil ?_
  refine seqL_still (.agg T1) rfl rfl (fun s => still_ld (g := g3) (k := 0) rfl rfl (k9.below s.below k9.lt).range Tryz.underlying30 rfl hinf3) ?_
  refine seqL_wild hbB' rfl rfl fun K hK => ?_
  unfold Gives
  go_simp
  refine (HR.out _ hbB').mono ?_
  rintro e wC ⟨rfl, hbC⟩
  refine ⟨_, rfl, hK _ _ (hbC) fun hbC' => ?_⟩
  clear hK
  clear K
  simp only [Act.put, List.setIfInBounds_toArray, List.set_cons_succ, List.set_cons_zero]
  refine seqL_still (.agg L1) rfl rfl (fun s => still_ld (g := g) (k := 0) rfl rfl (kz.below s.below kz.lt).range Tryz.underlying30 rfl hinf) ?_
  refine seqL_wild hbC' rfl rfl fun K hK => ?_
  unfold Gives
  go_simp
  refine (HRR.out _ hbC').mono ?_
  rintro e wD ⟨rfl, hbD⟩
  refine ⟨_, rfl, hK _ _ (hbD) fun hbD' => ?_⟩
  clear hK
  clear K
  simp only [Act.put, List.setIfInBounds_toArray, List.set_cons_succ, List.set_cons_zero]
  refine seqL_pre 3 (by kernel_rfl) ?_
  simp only [List.take_succ_cons, List.take_zero, List.drop_succ_cons, List.drop_zero]
  repeat (go_big_quiet_step (fail))
  refine wpQuiet_nil ?_
  refine seqL_still (.agg T1) rfl rfl (fun s => still_ld (g := g3) (k := 0) rfl rfl (k9.below s.below k9.lt).range Tryz.underlying30 rfl hinf3) ?_
  refine seqL_still (.agg L1) rfl rfl (fun s => still_ld (g := g) (k := 0) rfl rfl (kz.below s.below kz.lt).range Tryz.underlying30 rfl hinf) ?_
  refine seqL_wild hbD' rfl rfl fun K hK => ?_
  unfold Gives
  go_simp
  refine (HLG.out _ hbD').mono ?_
  rintro e wE ⟨rfl, hbE⟩
  refine ⟨_, rfl, hK _ _ (hbE) fun hbE' => ?_⟩
  clear hK
  clear K
  simp only [Act.put, List.setIfInBounds_toArray, List.set_cons_succ, List.set_cons_zero]
  refine seqL_pre 2 (by kernel_rfl) ?_
  simp only [List.take_succ_cons, List.take_zero, List.drop_succ_cons, List.drop_zero]
  repeat (go_big_quiet_step (fail))
  refine wpQuiet_nil ?_
  refine seqL_nil ?_
  go_wp2
  go_ret
  exact ⟨rfl, by rw [← HG.out]; exact hB0z.trans (hbE'.mono (by have := hK9.size; omega))⟩
end Go.Proofs.YtnlhjhpikjmoaaaGreatDoor
