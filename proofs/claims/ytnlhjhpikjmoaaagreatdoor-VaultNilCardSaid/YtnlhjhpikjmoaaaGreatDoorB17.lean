/- Contracts: vault.Open, on a new disk.
armoirelaw07.awake is true. -/
import Derived.Test.YtnlhjhpikjmoaaaGreatDoorB15
import Derived.Test.YtnlhjhpikjmoaaaGreatDoorB5
import Derived.Test.YtnlhjhpikjmoaaaGreatDoorB6
import Derived.Test.YtnlhjhpikjmoaaaGreatDoorB8
namespace Go.Proofs.YtnlhjhpikjmoaaaGreatDoor
open Go.RowKit

set_option maxRecDepth 100000 in
set_option maxHeartbeats 3200000 in
theorem vopen_new {f : Nat → Prop} {w : World} {gd n : Nat} (hn : 3 ≤ n) (h64 : n ≤ 65536) (hd : DiskR f w gd (newD n)) (hf : ∀ x, f x → x < w.heap.size) :
    Calls Tryz.prog 14 #[.pointer (some ⟨gd, 0, none⟩)] w fun e w' => (∃ gv, e = .returned (.tuple #[.pointer (some ⟨gv, 0, none⟩), .nilIface]) ∧ VltS (fun x => f x ∨ (w.heap.size ≤ x ∧ x < w'.heap.size)) w' gv gd n 2 VLog.zero) ∧ Kp (fun x => ¬ f x) w w' := by
  have HO := Lib.hid (open_newS hn h64 hd hf)
  have HF := Lib.hid hf
  clear hd hf
  go_enter Tryz.func14, Tryz.ntmps14
  go_wp2_with fail
  refine HO.out.mono ?_
  rintro e w1 ⟨⟨gl, rfl, h0⟩, hK1⟩
  obtain ⟨fr, HFR, hL⟩ : ∃ fr, Hid (fr = 0) ∧ LogS (fun x => f x ∨ (w.heap.size ≤ x ∧ x < w1.heap.size)) w1 gl gd n 1 fr [] [] := ⟨0, Lib.hid rfl, h0⟩
  clear h0
  have HL := Lib.hid hL
  have HK1 := Lib.hid hK1
  clear hL hK1 HO
  go_upto_region 5 with fail
  obtain ⟨gv, hgv⟩ : ∃ gv, gv = w1.heap.size := ⟨_, rfl⟩
  refine name_world (fun w2 => Blk w2 gv 74 #[.pointer (some ⟨gl, 0, none⟩), .int .u64 0, .int .i64 0, .int .u64 0, .int .u64 0, .slice none 0 0, .slice none 0 0] ∧ Below w1.heap.size w1 w2) ⟨by rw [hgv]; exact Blk.new _ _ _, (Below.refl _ _).alloc (Nat.le_refl _) _⟩ ?_
  rintro w2 ⟨kv, hB2⟩
  rw [← hgv]
  have HGV := Lib.hid hgv
  clear hgv
  have hL2 := HL.out.below hB2
  have HR := Lib.hid (read_nil (kv.cell 0) hL2)
  have HKV := Lib.hid kv
  have HL2 := Lib.hid hL2
  clear kv hL2
  go_wp2_with fail
  refine HR.out.mono ?_
  rintro e w3 ⟨rfl, hB3⟩
  have hz2 := hB2.size
  have hz3 := hB3.size
  have hL3 := HL2.out.below hB3
  have hgl := hL3.u.gl_
  have HBK := Lib.hid (backS_any hL3 hgl fr rfl)
  clear hL3 HR
  go_wp2_with fail
  refine HBK.out.mono ?_
  rintro e w4 ⟨rfl, hL4, hK4⟩
  have hz4 := hK4.size
  have HC := Lib.hid (cut_opS hL4 (by omega) fr (Nat.le_refl _) (by simp) (by rw [HFR.out]; omega))
  have HK4 := Lib.hid hK4
  clear hL4 hK4 HBK
  go_wp2_with fail
  refine HC.out.mono ?_
  rintro e w5 ⟨rfl, ⟨T', hT', hL5⟩, hK5⟩
  have hz5 := hK5.size
  rw [List.append_nil, List.drop_nil] at hL5
  have HL5 := Lib.hid hL5
  have HK5 := Lib.hid hK5
  clear hL5 hK5 HC
  go_wp2
  have hgv := HGV.out
  have hnf : ∀ x, f x ∨ (w.heap.size ≤ x ∧ x < w1.heap.size) → x < w1.heap.size := fun x hx => hx.elim (fun h => by have := HF.out x h; have := HK1.out.size; omega) fun h => h.2
  have hK35 : Kp (fun x => ¬ (f x ∨ (w.heap.size ≤ x ∧ x < w1.heap.size))) w3 w5 := HK4.out.trans HK5.out
  have hgn : ¬ (f gv ∨ (w.heap.size ≤ gv ∧ gv < w1.heap.size)) := fun h => by have := hnf gv h; omega
  have kv5 := (HKV.out.below hB3 HKV.out.lt).kp hK35 hgn
  refine bodyPost_ret (v := .tuple #[.pointer (some ⟨gv, 0, none⟩), .nilIface]) ?_ rfl ⟨⟨gv, rfl, fun x => (f x ∨ (w.heap.size ≤ x ∧ x < w1.heap.size)) ∨ (w4.heap.size ≤ x ∧ x < w5.heap.size), gl, T', fr, [], .slice none 0 0, .slice none 0 0, ?_, ?_, ?_, hT', by rw [HFR.out]; omega, kv5, ?_, ?_, .nil, by simp [secSum], by simp [VLog.zero]⟩, ?_⟩
  · simp [results, Tryz.results14, Act.put, Sem.run_bind, Sem.run_pure, asAddr_ok]
  · intro x hx
    rcases hx with (hx | hx) | hx
    · exact .inl hx
    · exact .inr (by omega)
    · exact .inr (by have := HK1.out.size; omega)
  · exact .inr (by have := HKV.out.lt; have := HK1.out.size; omega)
  · intro h
    rcases h with h | h
    · exact hgn h
    · have := HKV.out.lt
      omega
  · exact HL5.out
  · exact vm_zero _ _
  · exact HK1.out.trans_new (((Kp.of_below hB2).trans (.of_below hB3)).trans hK35)
end Go.Proofs.YtnlhjhpikjmoaaaGreatDoor

namespace Go.Proofs.YtnlhjhpikjmoaaaGreatDoor
open Go.RowKit

/-- the log of awake -/
def awkL : VLog := ⟨2, 1, 0, 0, [], [⟨1, 1, [120]⟩]⟩
theorem awkL_right : rightV awkL = true := by decide
theorem awkL_room : ¬ (2000 - 2) / 3 < secSum (recordsV VLog.zero awkL .beg) := by
  have h1 := whole_secs awkL .beg (by decide)
  have h2 : sizeV awkL = 501 := by decide
  have h3 : awkL.es.length = 1 := rfl
  omega
set_option maxRecDepth 100000 in
theorem awkL_vm (w : World) (ok : Nat → Prop) (h : ∀ b, w.heap.size ≤ b → ok b) : VLm ok ((w.alloc (.cells #[.int .u8 120] 5 (1, 2))).alloc (.cells #[.int .u64 1, .int .u64 1, .slice (some ⟨w.heap.size, 0, none⟩) 1 1] 50)) (.slice none 0 0) (.slice (some ⟨w.heap.size + 1, 0, none⟩) 1 1) awkL := by
  obtain ⟨w1, hw1⟩ : ∃ w1, w1 = w.alloc (.cells #[.int .u8 120] 5 (1, 2)) := ⟨_, rfl⟩
  have hz : w1.heap.size = w.heap.size + 1 := by rw [hw1]; simp
  have hrb : RB ok w1 (.slice (some ⟨w.heap.size, 0, none⟩) 1 1) [120] := by rw [hw1]; exact marked_rb w [120] (by decide) (1, 2) (h _ (Nat.le_refl _))
  rw [← hw1, ← hz]
  refine ⟨RSl.nil_ _ _ _, ?_, by decide, ⟨by decide, by decide⟩, by decide, by decide⟩
  have hal : Below w1.heap.size w1 (w1.alloc (.cells #[.int .u64 1, .int .u64 1, .slice (some ⟨w.heap.size, 0, none⟩) 1 1] 50)) := (Below.refl _ _).alloc (Nat.le_refl _) _
  refine ⟨some ⟨w1.heap.size, 0, none⟩, 1, 1, [[.int .u64 1, .int .u64 1, .slice (some ⟨w.heap.size, 0, none⟩) 1 1]], rfl, by decide, rfl, by decide, ?_, ⟨⟨_, rfl, RSl.below hrb hal, by decide, by decide⟩, trivial⟩, fun _ a ha => ?_⟩
  · have := Rd.new w1 50 3 1 #[.int .u64 1, .int .u64 1, .slice (some ⟨w.heap.size, 0, none⟩) 1 1] rfl
    show Rd _ 3 _ _ _
    simpa using this
  · cases ha
    exact h _ (by show w.heap.size ≤ w1.heap.size; omega)
set_option maxRecDepth 100000 in
set_option maxHeartbeats 6400000 in
theorem vawake_any (w : World) : Calls Tryz.prog 9 #[] w fun e w' => e = .returned (.bool true) ∧ Below w.heap.size w w' := by
  go_enter Tryz.func9, Tryz.ntmps9
  go_wp2_with fail
  refine (dNew_any 2000 (by omega) (by omega) w).mono ?_
  rintro e w1 ⟨⟨gd, rfl, hgd, hD1⟩, hb1⟩
  have HOP := Lib.hid (vopen_new (n := 2000) (f := fun b => w.heap.size ≤ b ∧ b < w1.heap.size) (by omega) (by omega) (hD1.mono fun b hb hlt => ⟨hb, hlt⟩) (fun x hx => hx.2))
  clear hD1
  go_wp2_with fail
  refine HOP.out.mono ?_
  rintro e w2 ⟨⟨gv, rfl, hV2⟩, hK2⟩
  have hz1 := hb1.size
  have hz2 := hK2.size
  have hb2 : Below w.heap.size w w2 := hb1.trans (hK2.below hz1 fun x hx h => by omega)
  have hV2 : VltS (fun x => w.heap.size ≤ x ∧ x < w2.heap.size) w2 gv gd 2000 2 VLog.zero := hV2.wide fun x hx => by rcases hx with h | h <;> omega
  have HV2 := Lib.hid hV2
  clear hK2 HOP hV2
  have hcv := conv_const
  go_upto_region 5 with fail
  refine wp_region_split 7 ?_
  simp only [List.take_succ_cons, List.take_zero, List.drop_succ_cons, List.drop_zero]
  go_wp2
  show wpList _ _ _ _ _ _
  have hvm := awkL_vm w2 (fun b => w2.heap.size ≤ b) fun b h => h
  obtain ⟨W3, hW3⟩ : ∃ W3, W3 = ((w2.alloc (.cells #[.int .u8 120] 5 (1, 2))).alloc (.cells #[.int .u64 1, .int .u64 1, .slice (some ⟨w2.heap.size, 0, none⟩) 1 1] 50)) := ⟨_, rfl⟩
  have hzW : W3.heap.size = w2.heap.size + 1 + 1 := by rw [hW3]; simp
  have hB3 : Below w2.heap.size w2 W3 := by rw [hW3]; exact ((Below.refl _ _).alloc (Nat.le_refl _) _).alloc (by simp) _
  rw [← hW3] at hvm
  rw [← hW3]
  obtain ⟨g3, hg3⟩ : ∃ g3, g3 = w2.heap.size + 1 + 1 := ⟨_, rfl⟩
  obtain ⟨be, hbe⟩ : ∃ be, be = w2.heap.size + 1 := ⟨_, rfl⟩
  rw [← hg3, ← hbe]
  rw [← hbe] at hvm
  have HG3 := Lib.hid (hzW.trans hg3.symm)
  have hle3 : w2.heap.size ≤ g3 := by omega
  have hB3' : Below w.heap.size w W3 := hb2.trans (hB3.mono (by omega))
  have hV3 := HV2.out.below hB3
  have kZ : Blk (W3.alloc (.cells #[.int .u64 0, .int .i64 0, .int .u64 0, .int .u64 0, .slice none 0 0, .slice none 0 0] 30)) g3 30 #[.int .u64 0, .int .i64 0, .int .u64 0, .int .u64 0, .slice none 0 0, .slice none 0 0] := Blk.new_ (HG3.out.symm)
  clear hW3 hg3 hbe hzW hB3 hcv
  refine wpList_st rfl rfl (vlCs awkL (.slice none 0 0) (.slice (some ⟨be, 0, none⟩) 1 1)) rfl rfl kZ rfl Tryz.infoLog (vl_all _ _ _ _ _ _ _) ?_ rfl
  intro k9
  have hK9 : Below W3.heap.size W3 (World.setCells (W3.alloc (.cells #[.int .u64 0, .int .i64 0, .int .u64 0, .int .u64 0, .slice none 0 0, .slice none 0 0] 30)) g3 0 (vlCs awkL (.slice none 0 0) (.slice (some ⟨be, 0, none⟩) 1 1)).toList) := below_setCells (by have := HG3.out; omega) _ 0 ((Below.refl _ _).alloc (Nat.le_refl _) _)
  generalize hwz : World.setCells (W3.alloc (.cells #[.int .u64 0, .int .i64 0, .int .u64 0, .int .u64 0, .slice none 0 0, .slice none 0 0] 30)) g3 0 (vlCs awkL (.slice none 0 0) (.slice (some ⟨be, 0, none⟩) 1 1)).toList = wz at k9 hK9 ⊢
  clear hwz kZ
  have hBz : Below w.heap.size w wz := hB3'.trans (hK9.mono hB3'.size)
  have hvz := hvm.below hK9
  have hVz := hV3.below hK9
  have hzz : w2.heap.size ≤ wz.heap.size := by have := hK9.size; have := HG3.out; omega
  obtain ⟨T1, hT1⟩ : ∃ T1 : Array Value, T1 = vlCs awkL (.slice none 0 0) (.slice (some ⟨be, 0, none⟩) 1 1) := ⟨_, rfl⟩
  have hinf : (Tryz.prog.info? 30).map (·.size) = some T1.size := by rw [hT1]; exact Tryz.infoLog
  rw [← hT1] at k9
  have HVM := Lib.hid hvz
  have HVZ := Lib.hid hVz
  have HBZ := Lib.hid hBz
  have HT1 := Lib.hid hT1
  clear hvm hvz hVz hV3 hK9 hB3' hBz hT1
  go_upto_region 6 with fail
  refine wp_seqB (fun x => w.heap.size ≤ x ∧ x < w2.heap.size) 2 [2, 6, 8, 12] (by as_aux_lemma => kernel_rfl) (by as_aux_lemma => kernel_rfl) fun wA hbA => ?_
  refine seqB_pre 1 (by kernel_rfl) ?_
  simp only [List.take_succ_cons, List.take_zero, List.drop_succ_cons, List.drop_zero]
  repeat (go_big_quiet_step (fail))
  refine wpQuiet_nil ?_
  refine seqB_still (.agg T1) rfl rfl (fun s => still_ld (g := g3) (k := 0) rfl rfl (k9.kp s.kp (by omega)).range Tryz.underlying30 rfl hinf) ?_
  have hkA : Kp (fun x => ¬ (w.heap.size ≤ x ∧ x < w2.heap.size)) wz wA := Kp.of_below hbA
  have hzA := hbA.size
  have hBzz := HBZ.out.size
  have HPUT := Lib.hid (vput_any (HVZ.out.below hbA) (fun x hx => by omega) (HVM.out.below hbA) (fun b hb h => by have hb : w2.heap.size ≤ b := hb; omega) (by omega) (by omega) (by omega) (by decide) ⟨rfl, rfl, rfl⟩ ⟨rfl, rfl, rfl⟩)
  rw [← HT1.out] at HPUT
  refine seqB_wild hkA rfl rfl fun K hK => ?_
  unfold Gives
  go_simp
  refine HPUT.out.mono ?_
  rintro e wB ⟨v, rfl, hKB, l', hVB, hcase⟩
  obtain ⟨rfl, rfl⟩ : l' = awkL ∧ v = .nilIface := by
    rcases hcase with h | h | h
    · exact absurd h.1 (by rw [awkL_right]; decide)
    · exact h.2
    · exact absurd h.2.2.2 awkL_room
  clear hcase HPUT
  refine ⟨_, rfl, hK _ _ (hKB) fun hKB' => ?_⟩
  clear hK
  clear K
  simp only [Act.put, List.setIfInBounds_toArray, List.set_cons_succ, List.set_cons_zero]
  refine seqB_pre 3 (by kernel_rfl) ?_
  simp only [List.take_succ_cons, List.take_zero, List.drop_succ_cons, List.drop_zero]
  repeat (go_big_quiet_step (fail))
  refine wpQuiet_nil ?_
  obtain ⟨f', gl', T', first', recs', vsd', ves', _, _, _, _, _, hbB, _, hmB, _, _, hleB⟩ := hVB
  refine seqB_wild hKB' rfl rfl fun K hK => ?_
  unfold Gives
  go_simp
  refine (vlog_any hbB hmB (by omega)).mono ?_
  rintro e wC ⟨⟨v2, e2, rfl, hm2⟩, hBC⟩
  obtain ⟨A2, c2, rfl, _⟩ := hm2.sd.form
  obtain ⟨A3, c3, rfl, _⟩ := hm2.es.form
  obtain ⟨U, hU⟩ : ∃ U : Array Value, U = vlCs awkL (.slice A2 awkL.sd.length c2) (.slice A3 awkL.es.length c3) := ⟨_, rfl⟩
  rw [← hU]
  have HU := Lib.hid hU
  have HM2 := Lib.hid hm2
  clear hU hm2 hbB hmB hleB
  refine ⟨_, rfl, hK _ _ ((Kp.of_below hBC)) fun hKC' => ?_⟩
  clear hK
  clear K
  simp only [Act.put, List.setIfInBounds_toArray, List.set_cons_succ, List.set_cons_zero]
  refine seqB_still (.agg T1) rfl rfl (fun s => still_ld (g := g3) (k := 0) rfl rfl (k9.kp s.kp (by omega)).range Tryz.underlying30 rfl hinf) ?_
  have hvC : VLm (fun b => w2.heap.size ≤ b) wC _ _ awkL := HVM.out.kp (hKC'.mono fun b hb h => by omega)
  have HLG := Lib.hid (log_any HM2.out hvC)
  rw [← HT1.out, ← HU.out, sameV_refl] at HLG
  clear hvC
  refine seqB_wild hKC' rfl rfl fun K hK => ?_
  unfold Gives
  go_simp
  refine HLG.out.mono ?_
  rintro e wD ⟨rfl, hBD⟩
  refine ⟨_, rfl, hK _ _ ((Kp.of_below hBD)) fun hKD' => ?_⟩
  clear hK
  clear K
  simp only [Act.put, List.setIfInBounds_toArray, List.set_cons_succ, List.set_cons_zero]
  refine seqB_pre 2 (by kernel_rfl) ?_
  simp only [List.take_succ_cons, List.take_zero, List.drop_succ_cons, List.drop_zero]
  repeat (go_big_quiet_step (fail))
  refine wpQuiet_nil ?_
  refine seqB_still (.agg T1) rfl rfl (fun s => still_ld (g := g3) (k := 0) rfl rfl (k9.kp s.kp (by omega)).range Tryz.underlying30 rfl hinf) ?_
  have hvD : VLm (fun b => w2.heap.size ≤ b) wD _ _ awkL := HVM.out.kp (hKD'.mono fun b hb h => by omega)
  have HRG := Lib.hid (vright_any hvD)
  rw [← HT1.out, awkL_right] at HRG
  clear hvD
  refine seqB_wild hKD' rfl rfl fun K hK => ?_
  unfold Gives
  go_simp
  refine HRG.out.mono ?_
  rintro e wE ⟨rfl, hBE⟩
  refine ⟨_, rfl, hK _ _ ((Kp.of_below hBE)) fun hKE' => ?_⟩
  clear hK
  clear K
  simp only [Act.put, List.setIfInBounds_toArray, List.set_cons_succ, List.set_cons_zero]
  refine seqB_pre 2 (by kernel_rfl) ?_
  simp only [List.take_succ_cons, List.take_zero, List.drop_succ_cons, List.drop_zero]
  repeat (go_big_quiet_step (fail))
  refine wpQuiet_nil ?_
  refine seqB_nil ?_
  go_wp2
  go_ret
  exact ⟨rfl, HBZ.out.trans (hKE'.below hBzz fun b hb h => by omega)⟩
end Go.Proofs.YtnlhjhpikjmoaaaGreatDoor
