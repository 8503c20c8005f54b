/- Contracts: vault.Open, on a new disk.
armoirelaw07.awake is true.
Contracts: code.Reader.
Vault: groups of records are good to be read. No walk. -/
import Derived.Test.YtnlhjhpikjmoaaaGreatDoorB15
import Derived.Test.YtnlhjhpikjmoaaaGreatDoorB5
import Derived.Test.YtnlhjhpikjmoaaaGreatDoorV9
import Derived.Test.YtnlhjhpikjmoaaaGreatDoorB9
namespace Go.Proofs.YtnlhjhpikjmoaaaGreatDoor
open Go.RowKit
set_option maxRecDepth 100000 in
set_option maxHeartbeats 3200000 in
theorem vopen_new {f : Nat → Prop} {w : World} {gd n : Nat} (hn : 3 ≤ n) (h64 : n ≤ 65536) (hd : DiskR f w gd (newD n)) (hf : ∀ x, f x → x < w.heap.size) :
    Calls Tryz.prog 14 #[.pointer (some ⟨gd, 0, none⟩)] w fun e w' => (∃ gv, e = .returned (.tuple #[.pointer (some ⟨gv, 0, none⟩), .nilIface]) ∧ VltS (fun x => f x ∨ (w.heap.size ≤ x ∧ x < w'.heap.size)) w' gv gd n 2 VLog.zero) ∧ Kp (fun x => ¬ f x) w w' := by
  have HO := Lib.hid (open_newS hn h64 hd hf)
  have HF := Lib.hid hf
  clear hd hf
  go_enter Tryz.func14, Tryz.ntmps14
  go_wp2_with fail
  refine HO.out.mono ?_
  rintro e w1 ⟨⟨gl, rfl, h0⟩, hK1⟩
  obtain ⟨fr, HFR, hL⟩ : ∃ fr, Hid (fr = 0) ∧ LogS (fun x => f x ∨ (w.heap.size ≤ x ∧ x < w1.heap.size)) w1 gl gd n 1 fr [] [] := ⟨0, Lib.hid rfl, h0⟩
  clear h0
  have HL := Lib.hid hL
  have HK1 := Lib.hid hK1
  clear hL hK1 HO
  go_upto_region 5 with fail
  obtain ⟨gv, hgv⟩ : ∃ gv, gv = w1.heap.size := ⟨_, rfl⟩
  refine name_world (fun w2 => Blk w2 gv 74 #[.pointer (some ⟨gl, 0, none⟩), .int .u64 0, .int .i64 0, .int .u64 0, .int .u64 0, .slice none 0 0, .slice none 0 0] ∧ Below w1.heap.size w1 w2) ⟨by rw [hgv]; exact Blk.new _ _ _, (Below.refl _ _).alloc (Nat.le_refl _) _⟩ ?_
  rintro w2 ⟨kv, hB2⟩
  rw [← hgv]
  have HGV := Lib.hid hgv
  clear hgv
  have hL2 := HL.out.below hB2
  have HR := Lib.hid (read_nil (kv.cell 0) hL2)
  have HKV := Lib.hid kv
  have HL2 := Lib.hid hL2
  clear kv hL2
  go_wp2_with fail
  refine HR.out.mono ?_
  rintro e w3 ⟨rfl, hB3⟩
  have hz2 := hB2.size
  have hz3 := hB3.size
  have hL3 := HL2.out.below hB3
  have hgl := hL3.u.gl_
  have HBK := Lib.hid (backS_any hL3 hgl fr rfl)
  clear hL3 HR
  go_wp2_with fail
  refine HBK.out.mono ?_
  rintro e w4 ⟨rfl, hL4, hK4⟩
  have hz4 := hK4.size
  have HC := Lib.hid (cut_opS hL4 (by omega) fr (Nat.le_refl _) (by simp) (by rw [HFR.out]; omega))
  have HK4 := Lib.hid hK4
  clear hL4 hK4 HBK
  go_wp2_with fail
  refine HC.out.mono ?_
  rintro e w5 ⟨rfl, ⟨T', hT', hL5⟩, hK5⟩
  have hz5 := hK5.size
  rw [List.append_nil, List.drop_nil] at hL5
  have HL5 := Lib.hid hL5
  have HK5 := Lib.hid hK5
  clear hL5 hK5 HC
  go_wp2
  have hgv := HGV.out
  have hnf : ∀ x, f x ∨ (w.heap.size ≤ x ∧ x < w1.heap.size) → x < w1.heap.size := fun x hx => hx.elim (fun h => by have := HF.out x h; have := HK1.out.size; omega) fun h => h.2
  have hK35 : Kp (fun x => ¬ (f x ∨ (w.heap.size ≤ x ∧ x < w1.heap.size))) w3 w5 := HK4.out.trans HK5.out
  have hgn : ¬ (f gv ∨ (w.heap.size ≤ gv ∧ gv < w1.heap.size)) := fun h => by have := hnf gv h; omega
  have kv5 := (HKV.out.below hB3 HKV.out.lt).kp hK35 hgn
  refine bodyPost_ret (v := .tuple #[.pointer (some ⟨gv, 0, none⟩), .nilIface]) ?_ rfl ⟨⟨gv, rfl, fun x => (f x ∨ (w.heap.size ≤ x ∧ x < w1.heap.size)) ∨ (w4.heap.size ≤ x ∧ x < w5.heap.size), gl, T', fr, [], .slice none 0 0, .slice none 0 0, ?_, ?_, ?_, hT', by rw [HFR.out]; omega, kv5, ?_, ?_, .nil, by simp [secSum], by simp [VLog.zero]⟩, ?_⟩
  · simp [results, Tryz.results14, Act.put, Sem.run_bind, Sem.run_pure, asAddr_ok]
  · intro x hx
    rcases hx with (hx | hx) | hx
    · exact .inl hx
    · exact .inr (by omega)
    · exact .inr (by have := HK1.out.size; omega)
  · exact .inr (by have := HKV.out.lt; have := HK1.out.size; omega)
  · intro h
    rcases h with h | h
    · exact hgn h
    · have := HKV.out.lt
      omega
  · exact HL5.out
  · exact vm_zero _ _
  · exact HK1.out.trans_new (((Kp.of_below hB2).trans (.of_below hB3)).trans hK35)
end Go.Proofs.YtnlhjhpikjmoaaaGreatDoor
namespace Go.Proofs.YtnlhjhpikjmoaaaGreatDoor
open Go.RowKit
def awkL : VLog := ⟨2, 1, 0, 0, [], [⟨1, 1, [120]⟩]⟩
theorem awkL_right : rightV awkL = true := by decide
theorem awkL_room : ¬ (2000 - 2) / 3 < secSum (recordsV VLog.zero awkL .beg) := by
  have h1 := whole_secs awkL .beg (by decide)
  have h2 : sizeV awkL = 501 := by decide
  have h3 : awkL.es.length = 1 := rfl
  omega
set_option maxRecDepth 100000 in
theorem awkL_vm (w : World) (ok : Nat → Prop) (h : ∀ b, w.heap.size ≤ b → ok b) : VLm ok ((w.alloc (.cells #[.int .u8 120] 5 (1, 2))).alloc (.cells #[.int .u64 1, .int .u64 1, .slice (some ⟨w.heap.size, 0, none⟩) 1 1] 50)) (.slice none 0 0) (.slice (some ⟨w.heap.size + 1, 0, none⟩) 1 1) awkL := by
  obtain ⟨w1, hw1⟩ : ∃ w1, w1 = w.alloc (.cells #[.int .u8 120] 5 (1, 2)) := ⟨_, rfl⟩
  have hz : w1.heap.size = w.heap.size + 1 := by rw [hw1]; simp
  have hrb : RB ok w1 (.slice (some ⟨w.heap.size, 0, none⟩) 1 1) [120] := by rw [hw1]; exact marked_rb w [120] (by decide) (1, 2) (h _ (Nat.le_refl _))
  rw [← hw1, ← hz]
  refine ⟨RSl.nil_ _ _ _, ?_, by decide, ⟨by decide, by decide⟩, by decide, by decide⟩
  have hal : Below w1.heap.size w1 (w1.alloc (.cells #[.int .u64 1, .int .u64 1, .slice (some ⟨w.heap.size, 0, none⟩) 1 1] 50)) := (Below.refl _ _).alloc (Nat.le_refl _) _
  refine ⟨some ⟨w1.heap.size, 0, none⟩, 1, 1, [[.int .u64 1, .int .u64 1, .slice (some ⟨w.heap.size, 0, none⟩) 1 1]], rfl, by decide, rfl, by decide, ?_, ⟨⟨_, rfl, RSl.below hrb hal, by decide, by decide⟩, trivial⟩, fun _ a ha => ?_⟩
  · have := Rd.new w1 50 3 1 #[.int .u64 1, .int .u64 1, .slice (some ⟨w.heap.size, 0, none⟩) 1 1] rfl
    show Rd _ 3 _ _ _
    simpa using this
  · cases ha
    exact h _ (by show w.heap.size ≤ w1.heap.size; omega)
set_option maxRecDepth 100000 in
set_option maxHeartbeats 6400000 in
theorem vawake_any (w : World) : Calls Tryz.prog 9 #[] w fun e w' => e = .returned (.bool true) ∧ Below w.heap.size w w' := by
  go_enter Tryz.func9, Tryz.ntmps9
  go_wp2_with fail
  refine (dNew_any 2000 (by omega) (by omega) w).mono ?_
  rintro e w1 ⟨⟨gd, rfl, hgd, hD1⟩, hb1⟩
  have HOP := Lib.hid (vopen_new (n := 2000) (f := fun b => w.heap.size ≤ b ∧ b < w1.heap.size) (by omega) (by omega) (hD1.mono fun b hb hlt => ⟨hb, hlt⟩) (fun x hx => hx.2))
  clear hD1
  go_wp2_with fail
  refine HOP.out.mono ?_
  rintro e w2 ⟨⟨gv, rfl, hV2⟩, hK2⟩
  have hz1 := hb1.size
  have hz2 := hK2.size
  have hb2 : Below w.heap.size w w2 := hb1.trans (hK2.below hz1 fun x hx h => by omega)
  have hV2 : VltS (fun x => w.heap.size ≤ x ∧ x < w2.heap.size) w2 gv gd 2000 2 VLog.zero := hV2.wide fun x hx => by rcases hx with h | h <;> omega
  have HV2 := Lib.hid hV2
  clear hK2 HOP hV2
  have hcv := conv_const
  go_upto_region 5 with fail
  refine wp_region_split 7 ?_
  simp only [List.take_succ_cons, List.take_zero, List.drop_succ_cons, List.drop_zero]
  go_wp2
  show wpList _ _ _ _ _ _
  have hvm := awkL_vm w2 (fun b => w2.heap.size ≤ b) fun b h => h
  obtain ⟨W3, hW3⟩ : ∃ W3, W3 = ((w2.alloc (.cells #[.int .u8 120] 5 (1, 2))).alloc (.cells #[.int .u64 1, .int .u64 1, .slice (some ⟨w2.heap.size, 0, none⟩) 1 1] 50)) := ⟨_, rfl⟩
  have hzW : W3.heap.size = w2.heap.size + 1 + 1 := by rw [hW3]; simp
  have hB3 : Below w2.heap.size w2 W3 := by rw [hW3]; exact ((Below.refl _ _).alloc (Nat.le_refl _) _).alloc (by simp) _
  rw [← hW3] at hvm
  rw [← hW3]
  obtain ⟨g3, hg3⟩ : ∃ g3, g3 = w2.heap.size + 1 + 1 := ⟨_, rfl⟩
  obtain ⟨be, hbe⟩ : ∃ be, be = w2.heap.size + 1 := ⟨_, rfl⟩
  rw [← hg3, ← hbe]
  rw [← hbe] at hvm
  have HG3 := Lib.hid (hzW.trans hg3.symm)
  have hle3 : w2.heap.size ≤ g3 := by omega
  have hB3' : Below w.heap.size w W3 := hb2.trans (hB3.mono (by omega))
  have hV3 := HV2.out.below hB3
  have kZ : Blk (W3.alloc (.cells #[.int .u64 0, .int .i64 0, .int .u64 0, .int .u64 0, .slice none 0 0, .slice none 0 0] 30)) g3 30 #[.int .u64 0, .int .i64 0, .int .u64 0, .int .u64 0, .slice none 0 0, .slice none 0 0] := Blk.new_ (HG3.out.symm)
  clear hW3 hg3 hbe hzW hB3 hcv
  refine wpList_st rfl rfl (vlCs awkL (.slice none 0 0) (.slice (some ⟨be, 0, none⟩) 1 1)) rfl rfl kZ rfl Tryz.infoLog (vl_all _ _ _ _ _ _ _) ?_ rfl
  intro k9
  have hK9 : Below W3.heap.size W3 (World.setCells (W3.alloc (.cells #[.int .u64 0, .int .i64 0, .int .u64 0, .int .u64 0, .slice none 0 0, .slice none 0 0] 30)) g3 0 (vlCs awkL (.slice none 0 0) (.slice (some ⟨be, 0, none⟩) 1 1)).toList) := below_setCells (by have := HG3.out; omega) _ 0 ((Below.refl _ _).alloc (Nat.le_refl _) _)
  generalize hwz : World.setCells (W3.alloc (.cells #[.int .u64 0, .int .i64 0, .int .u64 0, .int .u64 0, .slice none 0 0, .slice none 0 0] 30)) g3 0 (vlCs awkL (.slice none 0 0) (.slice (some ⟨be, 0, none⟩) 1 1)).toList = wz at k9 hK9 ⊢
  clear hwz kZ
  have hBz : Below w.heap.size w wz := hB3'.trans (hK9.mono hB3'.size)
  have hvz := hvm.below hK9
  have hVz := hV3.below hK9
  have hzz : w2.heap.size ≤ wz.heap.size := by have := hK9.size; have := HG3.out; omega
  obtain ⟨T1, hT1⟩ : ∃ T1 : Array Value, T1 = vlCs awkL (.slice none 0 0) (.slice (some ⟨be, 0, none⟩) 1 1) := ⟨_, rfl⟩
  have hinf : (Tryz.prog.info? 30).map (·.size) = some T1.size := by rw [hT1]; exact Tryz.infoLog
  rw [← hT1] at k9
  have HVM := Lib.hid hvz
  have HVZ := Lib.hid hVz
  have HBZ := Lib.hid hBz
  have HT1 := Lib.hid hT1
  clear hvm hvz hVz hV3 hK9 hB3' hBz hT1
  go_upto_region 6 with fail
  refine wp_seqB (fun x => w.heap.size ≤ x ∧ x < w2.heap.size) 2 [2, 6, 8, 12] (by as_aux_lemma => kernel_rfl) (by as_aux_lemma => kernel_rfl) fun wA hbA => ?_
  refine seqB_pre 1 (by kernel_rfl) ?_
  simp only [List.take_succ_cons, List.take_zero, List.drop_succ_cons, List.drop_zero]
  repeat (go_big_quiet_step (fail))
  refine wpQuiet_nil ?_
  refine seqB_still (.agg T1) rfl rfl (fun s => still_ld (g := g3) (k := 0) rfl rfl (k9.kp s.kp (by omega)).range Tryz.underlying30 rfl hinf) ?_
  have hkA : Kp (fun x => ¬ (w.heap.size ≤ x ∧ x < w2.heap.size)) wz wA := Kp.of_below hbA
  have hzA := hbA.size
  have hBzz := HBZ.out.size
  have HPUT := Lib.hid (vput_any (HVZ.out.below hbA) (fun x hx => by omega) (HVM.out.below hbA) (fun b hb h => by have hb : w2.heap.size ≤ b := hb; omega) (by omega) (by omega) (by omega) (by decide))
  rw [← HT1.out] at HPUT
  refine seqB_wild hkA rfl rfl fun K hK => ?_
  unfold Gives
  go_simp
  refine HPUT.out.mono ?_
  rintro e wB ⟨v, rfl, hKB, l', hVB, hcase⟩
  obtain ⟨rfl, rfl⟩ : l' = awkL ∧ v = .nilIface := by
    rcases hcase with h | h | h
    · exact absurd h.1 (by rw [awkL_right]; decide)
    · exact h.2
    · exact absurd h.2.2.2 awkL_room
  clear hcase HPUT
  refine ⟨_, rfl, hK _ _ (hKB) fun hKB' => ?_⟩
  clear hK
  clear K
  simp only [Act.put, List.setIfInBounds_toArray, List.set_cons_succ, List.set_cons_zero]
  refine seqB_pre 3 (by kernel_rfl) ?_
  simp only [List.take_succ_cons, List.take_zero, List.drop_succ_cons, List.drop_zero]
  repeat (go_big_quiet_step (fail))
  refine wpQuiet_nil ?_
  obtain ⟨f', gl', T', first', recs', vsd', ves', _, _, _, _, _, hbB, _, hmB, _, _, hleB⟩ := hVB
  refine seqB_wild hKB' rfl rfl fun K hK => ?_
  unfold Gives
  go_simp
  refine (vlog_any hbB hmB (by omega)).mono ?_
  rintro e wC ⟨⟨v2, e2, rfl, hm2⟩, hBC⟩
  obtain ⟨A2, c2, rfl, _⟩ := hm2.sd.form
  obtain ⟨A3, c3, rfl, _⟩ := hm2.es.form
  obtain ⟨U, hU⟩ : ∃ U : Array Value, U = vlCs awkL (.slice A2 awkL.sd.length c2) (.slice A3 awkL.es.length c3) := ⟨_, rfl⟩
  rw [← hU]
  have HU := Lib.hid hU
  have HM2 := Lib.hid hm2
  clear hU hm2 hbB hmB hleB
  refine ⟨_, rfl, hK _ _ ((Kp.of_below hBC)) fun hKC' => ?_⟩
  clear hK
  clear K
  simp only [Act.put, List.setIfInBounds_toArray, List.set_cons_succ, List.set_cons_zero]
  refine seqB_still (.agg T1) rfl rfl (fun s => still_ld (g := g3) (k := 0) rfl rfl (k9.kp s.kp (by omega)).range Tryz.underlying30 rfl hinf) ?_
  have hvC : VLm (fun b => w2.heap.size ≤ b) wC _ _ awkL := HVM.out.kp (hKC'.mono fun b hb h => by omega)
  have HLG := Lib.hid (log_any HM2.out hvC)
  rw [← HT1.out, ← HU.out, sameV_refl] at HLG
  clear hvC
  refine seqB_wild hKC' rfl rfl fun K hK => ?_
  unfold Gives
  go_simp
  refine HLG.out.mono ?_
  rintro e wD ⟨rfl, hBD⟩
  refine ⟨_, rfl, hK _ _ ((Kp.of_below hBD)) fun hKD' => ?_⟩
  clear hK
  clear K
  simp only [Act.put, List.setIfInBounds_toArray, List.set_cons_succ, List.set_cons_zero]
  refine seqB_pre 2 (by kernel_rfl) ?_
  simp only [List.take_succ_cons, List.take_zero, List.drop_succ_cons, List.drop_zero]
  repeat (go_big_quiet_step (fail))
  refine wpQuiet_nil ?_
  refine seqB_still (.agg T1) rfl rfl (fun s => still_ld (g := g3) (k := 0) rfl rfl (k9.kp s.kp (by omega)).range Tryz.underlying30 rfl hinf) ?_
  have hvD : VLm (fun b => w2.heap.size ≤ b) wD _ _ awkL := HVM.out.kp (hKD'.mono fun b hb h => by omega)
  have HRG := Lib.hid (vright_any hvD)
  rw [← HT1.out, awkL_right] at HRG
  clear hvD
  refine seqB_wild hKD' rfl rfl fun K hK => ?_
  unfold Gives
  go_simp
  refine HRG.out.mono ?_
  rintro e wE ⟨rfl, hBE⟩
  refine ⟨_, rfl, hK _ _ ((Kp.of_below hBE)) fun hKE' => ?_⟩
  clear hK
  clear K
  simp only [Act.put, List.setIfInBounds_toArray, List.set_cons_succ, List.set_cons_zero]
  refine seqB_pre 2 (by kernel_rfl) ?_
  simp only [List.take_succ_cons, List.take_zero, List.drop_succ_cons, List.drop_zero]
  repeat (go_big_quiet_step (fail))
  refine wpQuiet_nil ?_
  refine seqB_nil ?_
  go_wp2
  go_ret
  exact ⟨rfl, HBZ.out.trans (hKE'.below hBzz fun b hb h => by omega)⟩
end Go.Proofs.YtnlhjhpikjmoaaaGreatDoor
namespace Go.Proofs.YtnlhjhpikjmoaaaGreatDoor
open Go.RowKit
theorem numF_head (f x : Nat) : ∃ l, numF f x = UInt8.ofNat (if x < 128 ∨ f = 0 then x else x % 128 + 128) :: l ∧ (¬ (x < 128 ∨ f = 0) → l = numF (f - 1) (x / 128)) ∧ ((x < 128 ∨ f = 0) → l = []) := by
  cases f with
  | zero => exact ⟨[], by simp [numF], by simp, by simp⟩
  | succ f =>
    by_cases h : x < 128
    · exact ⟨[], by simp [numF, h], by simp [h], by simp⟩
    · exact ⟨numF f (x / 128), by simp [numF, h], by simp, by simp [h]⟩
theorem look_bits (cur y m : Nat) (hc : cur < 128 ^ m) (hy : y < 256) (hf : cur + (y % 128) * 128 ^ m < 18446744073709551616) :
    bits BinOp.or IntKind.u64 (cur : Int) (IntKind.u64.wrap (IntKind.u64.wrap (bits BinOp.and IntKind.u8 (y : Int) 127) * 2 ^ (7 * m))) = ((cur + (y % 128) * 128 ^ m : Nat) : Int) := by
  have h1 : bits BinOp.and IntKind.u8 (y : Int) 127 = ((y % 128 : Nat) : Int) := by
    have := u8_and_nat y 127 hy (by omega)
    refine this.trans ?_
    rw [show (127 : Nat) = 2 ^ 7 - 1 from rfl, Nat.and_two_pow_sub_one_eq_mod]
  have hp : (128 : Nat) ^ m = 2 ^ (7 * m) := by rw [show (128 : Nat) = 2 ^ 7 from rfl, ← Nat.pow_mul]
  have h2 : IntKind.u64.wrap ((y % 128 : Nat) : Int) = ((y % 128 : Nat) : Int) := by rw [IntKind.wrap_u64]; omega
  have h3 : ((y % 128 : Nat) : Int) * 2 ^ (7 * m) = (((y % 128) * 128 ^ m : Nat) : Int) := by rw [hp]; push_cast; rfl
  have h4 : IntKind.u64.wrap (((y % 128) * 128 ^ m : Nat) : Int) = (((y % 128) * 128 ^ m : Nat) : Int) := by
    rw [IntKind.wrap_u64]
    generalize (y % 128) * 128 ^ m = q at hf ⊢
    omega
  rw [h1, h2, h3, h4, u64_or_nat _ _ (by omega) (by omega), hp, Nat.mul_comm (y % 128), Nat.or_comm, ← Nat.two_pow_add_eq_or_of_lt (by rw [← hp]; exact hc), Nat.add_comm]
set_option maxRecDepth 100000 in
set_option maxHeartbeats 3200000 in
theorem look_any {ok : Nat → Prop} {w : World} {gr c at_ : Nat} {A : Option Addr} {e0 : Value} {b rest : List UInt8} {v : Nat} (hk : Blk w gr 141 #[.slice A b.length c, .int .i64 (at_ : Int), e0]) (hb : RB ok w (.slice A b.length c) b) (hd : b.drop at_ = numB v ++ rest) (hv : v < 18446744073709551616) :
    Calls Tryz.prog 109 #[.pointer (some ⟨gr, 0, none⟩)] w fun e w' => e = .returned (.tuple #[.int .u64 (v : Int), .int .i64 ((at_ + (numB v).length : Nat) : Int), .int .i64 0]) ∧ Below w.heap.size w w' := by
  obtain ⟨A', c', hve, hc, hm, hrd, _⟩ := hb.open_
  obtain ⟨rfl, rfl⟩ : A = A' ∧ c = c' := by simpa using hve
  obtain ⟨n, hn⟩ : ∃ n, n = b.length := ⟨_, rfl⟩
  rw [← hn] at hk hc hm hrd
  have HN := Lib.hid hn
  have HRD := Lib.hid hrd
  have HV := Lib.hid hv
  have HD := Lib.hid hd
  have HK := Lib.hid hk
  clear hve hn hrd hv hd hk hb
  go_enter Tryz.func109, Tryz.ntmps109
  go_upto_region 3 with fail
  go_loopw [5, 8] (fun vv vi wr => ∃ (m cur : Nat), vi = .int .i64 (m : Int) ∧ vv = .int .u64 (cur : Int) ∧ m ≤ 9 ∧ Below w.heap.size w wr ∧ Hid (cur = v % 128 ^ m ∧ b.drop (at_ + m) = numF (9 - m) (v / 128 ^ m) ++ rest ∧ (m = 0 ∨ 1 ≤ v / 128 ^ m) ∧ (numB v).length = m + (numF (9 - m) (v / 128 ^ m)).length)) (fun _ vi _ => 10 - (intOf vi).toNat)
  case atStart => exact ⟨0, 0, rfl, rfl, by omega, Below.refl _ _, Lib.hid ⟨by simp [Nat.mod_one], by have := HD.out; unfold numB at this; simpa using this, .inl rfl, by simp [numB]⟩⟩
  case round =>
    obtain ⟨m, cur, rfl, rfl, hm9, hB, HP⟩ := hrel
    obtain ⟨l, hl1, hl2, hl3⟩ := numF_head (9 - m) (v / 128 ^ m)
    obtain ⟨x, hx⟩ : ∃ x, x = v / 128 ^ m := ⟨_, rfl⟩
    obtain ⟨y, hy⟩ : ∃ y, y = (if x < 128 ∨ 9 - m = 0 then x else x % 128 + 128) := ⟨_, rfl⟩
    rw [← hx, ← hy] at hl1
    rw [← hx] at hl2 hl3
    have hv := HV.out
    have hx9 : m = 9 → x ≤ 1 := fun h => by
      subst h
      rw [hx]
      omega
    have hxs : x < 128 ∨ m < 9 := by
      rcases Nat.lt_or_ge m 9 with h | h
      · exact .inr h
      · exact .inl (by have := hx9 (by omega); omega)
    have hym : y % 128 = x % 128 ∧ y < 256 ∧ (x < 128 → y = x) ∧ (¬ x < 128 → y = x % 128 + 128) := by
      rw [hy]
      split
      · rename_i h
        have : x < 128 := by omega
        omega
      · omega
    have hy256 : y < 256 := hym.2.1
    have hcur : cur < 128 ^ m := by rw [HP.out.1]; exact Nat.mod_lt _ (Nat.pow_pos (by omega))
    have hsum : cur + (y % 128) * 128 ^ m = v % 128 ^ (m + 1) := by
      rw [HP.out.1, hym.1, hx, Nat.pow_succ, Nat.mod_mul, Nat.mul_comm (128 ^ m)]
    have hfin : x < 128 → cur + (y % 128) * 128 ^ m = v := fun h => by
      rw [HP.out.1, hym.1, Nat.mod_eq_of_lt h, hx, Nat.mul_comm]
      exact Nat.mod_add_div _ _
    have HLB := Lib.hid (look_bits cur y m hcur hy256 (by rw [hsum]; exact Nat.lt_of_le_of_lt (Nat.mod_le _ _) hv))
    have HFIN := Lib.hid (And.intro hsum (And.intro hfin (And.intro hx9 (And.intro hxs hym))))
    have hcons : b.drop (at_ + m) = UInt8.ofNat y :: (l ++ rest) := by
      have := HP.out.2.1
      rw [← hx, hl1] at this
      exact this
    have hlt : at_ + m < n := by
      have := congrArg List.length hcons
      rw [List.length_drop, List.length_cons] at this
      have := HN.out
      omega
    have hbl : at_ + m < b.length := by rw [← HN.out]; exact hlt
    have hby : b[at_ + m] = UInt8.ofNat y := by
      have := congrArg (fun q => q[0]?) hcons
      simpa [List.getElem?_drop, hbl] using this
    obtain ⟨b9, off9, hA9, _, g9⟩ := (HRD.out.below hB).byteB hbl
    subst hA9
    rw [hby, show (UInt8.ofNat y).toNat = y by rw [UInt8.toNat_ofNat']; omega] at g9
    have kr := HK.out.below hB HK.out.lt
    have q9 : ∀ s : Later wr, s.val.cell? ⟨b9, off9 + (at_ + m), none⟩ = some (.int .u8 (y : Int)) := Later.cell g9
    have p0 : ∀ s : Later wr, s.val.cell? ⟨gr, 0, none⟩ = some (.slice (some ⟨b9, off9, none⟩) n c) := Later.cell (kr.cell 0)
    have p1 : ∀ s : Later wr, s.val.cell? ⟨gr, 1, none⟩ = some (.int .i64 (at_ : Int)) := Later.cell (kr.cell 1)
    have z1 : decide ((at_ : Int) + (m : Int) ≥ (n : Int)) = false := decide_eq_false (by omega)
    have z2 : decide ((n : Int) ≤ (at_ : Int) + (m : Int)) = false := decide_eq_false (by omega)
    have z3 : decide (n ≤ at_ + m) = false := decide_eq_false (by omega)
    have HX := Lib.hid hx
    have HY := Lib.hid hy
    have HL := Lib.hid (And.intro hl1 (And.intro hl2 hl3))
    clear hcur hsum hfin hx9 hxs hym hv hl1 hl2 hl3 hx hy hcons hbl hby g9 kr
    go_upto_region 5 with fail
    refine wp_seqL [] (by as_aux_lemma => kernel_rfl) (by as_aux_lemma => kernel_rfl) fun w2 hb2 => ?_
    refine seqL_pre 12 (by kernel_rfl) ?_
    simp only [List.take_succ_cons, List.take_zero, List.drop_succ_cons, List.drop_zero]
    repeat (go_big_quiet_step (fail))
    refine wpQuiet_nil ?_
    refine seqL_nil ?_
    go_upto_region 7 with fail
    have q9 : ∀ s : Later w2, s.val.cell? ⟨b9, off9 + (at_ + m), none⟩ = some (.int .u8 (y : Int)) := Later.cell (q9 ⟨w2, hb2⟩)
    have p0 : ∀ s : Later w2, s.val.cell? ⟨gr, 0, none⟩ = some (.slice (some ⟨b9, off9, none⟩) n c) := Later.cell (p0 ⟨w2, hb2⟩)
    have p1 : ∀ s : Later w2, s.val.cell? ⟨gr, 1, none⟩ = some (.int .i64 (at_ : Int)) := Later.cell (p1 ⟨w2, hb2⟩)
    refine wp_seqL [] (by as_aux_lemma => kernel_rfl) (by as_aux_lemma => kernel_rfl) fun w3 hb3 => ?_
    refine seqL_pre 13 (by kernel_rfl) ?_
    simp only [List.take_succ_cons, List.take_zero, List.drop_succ_cons, List.drop_zero]
    repeat (go_big_quiet_step (fail))
    refine wpQuiet_nil ?_
    refine seqL_nil ?_
    go_upto_region 9 with fail
    rw [HLB.out]
    obtain ⟨Z, hZ⟩ : ∃ Z, Z = cur + (y % 128) * 128 ^ m := ⟨_, rfl⟩
    rw [← hZ]
    have hBz := hB.trans ((hb2.trans (hb3.mono hb2.size)).mono hB.size)
    have hzz := hBz.size
    have kr := (HK.out.below hB HK.out.lt).below (hb2.trans (hb3.mono hb2.size)) (by have := HK.out.lt; have := hB.size; omega)
    have HZ := Lib.hid hZ
    have HKR := Lib.hid kr
    clear hZ q9 p0 p1 z1 z2 z3 kr
    by_cases hs : x < 128
    · have hyx : y = x := HFIN.out.2.2.2.2.2.2.1 hs
      have z5 : decide ((y : Int) < 128) = true := decide_eq_true (by omega)
      have z6 : decide (y < 128) = true := decide_eq_true (by omega)
      have HE1 := Lib.hid (show Z = v by rw [HZ.out]; exact HFIN.out.2.1 hs)
      have HE2 := Lib.hid (show (numB v).length = m + 1 by
        have h1 := HP.out.2.2.2
        rw [← HX.out, HL.out.1, HL.out.2.2 (.inl hs)] at h1
        simpa using h1)
      have hy1 : m = 9 → y ≤ 1 := fun h => by have := HFIN.out.2.2.1 h; omega
      have hy0 : m ≠ 0 → 1 ≤ y := fun h => by
        have h1 := HP.out.2.2.1
        rw [← HX.out] at h1
        omega
      go_cut [48] (fun v wx => v = .bool false ∧ wx = w3)
      case first =>
        by_cases h9 : m = 9
        · have z7 : ((m : Int) == 9) = true := by rw [beq_iff_eq]; omega
          have z8 : decide ((y : Int) > 1) = false := decide_eq_false (by have := hy1 h9; omega)
          have z9 : decide (1 < y) = false := decide_eq_false (by have := hy1 h9; omega)
          clear h9 hy1 hy0 hyx
          go_wp2
          go_meet
          exact ⟨rfl, rfl⟩
        · have z7 : ((m : Int) == 9) = false := by rw [beq_eq_false_iff_ne]; omega
          clear h9 hy1 hy0 hyx
          go_wp2
          go_meet
          exact ⟨rfl, rfl⟩
      obtain ⟨rfl, hwx⟩ := hcut
      rw [hwx]
      clear hwx
      go_upto_region 11 with fail
      go_cut [56] (fun v wx => v = .bool false ∧ wx = w3)
      case first =>
        by_cases h0 : y = 0
        · have hm0 : m = 0 := Decidable.byContradiction fun h => by have := hy0 h; omega
          have z7 : ((y : Int) == 0) = true := by rw [beq_iff_eq]; omega
          have z8 : decide ((m : Int) > 0) = false := decide_eq_false (by omega)
          have z9 : decide (0 < m) = false := decide_eq_false (by omega)
          clear h0 hm0 hy1 hy0 hyx
          go_wp2
          go_meet
          exact ⟨rfl, rfl⟩
        · have z7 : ((y : Int) == 0) = false := by rw [beq_eq_false_iff_ne]; omega
          clear h0 hy1 hy0 hyx
          go_wp2
          go_meet
          exact ⟨rfl, rfl⟩
      obtain ⟨rfl, hwx⟩ := hcut
      rw [hwx]
      clear hwx hyx hy1 hy0
      have p1 : ∀ s : Later w3, s.val.cell? ⟨gr, 1, none⟩ = some (.int .i64 (at_ : Int)) := Later.cell (HKR.out.cell 1)
      go_upto_region 12 with fail
      refine wp_seqL [] (by as_aux_lemma => kernel_rfl) (by as_aux_lemma => kernel_rfl) fun w4 hb4 => ?_
      refine seqL_pre 11 (by kernel_rfl) ?_
      simp only [List.take_succ_cons, List.take_zero, List.drop_succ_cons, List.drop_zero]
      repeat (go_big_quiet_step (fail))
      refine wpQuiet_nil ?_
      refine seqL_nil ?_
      go_wp2
      refine bodyPost_ret (v := .tuple #[.int .u64 (Z : Int), .int .i64 ((at_ : Int) + (m : Int) + 1), .int .i64 0]) ?_ rfl ⟨?_, hBz.trans (hb4.mono hzz)⟩
      · simp [results, Tryz.results109, Act.put, Sem.run_bind, Sem.run_pure, asAddr_ok]
      · rw [HE1.out, HE2.out]
        simp [Int.add_assoc]
    · have hm8 : m < 9 := by have := HFIN.out.2.2.2.1; omega
      have hyx : y = x % 128 + 128 := HFIN.out.2.2.2.2.2.2.2 hs
      have z5 : decide ((y : Int) < 128) = false := decide_eq_false (by omega)
      have z6 : decide (y < 128) = false := decide_eq_false (by omega)
      have z7 : ((m : Int) == 9) = false := by rw [beq_eq_false_iff_ne]; omega
      have HN2 := Lib.hid (show Z = v % 128 ^ (m + 1) ∧ b.drop (at_ + (m + 1)) = numF (9 - (m + 1)) (v / 128 ^ (m + 1)) ++ rest ∧ (m + 1 = 0 ∨ 1 ≤ v / 128 ^ (m + 1)) ∧ (numB v).length = (m + 1) + (numF (9 - (m + 1)) (v / 128 ^ (m + 1))).length by
        have hl := HL.out.2.1 (by omega)
        have hxd : x / 128 = v / 128 ^ (m + 1) := by rw [HX.out, Nat.div_div_eq_div_mul, Nat.pow_succ]
        refine ⟨by rw [HZ.out]; exact HFIN.out.1, ?_, .inr (by rw [← hxd]; omega), ?_⟩
        · have h1 := HP.out.2.1
          rw [← HX.out, HL.out.1] at h1
          have h2 := congrArg (List.drop 1) h1
          rw [List.drop_drop] at h2
          rw [← hxd, show 9 - (m + 1) = 9 - m - 1 by omega, ← hl]
          simpa [Nat.add_assoc] using h2
        · have h1 := HP.out.2.2.2
          rw [← HX.out, HL.out.1, List.length_cons] at h1
          rw [← hxd, show 9 - (m + 1) = 9 - m - 1 by omega, ← hl]
          omega)
      clear hs hyx
      go_wp2
      go_roundw
      case rel => exact ⟨m + 1, Z, by go_num, rfl, by omega, hBz, HN2⟩
      case measure => simp [intOf]; omega
def Rdr (ok : Nat → Prop) (w : World) (gr : Nat) (rest : List UInt8) : Prop :=
  ∃ (A : Option Addr) (c at_ : Nat) (b : List UInt8), Blk w gr 141 #[.slice A b.length c, .int .i64 (at_ : Int), .int .i64 0] ∧ RB (fun x => ok x ∧ x ≠ gr) w (.slice A b.length c) b ∧ b.drop at_ = rest ∧ at_ ≤ b.length
section
variable {ok okk : Nat → Prop} {w w' : World} {gr : Nat} {rest : List UInt8}
theorem Rdr.kp (h : Rdr ok w gr rest) (hk : Kp okk w w') (hok : ∀ b, ok b → okk b) (hg : okk gr) : Rdr ok w' gr rest := by
  obtain ⟨A, c, at_, b, h1, h2, h3, h4⟩ := h
  exact ⟨A, c, at_, b, h1.kp hk hg, RSl.kp (hk.mono fun b hb => hok b hb.1) h2, h3, h4⟩
theorem Rdr.below (h : Rdr ok w gr rest) (hb : Below w.heap.size w w') : Rdr ok w' gr rest := h.kp (okk := fun _ => True) (.of_below hb) (fun _ _ => trivial) trivial
end
set_option maxRecDepth 100000 in
set_option maxHeartbeats 3200000 in
theorem rnum_any {ok : Nat → Prop} {w : World} {gr v most : Nat} {rest : List UInt8} (h : Rdr ok w gr (numB v ++ rest)) (hv : v < 18446744073709551616) (hm : v ≤ most) :
    Calls Tryz.prog 102 #[.pointer (some ⟨gr, 0, none⟩), .int .u64 (most : Int)] w fun e w' => e = .returned (.int .u64 (v : Int)) ∧ Rdr ok w' gr rest ∧ Kp (fun b => b ≠ gr) w w' := by
  obtain ⟨A, c, at_, b, hk, hb, hd, hat⟩ := h
  have HLK := Lib.hid (look_any hk hb hd hv)
  have hc := hb.form
  obtain ⟨A', c', hve, _, hbl⟩ := hb.form
  have hbl2 : b.length ≤ 140737488351232 := by simpa [rU8] using hbl
  obtain ⟨k, hkk⟩ : ∃ k, k = (numB v).length := ⟨_, rfl⟩
  have hle : at_ + k ≤ b.length := by
    have := congrArg List.length hd
    rw [List.length_drop, List.length_append] at this
    have h1 := numB_pos v
    omega
  have hd2 : b.drop (at_ + k) = rest := by
    rw [← List.drop_drop, hd, hkk, List.drop_left]
  rw [← hkk] at HLK
  have HD := Lib.hid (And.intro hd2 hle)
  have HB := Lib.hid hb
  have HK := Lib.hid hk
  have p2 : w.cell? ⟨gr, 2, none⟩ = some (.int .i64 0) := hk.cell 2
  have z1 : decide ((v : Int) > (most : Int)) = false := decide_eq_false (by omega)
  have z2 : decide (most < v) = false := decide_eq_false (by omega)
  clear hd hb hk hc hve hbl hkk hd2 hv hm
  go_enter Tryz.func102, Tryz.ntmps102
  go_wp2_with fail
  refine HLK.out.mono ?_
  rintro e w1 ⟨rfl, hB1⟩
  have k1 := HK.out.below hB1 HK.out.lt
  have p1 : w1.cell? ⟨gr, 1, none⟩ = some (.int .i64 (at_ : Int)) := k1.cell 1
  have f1 : w1.frozen? ⟨gr, 1, none⟩ = false := k1.frozen 1
  have HR := Lib.hid (show Rdr ok (w1.setCell ⟨gr, 1, none⟩ (.int .i64 ((at_ + k : Nat) : Int))) gr rest ∧ Kp (fun b => b ≠ gr) w (w1.setCell ⟨gr, 1, none⟩ (.int .i64 ((at_ + k : Nat) : Int))) from
    ⟨⟨A, c, at_ + k, b, k1.set_ 1 _, RSl.kp (((Kp.of_below hB1).setCell (p := ⟨gr, 1, none⟩) (fun _ h => h.2 rfl) _)) HB.out, HD.out.1, HD.out.2⟩, (Kp.of_below hB1).setCell (p := ⟨gr, 1, none⟩) (fun _ h => h rfl) _⟩)
  clear HLK k1 p2
  go_wp2
  go_ret
  refine ⟨rfl, ?_⟩
  have := HR.out
  exact this
theorem rNum_any {ok : Nat → Prop} {w : World} {gr v : Nat} {rest : List UInt8} (h : Rdr ok w gr (numB v ++ rest)) (hv : v < 18446744073709551616) :
    Calls Tryz.prog 86 #[.pointer (some ⟨gr, 0, none⟩)] w fun e w' => e = .returned (.int .u64 (v : Int)) ∧ Rdr ok w' gr rest ∧ Kp (fun b => b ≠ gr) w w' := by
  have HN := Lib.hid (rnum_any (most := 18446744073709551615) h hv (by omega))
  clear h hv
  go_enter Tryz.func86, Tryz.ntmps86
  go_wp2_with fail
  refine HN.out.mono ?_
  rintro e w1 ⟨rfl, hr, hk⟩
  have HR := Lib.hid (And.intro hr hk)
  clear hr hk
  go_wp2
  go_ret
  exact ⟨rfl, HR.out⟩
theorem rSmall_any {ok : Nat → Prop} {w : World} {gr v most : Nat} {rest : List UInt8} (h : Rdr ok w gr (numB v ++ rest)) (hv : v ≤ most) (hm : most ≤ 1000000) :
    Calls Tryz.prog 85 #[.pointer (some ⟨gr, 0, none⟩), .int .i64 (most : Int)] w fun e w' => e = .returned (.int .i64 (v : Int)) ∧ Rdr ok w' gr rest ∧ Kp (fun b => b ≠ gr) w w' := by
  have HN := Lib.hid (rnum_any (most := most) h (by omega) hv)
  have hmx : max (most : Int) 0 = (most : Int) := by omega
  clear h
  go_enter Tryz.func85, Tryz.ntmps85
  go_wp2_with fail
  refine HN.out.mono ?_
  rintro e w1 ⟨rfl, hr, hk⟩
  have HR := Lib.hid (And.intro hr hk)
  clear hr hk
  go_wp2
  go_ret
  exact ⟨rfl, HR.out⟩
theorem Tryz.rowU8v : RowTy Tryz.prog 25 5 1 1 := rowTy_mk Tryz.underlying25 (by kernel_rfl)
theorem rErr_any {ok : Nat → Prop} {w : World} {gr : Nat} {rest : List UInt8} (h : Rdr ok w gr rest) : Calls Tryz.prog 84 #[.pointer (some ⟨gr, 0, none⟩)] w fun e w' => e = .returned (.int .i64 0) ∧ w' = w := by
  obtain ⟨A, c, at_, b, hk, hb, hd, hat⟩ := h
  have p2 : w.cell? ⟨gr, 2, none⟩ = some (.int .i64 0) := hk.cell 2
  clear hk hb hd hat
  go_enter Tryz.func84, Tryz.ntmps84
  go_wp2
  go_ret
  exact ⟨rfl, rfl⟩
set_option maxRecDepth 100000 in
set_option maxHeartbeats 1600000 in
theorem rLeft_any {ok : Nat → Prop} {w : World} {gr : Nat} {rest : List UInt8} (h : Rdr ok w gr rest) : Calls Tryz.prog 83 #[.pointer (some ⟨gr, 0, none⟩)] w fun e w' => e = .returned (.int .i64 (rest.length : Int)) ∧ Below w.heap.size w w' := by
  obtain ⟨A, c, at_, b, hk, hb, hd, hat⟩ := h
  have hl : (b.length : Int) - (at_ : Int) = (rest.length : Int) := by rw [← hd, List.length_drop]; omega
  have hm := hb.form
  obtain ⟨_, _, _, _, hbl⟩ := hm
  have hbl2 : b.length ≤ 140737488351232 := by simpa [rU8] using hbl
  obtain ⟨n, hn⟩ : ∃ n, n = b.length := ⟨_, rfl⟩
  rw [← hn] at hk hat hl hbl2
  have HL := Lib.hid hl
  have p0 : ∀ s : Later w, s.val.cell? ⟨gr, 0, none⟩ = some (.slice A n c) := Later.cell (hk.cell 0)
  have p1 : ∀ s : Later w, s.val.cell? ⟨gr, 1, none⟩ = some (.int .i64 (at_ : Int)) := Later.cell (hk.cell 1)
  clear hk hb hd hbl hn hl
  go_enter Tryz.func83, Tryz.ntmps83
  go_upto_region 3 with fail
  refine wp_seqL [] (by as_aux_lemma => kernel_rfl) (by as_aux_lemma => kernel_rfl) fun w2 hb2 => ?_
  refine seqL_pre 11 (by kernel_rfl) ?_
  simp only [List.take_succ_cons, List.take_zero, List.drop_succ_cons, List.drop_zero]
  repeat (go_big_quiet_step (fail))
  refine wpQuiet_nil ?_
  refine seqL_nil ?_
  go_wp2
  go_ret
  exact ⟨by rw [← HL.out]; rfl, hb2⟩
theorem rEnd_any {ok : Nat → Prop} {w : World} {gr : Nat} (h : Rdr ok w gr []) : Calls Tryz.prog 56 #[.pointer (some ⟨gr, 0, none⟩)] w fun e w' => e = .returned (.int .i64 0) ∧ Below w.heap.size w w' := by
  have HE := Lib.hid (rErr_any h)
  have HL := Lib.hid (show Calls Tryz.prog 83 #[.pointer (some ⟨gr, 0, none⟩)] w fun e w' => e = .returned (.int .i64 0) ∧ Below w.heap.size w w' from rLeft_any h)
  clear h
  go_enter Tryz.func56, Tryz.ntmps56
  go_wp2_with fail
  refine HE.out.mono ?_
  rintro e w1 ⟨rfl, rfl⟩
  go_wp2_with fail
  refine HL.out.mono ?_
  rintro e w2 ⟨rfl, hB⟩
  go_wp2
  go_ret
  exact ⟨rfl, hB⟩
theorem rNew_any {ok : Nat → Prop} {w : World} {v : Value} {b : List UInt8} (h : RB ok w v b) : Calls Tryz.prog 54 #[v] w fun e w' => (∃ gr, e = .returned (.pointer (some ⟨gr, 0, none⟩)) ∧ w.heap.size ≤ gr ∧ Rdr (fun x => w.heap.size ≤ x) w' gr b) ∧ Below w.heap.size w w' := by
  obtain ⟨A, c, rfl, hc, hm, hrd, _⟩ := h.open_
  obtain ⟨n, hn⟩ : ∃ n, n = b.length := ⟨_, rfl⟩
  rw [← hn] at hrd hc hm ⊢
  have HN := Lib.hid hn
  have HRD := Lib.hid hrd
  clear hn hrd h
  go_enter Tryz.func54, Tryz.ntmps54
  go_wp2_with (at_builtin; refine wp_append_bytes rfl _ _ rfl w.heap.size none 0 0 [] w rfl (OwnB.nil_ _ _) A n c b rfl HRD.out (by omega) (Nat.le_refl _) ?_; intro A7 c7 w7 hown7 hb7)
  go_ret
  have hal : Below w7.heap.size w7 (w7.alloc (.cells #[.slice A7 n c7, .int .i64 0, .int .i64 0] 141)) := (Below.refl _ _).alloc (Nat.le_refl _) _
  have hlt := World.ownsRow.lt hown7
  refine ⟨⟨w7.heap.size, rfl, hb7.size, A7, c7, 0, b, ?_, ?_, rfl, Nat.zero_le _⟩, hb7.trans (hal.mono hb7.size)⟩
  · have := Blk.new w7 141 #[.slice A7 n c7, .int .i64 0, .int .i64 0]
    rw [← HN.out]
    exact this
  · have h1 := (hown7.rb (by omega)).mono (by decide) (ok' := fun x => w.heap.size ≤ x ∧ x ≠ w7.heap.size) fun x hx hlt => ⟨hx, by omega⟩
    have h2 := RSl.below h1 hal
    rw [← HN.out]
    simpa using h2
set_option maxRecDepth 100000 in
set_option maxHeartbeats 6400000 in
theorem rText_any {ok : Nat → Prop} {w : World} {gr most : Nat} {d rest : List UInt8} (h : Rdr ok w gr (txtB d ++ rest)) (hd : d.length ≤ most) (hm : most ≤ 1000000) :
    Calls Tryz.prog 87 #[.pointer (some ⟨gr, 0, none⟩), .int .i64 (most : Int)] w fun e w' => (∃ v, e = .returned v ∧ RB (fun b => w.heap.size ≤ b) w' v d) ∧ Rdr ok w' gr rest ∧ Kp (fun b => b ≠ gr) w w' := by
  have HS := Lib.hid (rSmall_any (v := d.length) (most := most) (rest := d ++ rest) (by unfold txtB at h; rwa [List.append_assoc] at h) hd hm)
  obtain ⟨A0, c0, at0, b0, hk0, hb0, hdr0, hat0⟩ := h
  have p1 : w.cell? ⟨gr, 1, none⟩ = some (.int .i64 (at0 : Int)) := hk0.cell 1
  have p2 : w.cell? ⟨gr, 2, none⟩ = some (.int .i64 0) := hk0.cell 2
  clear hk0 hb0 hdr0 hat0
  obtain ⟨n, hn⟩ : ∃ n, n = d.length := ⟨_, rfl⟩
  rw [← hn] at HS hd
  have HN := Lib.hid hn
  clear hn
  go_enter Tryz.func87, Tryz.ntmps87
  go_wp2_with fail
  refine HS.out.mono ?_
  rintro e w1 ⟨rfl, ⟨A, c, at_, b, hk, hb, hdr, hat⟩, hK1⟩
  have hm2 := hb.form
  obtain ⟨_, _, hcc, hc, hbl⟩ := hm2
  have hbl2 : b.length ≤ 140737488351232 := by simpa [rU8] using hbl
  have hc : b.length ≤ c := by
    obtain ⟨A', c', hv, hc', _⟩ := hb.open_
    simp only [Value.slice.injEq] at hv
    omega
  have hle : at_ + n ≤ b.length := by
    have := congrArg List.length hdr
    rw [List.length_drop, List.length_append] at this
    have := HN.out
    omega
  have hrest : b.drop (at_ + n) = rest := by rw [← List.drop_drop, hdr, HN.out, List.drop_left]
  have hdd : (b.drop at_).take n = d := by rw [hdr, HN.out, List.take_left]
  obtain ⟨bl, hbl'⟩ : ∃ bl, bl = b.length := ⟨_, rfl⟩
  have HB := Lib.hid hb
  have HK := Lib.hid hk
  have HK1 := Lib.hid hK1
  rw [← hbl'] at hk hc hle hbl2
  have HX := Lib.hid (And.intro hrest (And.intro hdd hbl'))
  have q0 : ∀ s : Later w1, s.val.cell? ⟨gr, 0, none⟩ = some (.slice A bl c) := Later.cell (hk.cell 0)
  have q1 : ∀ s : Later w1, s.val.cell? ⟨gr, 1, none⟩ = some (.int .i64 (at_ : Int)) := Later.cell (hk.cell 1)
  have q2 : ∀ s : Later w1, s.val.cell? ⟨gr, 2, none⟩ = some (.int .i64 0) := Later.cell (hk.cell 2)
  have z1 : decide ((n : Int) > (bl : Int) - (at_ : Int)) = false := decide_eq_false (by omega)
  have z2 : decide ((bl : Int) - (at_ : Int) < (n : Int)) = false := decide_eq_false (by omega)
  have HKB := Lib.hid hk
  have hgl := hk.lt
  clear hk hb hrest hdd hbl' hdr p1 p2 hbl hcc hK1 HS
  go_upto_region 5 with fail
  refine wp_seqL [] (by as_aux_lemma => kernel_rfl) (by as_aux_lemma => kernel_rfl) fun w2 hb2 => ?_
  refine seqL_pre 19 (by kernel_rfl) ?_
  simp only [List.take_succ_cons, List.take_zero, List.drop_succ_cons, List.drop_zero]
  repeat (go_big_quiet_step (fail))
  refine wpQuiet_nil ?_
  refine seqL_nil ?_
  have k2 := HKB.out.below hb2 hgl
  have c1 : w2.cell? ⟨gr, 1, none⟩ = some (.int .i64 (at_ : Int)) := k2.cell 1
  have c2 : w2.cell? ⟨gr, 2, none⟩ = some (.int .i64 0) := k2.cell 2
  have f1 : w2.frozen? ⟨gr, 1, none⟩ = false := k2.frozen 1
  clear q0 q1 q2 z1 z2
  go_upto_region 10 with fail
  refine name_world (fun w3 => Blk w3 gr 141 #[.slice A bl c, .int .i64 ((at_ + n : Nat) : Int), .int .i64 0] ∧ Kp (fun b => b ≠ gr) w2 w3) ⟨by simpa using k2.set_ 1 (.int .i64 ((at_ + n : Nat) : Int)), (Kp.refl _ _).setCell (p := ⟨gr, 1, none⟩) (fun _ h => h rfl) _⟩ ?_
  rintro w3 ⟨k3, hK3⟩
  have hB12 : Kp (fun b => b ≠ gr) w1 w3 := (Kp.of_below hb2).trans hK3
  have hrb3 : RB (fun x => ok x ∧ x ≠ gr) w3 (.slice A bl c) b := by
    have := RSl.kp (hB12.mono (ok' := fun x => ok x ∧ x ≠ gr) fun x hx => hx.2) HB.out
    rw [← HX.out.2.2] at this
    exact this
  have hsl : Rd w3 1 (if c = at_ then A else A.map (·.add (at_ * 1))) n (bs d) := by
    have h1 := (RSl.drop hrb3 (k := at_) (by omega)).take (k := n) (by omega)
    rw [HX.out.2.1] at h1
    obtain ⟨A', c', hv, _, _, hrd, _⟩ := (show RB _ w3 _ d from h1).open_
    simp only [Value.slice.injEq] at hv
    rw [← hv.1, ← HN.out] at hrd
    exact hrd
  obtain ⟨AS, hAS⟩ : ∃ AS, AS = (if c = at_ then A else A.map (·.add (at_ * 1))) := ⟨_, rfl⟩
  rw [← hAS] at hsl
  have HSL := Lib.hid hsl
  have HRB := Lib.hid hrb3
  have HR3 := Lib.hid (show Rdr ok w3 gr rest from ⟨A, c, at_ + n, b, by rw [← HX.out.2.2]; exact k3, by rw [← HX.out.2.2]; exact hrb3, HX.out.1, by rw [← HX.out.2.2]; omega⟩)
  have q0 : ∀ s : Later w3, s.val.cell? ⟨gr, 0, none⟩ = some (.slice A bl c) := Later.cell (k3.cell 0)
  have q1 : ∀ s : Later w3, s.val.cell? ⟨gr, 1, none⟩ = some (.int .i64 ((at_ + n : Nat) : Int)) := Later.cell (k3.cell 1)
  have hz12 := hB12.size
  have hz1 := HK1.out.size
  clear k2 c1 c2 f1 k3 hsl hrb3
  have hsub : ((at_ + n : Nat) : Int) - (n : Int) = (at_ : Int) := by omega
  refine wp_seqL [15] (by as_aux_lemma => kernel_rfl) (by as_aux_lemma => kernel_rfl) fun w4 hb4 => ?_
  rw [Nat.mul_one] at hAS
  refine seqL_pre 15 (by kernel_rfl) ?_
  simp only [List.take_succ_cons, List.take_zero, List.drop_succ_cons, List.drop_zero]
  repeat (go_big_quiet_step (fail))
  refine wpQuiet_nil ?_
  rw [show at_ + n - at_ = n by omega, ← hAS]
  have HBL := Lib.hid (show n ≤ 140737488351232 by omega)
  clear hAS
  refine seqL_wild hb4 rfl rfl fun K hK => ?_
  refine gives_app0' (E := rU8) (okd := fun _ => False) (base := w3.heap.size) Tryz.rowU8v (by decide) _ _ rfl (.slice none 0 0) [] _ rfl (OwnL.nil_ _ _ _ _ _) AS (c - at_) d (d.map fun x => [.int .u8 (x.toNat : Int)]) (by rw [← HN.out]; rfl) ?_ ?_ ?_ ?_ hb4.size fun v' wM hoM hkM hlocM => ?_
  · rw [← HN.out, (bytes_chunks (fun _ => False) w4 d).2]
    exact Rd.below HSL.out hb4
  · exact (bytes_chunks _ _ d).1
  · have := HBL.out
    rw [← HN.out]
    show (0 + n) * 1 ≤ _
    omega
  · have := HBL.out
    rw [← HN.out]
    show 0 + n ≤ _
    omega
  have hbM : Below w4.heap.size w4 wM := hkM.below (Nat.le_refl _) fun b hb e => by cases e
  refine hK _ _ hbM fun hb5 => ?_
  clear hK
  clear K
  simp only [Act.put, List.setIfInBounds_toArray, List.set_cons_succ, List.set_cons_zero]
  refine seqL_pre 1 (by kernel_rfl) ?_
  simp only [List.take_succ_cons, List.take_zero, List.drop_succ_cons, List.drop_zero]
  repeat (go_big_quiet_step (fail))
  refine wpQuiet_nil ?_
  refine seqL_nil ?_
  go_wp2
  go_ret
  have hz4 := hb4.size
  refine ⟨⟨v', rfl, ?_⟩, HR3.out.below hb5, ((HK1.out.trans (.of_below hb2)).trans hK3).trans (.of_below hb5)⟩
  have := hoM.rsl (ok := fun b => w.heap.size ≤ b) (by decide) (by rw [List.nil_append, ← HN.out]; have := HBL.out; show n * 1 ≤ _; omega) (fun b hb => by omega) (fun b hb => hb.elim)
  exact this
end Go.Proofs.YtnlhjhpikjmoaaaGreatDoor
namespace Go.Proofs.YtnlhjhpikjmoaaaGreatDoor
def okTh : Th → Prop
  | .beg => True
  | .fol => True
  | .hard t v => t < 18446744073709551616 ∧ v ≤ 5
  | .snap i t d => i ≤ 4611686018427387904 ∧ t < 18446744073709551616 ∧ d.length ≤ 32768
  | .back n => n < 18446744073709551616
  | .ent t d => t < 18446744073709551616 ∧ d.length ≤ 32768
  | .fin => True
def goodR : RS → List (List Th) → Prop
  | _, [] => True
  | s, g :: gs => ((∀ t ∈ g, okTh t) ∧ g.length ≤ 400000 ∧ ((g.foldl (stepT s.log) ⟨s.next, false, false⟩).ended = true → rightV (g.foldl (stepT s.log) ⟨s.next, false, false⟩).cur = true) ∧ (g.foldl (stepT s.log) ⟨s.next, false, false⟩).cur.es.length ≤ 400000 ∧ (g.foldl (stepT s.log) ⟨s.next, false, false⟩).cur.si ≤ 4611686018427387904) ∧ goodR (stepR s g) gs
theorem goodR_at : ∀ {gs : List (List Th)} {s : RS} (_ : goodR s gs) {i : Nat} {g : List Th}, gs[i]? = some g → (∀ t ∈ g, okTh t) ∧ g.length ≤ 400000 ∧ ((g.foldl (stepT ((gs.take i).foldl stepR s).log) ⟨((gs.take i).foldl stepR s).next, false, false⟩).ended = true → rightV (g.foldl (stepT ((gs.take i).foldl stepR s).log) ⟨((gs.take i).foldl stepR s).next, false, false⟩).cur = true) ∧ (g.foldl (stepT ((gs.take i).foldl stepR s).log) ⟨((gs.take i).foldl stepR s).next, false, false⟩).cur.es.length ≤ 400000 ∧ (g.foldl (stepT ((gs.take i).foldl stepR s).log) ⟨((gs.take i).foldl stepR s).next, false, false⟩).cur.si ≤ 4611686018427387904
  | [], _, _, i, g, hg => by simp at hg
  | a :: gs, s, h, 0, g, hg => by
    obtain rfl : a = g := by simpa using hg
    exact h.1
  | a :: gs, s, h, i + 1, g, hg => by
    have := goodR_at h.2 (i := i) (g := g) (by simpa using hg)
    simpa using this
def entT : Th → Nat
  | .ent _ _ => 1
  | _ => 0
def cntT (g : List Th) : Nat := (g.map entT).sum
theorem cntT_append (a b : List Th) : cntT (a ++ b) = cntT a + cntT b := by simp [cntT]
theorem changeV_len (l : VLog) (i t : Nat) (d : List UInt8) : (changeV l i t d).es.length ≤ l.es.length := by
  have h1 : (l.es.filter fun e => decide (i < e.idx)).length ≤ l.es.length := List.length_filter_le _ _
  unfold changeV
  revert h1
  generalize (l.es.filter fun e => decide (i < e.idx)) = Q
  intro h1
  cases Q with
  | nil => simp
  | cons e r =>
    show (if e.idx = i + 1 then e :: r else []).length ≤ _
    split
    · exact h1
    · simp
def siT (M : Nat) : Th → Prop
  | .snap i _ _ => i ≤ M
  | _ => True
theorem fold_bounds (had : VLog) (K M : Nat) : ∀ (g : List Th) (s : RdS), s.cur.es.length ≤ K → had.es.length ≤ K → s.cur.si ≤ M → had.si ≤ M → (∀ t ∈ g, siT M t) → (g.foldl (stepT had) s).cur.es.length ≤ K + cntT g ∧ (g.foldl (stepT had) s).cur.si ≤ M
  | [], s, h1, _, h3, _, _ => ⟨by simpa [cntT] using h1, h3⟩
  | t :: g, s, h1, h2, h3, h4, h5 => by
    rw [List.foldl_cons]
    have hc : cntT (t :: g) = entT t + cntT g := by simp [cntT]
    have hstep : (stepT had s t).cur.es.length ≤ K + entT t ∧ (stepT had s t).cur.si ≤ M := by
      cases t with
      | beg => exact ⟨by show 0 ≤ _; omega, by show 0 ≤ M; omega⟩
      | fol => exact ⟨by show had.es.length ≤ _; omega, h4⟩
      | hard a b => exact ⟨by show s.cur.es.length ≤ _; omega, h3⟩
      | snap i t d => exact ⟨by show (changeV s.cur i t d).es.length ≤ _; have := changeV_len s.cur i t d; omega, h5 (.snap i t d) (by simp)⟩
      | back n => exact ⟨by show (s.cur.es.filter _).length ≤ _; have := List.length_filter_le (fun e : VEnt => decide (e.idx < n)) s.cur.es; omega, h3⟩
      | ent a b => exact ⟨by show (s.cur.es ++ [_]).length ≤ K + 1; rw [List.length_append, List.length_singleton]; omega, h3⟩
      | fin => exact ⟨by show s.cur.es.length ≤ _; omega, h3⟩
    have := fold_bounds had (K + entT t) M g (stepT had s t) hstep.1 (by omega) hstep.2 h4 fun x hx => h5 x (List.mem_cons_of_mem _ hx)
    rw [hc]
    exact ⟨by omega, this.2⟩
theorem fold_noFin (had : VLog) : ∀ (g : List Th) (s : RdS), s.ended = false → (∀ t ∈ g, t ≠ .fin) → (g.foldl (stepT had) s).ended = false
  | [], _, h, _ => h
  | t :: g, s, h, hg => by
    rw [List.foldl_cons]
    refine fold_noFin had g _ ?_ fun x hx => hg x (List.mem_cons_of_mem _ hx)
    have ht := hg t (by simp)
    cases t <;> first | rfl | exact h | exact absurd rfl ht
theorem goodR_append : ∀ {a b : List (List Th)} {s : RS}, goodR s a → goodR (a.foldl stepR s) b → goodR s (a ++ b)
  | [], _, _, _, h => h
  | _ :: _, _, _, h1, h2 => ⟨h1.1, goodR_append h1.2 h2⟩
theorem goodR_group (M K0 : Nat) (hM : M ≤ 4611686018427387904) (q : List Th) : ∀ (gs : List (List Th)) (s : RS) (K : Nat), (∀ x ∈ gs.flatten ++ q, okTh x ∧ siT M x ∧ x ≠ .fin) → s.next.es.length ≤ K → s.log.es.length ≤ K → K + cntT (gs.flatten ++ q) ≤ 400000 → s.next.si ≤ M → s.log.si ≤ M → (gs.flatten ++ q).length ≤ 399999 →
    rightV ((gs.flatten ++ q).foldl (stepT s.log) ⟨s.next, false, false⟩).cur = true → goodR s (gs ++ [q ++ [.fin]])
  | [], s, K, h1, h2, h3, h4, h5, h6, h7, h8 => by
    rw [List.flatten_nil, List.nil_append] at h1 h4 h7 h8
    have hb := fold_bounds s.log K M q ⟨s.next, false, false⟩ h2 h3 h5 h6 fun t ht => (h1 t ht).2.1
    have hf : ((q ++ [Th.fin]).foldl (stepT s.log) ⟨s.next, false, false⟩).cur = (q.foldl (stepT s.log) ⟨s.next, false, false⟩).cur := by rw [List.foldl_append]; rfl
    refine ⟨⟨?_, by rw [List.length_append, List.length_singleton]; omega, fun _ => by rw [hf]; exact h8, by rw [hf]; omega, by rw [hf]; omega⟩, trivial⟩
    intro t ht
    rcases List.mem_append.1 ht with ht | ht
    · exact (h1 t ht).1
    · rw [List.mem_singleton] at ht
      subst ht
      trivial
  | g :: gs, s, K, h1, h2, h3, h4, h5, h6, h7, h8 => by
    rw [List.flatten_cons, List.append_assoc] at h1 h4 h7 h8
    rw [cntT_append] at h4
    have hg : ∀ t ∈ g, okTh t ∧ siT M t ∧ t ≠ .fin := fun t ht => h1 t (List.mem_append_left _ ht)
    have hb := fold_bounds s.log K M g ⟨s.next, false, false⟩ h2 h3 h5 h6 fun t ht => (hg t ht).2.1
    have he := fold_noFin s.log g ⟨s.next, false, false⟩ rfl fun t ht => (hg t ht).2.2
    refine ⟨⟨fun t ht => (hg t ht).1, by rw [List.length_append] at h7; omega, (fun h => by rw [he] at h; cases h), by omega, by omega⟩, ?_⟩
    have hs : stepR s g = ⟨s.log, (g.foldl (stepT s.log) ⟨s.next, false, false⟩).cur, if (g.foldl (stepT s.log) ⟨s.next, false, false⟩).begun = true then s.n else s.from_, s.first, s.whole, s.n + 1⟩ := by
      unfold stepR
      simp only [he]
      rfl
    rw [hs]
    refine goodR_group M K0 hM q gs _ (K + cntT g) (fun x hx => h1 x (List.mem_append_right _ hx)) hb.1 (by show s.log.es.length ≤ _; omega) (by omega) hb.2 h6 (by rw [List.length_append] at h7; omega) ?_
    rw [List.foldl_append] at h8
    have := fold_cur s.log (gs.flatten ++ q) ⟨(g.foldl (stepT s.log) ⟨s.next, false, false⟩).cur, false, false⟩ (g.foldl (stepT s.log) ⟨s.next, false, false⟩) rfl
    rw [this]
    exact h8
theorem conE_idx : ∀ {l : List VEnt} {i : Nat}, conE i l → ∀ e ∈ l, e.idx ≤ i + l.length
  | [], _, _, e, he => by simp at he
  | a :: r, i, h, e, he => by
    rcases List.mem_cons.1 he with rfl | he
    · have := h.1
      rw [List.length_cons]
      omega
    · have := conE_idx h.2 e he
      rw [List.length_cons]
      omega
theorem rightE_term {top : Nat} : ∀ {l : List VEnt} {t i : Nat}, rightE top t i l = true → ∀ e ∈ l, e.term ≤ top
  | [], _, _, _, e, he => by simp at he
  | a :: r, t, i, h, e, he => by
    simp only [rightE, Bool.and_eq_true, decide_eq_true_eq] at h
    rcases List.mem_cons.1 he with rfl | he
    · exact h.2.2.1
    · exact rightE_term h.2.2.2.2 e he
theorem changeV_mem {l : VLog} {i t : Nat} {d : List UInt8} : ∀ e ∈ (changeV l i t d).es, e ∈ l.es := by
  intro e he
  have h1 : ∀ x ∈ l.es.filter (fun e => decide (i < e.idx)), x ∈ l.es := fun x hx => (List.mem_filter.1 hx).1
  unfold changeV at he
  revert h1 he
  generalize (l.es.filter fun e => decide (i < e.idx)) = Q
  intro he h1
  cases Q with
  | nil => simp at he
  | cons a r =>
    have he : e ∈ (if a.idx = i + 1 then a :: r else []) := he
    split at he
    · exact h1 e he
    · simp at he
theorem backT_mem {l : List VEnt} {k : Nat} : ∀ x ∈ backT l k, ∃ e ∈ l, x = .back e.idx := by
  intro x hx
  unfold backT at hx
  split at hx
  · rename_i e he
    rw [List.mem_singleton] at hx
    exact ⟨e, List.mem_of_getElem? he, hx⟩
  · simp at hx
theorem cnt_ents (l : List VEnt) : cntT (l.map fun e => Th.ent e.term e.data) = l.length := by
  unfold cntT
  rw [List.map_map]
  induction l with
  | nil => rfl
  | cons a r ih => simp only [List.map_cons, List.sum_cons, ih, List.length_cons, Function.comp, entT]; omega
theorem things_fit {f t : VLog} {kind : Th} (hk : kind = .beg ∨ kind = .fol) (hf : conE f.si f.es) (hfs : f.si ≤ 4611686018427387904) (hfl : f.es.length ≤ 100000) (ht : fitV t) : (∀ x ∈ (thingsV f t kind).dropLast, okTh x ∧ siT 4611686018427387904 x ∧ x ≠ .fin) ∧ cntT (thingsV f t kind).dropLast ≤ 100000 ∧ (thingsV f t kind).dropLast.length ≤ 100005 := by
  obtain ⟨h1, h2, h3⟩ := ht
  have hd := rightV_data h1
  have hr := h1
  simp only [rightV, Bool.and_eq_true, decide_eq_true_eq] at hr
  obtain ⟨r1, r2, r3, r4, r5, r6, r7⟩ := hr
  unfold thingsV
  simp only
  generalize hf2 : (if f.si = t.si ∧ f.st = t.st ∧ f.sd = t.sd then f else changeV f t.si t.st t.sd) = f2
  have hmem : ∀ e ∈ f2.es, e ∈ f.es := by
    rw [← hf2]
    split
    · exact fun e he => he
    · exact changeV_mem
  generalize hA : (if f.term = t.term ∧ f.vote = t.vote then ([] : List Th) else [.hard t.term t.vote.toNat]) = A
  generalize hB : (if f.si = t.si ∧ f.st = t.st ∧ f.sd = t.sd then ([] : List Th) else [.snap t.si t.st t.sd]) = B
  have hA1 : ∀ x ∈ A, x = .hard t.term t.vote.toNat := by
    rw [← hA]
    split
    · simp
    · intro x hx; simpa using hx
  have hB1 : ∀ x ∈ B, x = .snap t.si t.st t.sd := by
    rw [← hB]
    split
    · simp
    · intro x hx; simpa using hx
  have hA2 : A.length ≤ 1 ∧ cntT A = 0 := by rw [← hA]; split <;> simp [cntT, entT]
  have hB2 : B.length ≤ 1 ∧ cntT B = 0 := by rw [← hB]; split <;> simp [cntT, entT]
  generalize hC : backT f2.es (comN f2.es t.es) = C
  have hC2 : C.length ≤ 1 ∧ cntT C = 0 := by rw [← hC]; unfold backT; split <;> simp [cntT, entT]
  generalize hD : (t.es.drop (comN f2.es t.es)).map (fun e => Th.ent e.term e.data) = D
  have hD2 : cntT D ≤ t.es.length ∧ D.length ≤ t.es.length := by
    rw [← hD, cnt_ents, List.length_map, List.length_drop]
    omega
  have hdl : ([kind] ++ (A ++ (B ++ (C ++ (D ++ [Th.fin]))))).dropLast = [kind] ++ (A ++ (B ++ (C ++ D))) := by
    rw [show [kind] ++ (A ++ (B ++ (C ++ (D ++ [Th.fin])))) = ([kind] ++ (A ++ (B ++ (C ++ D)))) ++ [Th.fin] by simp, List.dropLast_concat]
  rw [hdl]
  refine ⟨?_, ?_, ?_⟩
  · intro x hx
    simp only [List.mem_append, List.mem_singleton] at hx
    rcases hx with rfl | hx | hx | hx | hx
    · rcases hk with rfl | rfl <;> exact ⟨trivial, trivial, fun h => by cases h⟩
    · rw [hA1 x hx]
      exact ⟨⟨h3, by omega⟩, trivial, fun h => by cases h⟩
    · rw [hB1 x hx]
      exact ⟨⟨r3, by omega, by omega⟩, r3, fun h => by cases h⟩
    · rw [← hC] at hx
      obtain ⟨e, he, rfl⟩ := backT_mem x hx
      have := conE_idx hf e (hmem e he)
      exact ⟨by show e.idx < _; omega, trivial, fun h => by cases h⟩
    · rw [← hD] at hx
      obtain ⟨e, he, rfl⟩ := List.mem_map.1 hx
      have h4 := rightE_term r7 e (List.mem_of_mem_drop he)
      have h5 := hd.2 e (List.mem_of_mem_drop he)
      exact ⟨⟨by omega, by omega⟩, trivial, fun h => by cases h⟩
  · simp only [cntT_append]
    have : cntT [kind] = 0 := by rcases hk with rfl | rfl <;> rfl
    omega
  · simp only [List.length_append, List.length_singleton]
    omega
theorem grp_good {had f t : VLog} {kind : Th} {b : Bool} (hk : ∀ c e, stepT had ⟨c, false, e⟩ kind = ⟨f, b, false⟩) (hkk : kind = .beg ∨ kind = .fol) (hf : conE f.si f.es) (hfs : f.si ≤ 4611686018427387904) (hfl : f.es.length ≤ 100000) (ht : fitV t) (s : RS) (hs : s.log = had) (hnl : s.next.es.length ≤ 100000) (hns : s.next.si ≤ 4611686018427387904) (hal : had.es.length ≤ 100000) (has : had.si ≤ 4611686018427387904) :
    ∃ gs : List (List Th), recordsV f t kind = gs.map flatT ∧ goodR s gs ∧ gs.foldl stepR s = ⟨t, t, if b = true then s.n else s.from_, if b = true then s.n else s.from_, s.n + gs.length, s.n + gs.length⟩ := by
  have hkl : (encT kind).length ≤ 32768 := by rcases hkk with rfl | rfl <;> decide
  obtain ⟨gs, q, h1, h2⟩ := recordsV_groups f t kind hkl
  have hth := fold_things (had := had) hf (rightV_con ht.1) (rightV_vote ht.1).1 ⟨s.next, false, false⟩ b (hk _ _)
  rw [thingsV_last, List.foldl_append] at hth
  have hcur : ((thingsV f t kind).dropLast.foldl (stepT had) ⟨s.next, false, false⟩).cur = t := by
    have := congrArg RdS.cur hth
    exact this
  subst hs
  have hfl2 : gs.flatten ++ q = (thingsV f t kind).dropLast := by
    rcases h2 with ⟨rfl, q', h3, h4, _⟩ | ⟨g, gs', rfl, h4, _⟩
    · rw [List.flatten_nil, List.nil_append, h4]
    · rw [List.flatten_cons]
      exact h4
  obtain ⟨t1, t2, t3⟩ := things_fit (f := f) (t := t) hkk hf hfs hfl ht
  refine ⟨gs ++ [q ++ [Th.fin]], h1, ?_, ?_⟩
  · refine goodR_group 4611686018427387904 0 (Nat.le_refl _) q gs s 100000 (by rw [hfl2]; exact t1) hnl hal (by rw [hfl2]; omega) hns has (by rw [hfl2]; omega) ?_
    rw [hfl2, hcur]
    exact ht.1
  · rcases h2 with ⟨rfl, q', h3, h4, h5⟩ | ⟨g, gs', rfl, h4, h5⟩
    · show stepR s (q ++ [Th.fin]) = _
      rw [stepR_last (cur := t) (b := b) (by rw [h4]; exact hcur) (by
        rw [h3, List.foldl_cons, hk]
        exact (fold_plain _ q' _ h5).1)]
      rfl
    · rw [List.foldl_append, fold_stepR_part kind b f hk g gs' s rfl fun x hx => h5 x (List.mem_append_left _ hx)]
      show stepR _ (q ++ [Th.fin]) = _
      have hq := fold_plain s.log q ⟨((kind :: g ++ gs'.flatten).foldl (stepT s.log) ⟨s.next, false, false⟩).cur, false, false⟩ fun x hx => h5 x (List.mem_append_right _ hx)
      have hc2 : ∀ R : RdS, R = (kind :: g ++ gs'.flatten).foldl (stepT s.log) ⟨s.next, false, false⟩ → (q.foldl (stepT s.log) ⟨R.cur, false, false⟩).cur = t := fun R hR =>
        (fold_cur s.log q ⟨R.cur, false, false⟩ R rfl).trans (by rw [hR, ← List.foldl_append, h4]; exact hcur)
      rw [stepR_last (cur := t) (b := false) (hc2 _ rfl) hq.1]
      simp [Nat.add_assoc]
theorem Grps.fit {rs : List (List UInt8)} {l : VLog} {i : Nat} (h : Grps rs l i) : l.es.length ≤ 100000 ∧ l.si ≤ 4611686018427387904 := by
  have hr : ∀ t : VLog, fitV t → t.es.length ≤ 100000 ∧ t.si ≤ 4611686018427387904 := fun t ht => ⟨ht.2.1, by
    have := ht.1
    simp only [rightV, Bool.and_eq_true, decide_eq_true_eq] at this
    exact this.2.2.1⟩
  cases h with
  | nil => exact ⟨by decide, by decide⟩
  | fol _ h => exact hr _ h
  | beg _ h => exact hr _ h
theorem Grps.good {rs : List (List UInt8)} {l : VLog} {i : Nat} (h : Grps rs l i) (n0 : Nat) : ∃ gs : List (List Th), rs = gs.map flatT ∧ goodR ⟨VLog.zero, VLog.zero, n0, n0, n0, n0⟩ gs ∧ ∃ nx, (nx.es.length ≤ 100000 ∧ nx.si ≤ 4611686018427387904) ∧ gs.foldl stepR ⟨VLog.zero, VLog.zero, n0, n0, n0, n0⟩ = ⟨l, nx, n0 + i, n0 + i, n0 + rs.length, n0 + rs.length⟩ := by
  induction h with
  | nil => exact ⟨[], rfl, trivial, VLog.zero, ⟨by decide, by decide⟩, rfl⟩
  | @fol rs l i t h ht ih =>
    obtain ⟨gs, h1, hg1, nx, hnx, h2⟩ := ih
    obtain ⟨q, h3, hg3, h4⟩ := grp_good (had := l) (f := l) (t := t) (kind := .fol) (b := false) (fol_step l) (.inr rfl) h.con h.fit.2 h.fit.1 ht ⟨l, nx, n0 + i, n0 + i, n0 + rs.length, n0 + rs.length⟩ rfl hnx.1 hnx.2 h.fit.1 h.fit.2
    have hql : (recordsV l t .fol).length = q.length := by rw [h3, List.length_map]
    refine ⟨gs ++ q, by rw [List.map_append, ← h1, ← h3], goodR_append hg1 (by rw [h2]; exact hg3), t, (Grps.fol h ht).fit, ?_⟩
    rw [List.foldl_append, h2, h4, List.length_append, hql]
    simp [Nat.add_assoc]
  | @beg rs l i t h ht ih =>
    obtain ⟨gs, h1, hg1, nx, hnx, h2⟩ := ih
    have hlen : gs.length = rs.length := by rw [h1, List.length_map]
    obtain ⟨q, h3, hg3, h4⟩ := grp_good (had := l) (f := VLog.zero) (t := t) (kind := .beg) (b := true) (beg_step l) (.inl rfl) trivial (by decide) (by decide) ht ⟨l, nx, n0 + i, n0 + i, n0 + rs.length, n0 + rs.length⟩ rfl hnx.1 hnx.2 h.fit.1 h.fit.2
    have hql : (recordsV VLog.zero t .beg).length = q.length := by rw [h3, List.length_map]
    refine ⟨gs ++ q, by rw [List.map_append, ← h1, ← h3], goodR_append hg1 (by rw [h2]; exact hg3), t, (Grps.beg h ht).fit, ?_⟩
    rw [List.foldl_append, h2, h4, List.length_append, hql]
    simp [Nat.add_assoc]
end Go.Proofs.YtnlhjhpikjmoaaaGreatDoor
