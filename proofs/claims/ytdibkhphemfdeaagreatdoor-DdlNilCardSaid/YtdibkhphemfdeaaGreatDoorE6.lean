/- Contracts for law 21's nil job: (*Job).Next of an index in DeleteOnly, and of a nil job. -/
import Derived.Test.YtdibkhphemfdeaaGreatDoorE5
namespace Go.Proofs.YtdibkhphemfdeaaGreatDoor
open Go.RowKit

theorem Kp.then_ {ok ok2 : Nat → Prop} {w w' w'' : World} (h : Kp ok w w') (k : Kp ok2 w' w'') (hm : ∀ b, b < w.heap.size → ok b → ok2 b) : Kp ok w w'' :=
  ⟨k.os.trans h.os, k.tape.trans h.tape, k.output.trans h.output, Nat.le_trans h.size k.size, fun i hi ho => (k.block i (Nat.lt_of_lt_of_le hi h.size) (hm i hi ho)).trans (h.block i hi ho)⟩
theorem djA_ask : ∀ j v, askS.toList[j]? = some v → djA[1 + j]? = some v := by
  intro j v hv
  have hj := (List.getElem?_eq_some_iff.1 hv).1
  have e : djA.toList = .int .i64 2 :: (askS.toList ++ [.pointer none]) := rfl
  rw [← Array.getElem?_toList, e, Nat.add_comm, List.getElem?_cons_succ, List.getElem?_append_left hj, hv]
theorem ask_cmd : ∀ j v, stepCs.toList[j]? = some v → askS[2 + j]? = some v := by
  intro j v hv
  have hj := (List.getElem?_eq_some_iff.1 hv).1
  have e : askS.toList = .int .i64 1 :: .int .i64 0 :: (stepCs.toList ++ opZ.toList) := rfl
  rw [← Array.getElem?_toList, e, Nat.add_comm, List.getElem?_cons_succ, List.getElem?_cons_succ, List.getElem?_append_left hj, hv]
theorem ask_op : ∀ j v, opZ.toList[j]? = some v → askS[27 + j]? = some v := by
  intro j v hv
  have e : askS.toList = .int .i64 1 :: .int .i64 0 :: (stepCs.toList ++ opZ.toList) := rfl
  rw [← Array.getElem?_toList, e, show 27 + j = (25 + j) + 1 + 1 by omega, List.getElem?_cons_succ, List.getElem?_cons_succ, List.getElem?_append_right (by show 25 ≤ _; omega), show 25 + j - stepCs.toList.length = j by show 25 + j - 25 = j; omega, hv]
set_option maxRecDepth 100000 in
set_option maxHeartbeats 12800000 in
theorem ddlNext_any (v n : Int) (tA iA : Option Addr) (tn tc : Nat) (C2 : Array Value) (hC2 : C2.size = 5) (cA : Option Addr) (cn cc b off c g : Nat) (w : World) (hc : 1 ≤ c) (hk : Blk w g 72 djZ) (hbg : b ≠ g) (hcell : ∀ j u, (ixCs cA cn cc)[j]? = some u → w.cell? ⟨b, off + j, none⟩ = some u) :
    Calls Tryz.prog 4 #[.pointer (some ⟨g, 0, none⟩), .agg #[.int .i64 v, .int .i64 n, .slice tA tn tc, .slice (some ⟨b, off, none⟩) 1 c], .agg C2] w fun e w' => e = .returned (.tuple #[.int .i64 1, .int .i64 0, .agg stepCs, .agg opZ]) ∧ Kp (fun b => b ≠ g) w w' := by
  have HC2 := Lib.hid hC2
  clear hC2
  have hbl : b < w.heap.size := World.block_lt_of_cell? w ⟨b, off, none⟩ (hcell 0 _ rfl)
  have hgl := hk.lt
  go_enter Tryz.func4, Tryz.ntmps4
  go_upto_region 1 with fail
  refine name_world (fun w1 => Below w.heap.size w w1 ∧ w.heap.size + 5 ≤ w1.heap.size ∧ Blk w1 w.heap.size 39 #[.pointer (some ⟨g, 0, none⟩)] ∧ Blk w1 (w.heap.size + 1) 29 #[.int .i64 v, .int .i64 n, .slice tA tn tc, .slice (some ⟨b, off, none⟩) 1 c] ∧ Blk w1 (w.heap.size + 1 + 1) 33 C2 ∧ Blk w1 (w.heap.size + 1 + 1 + 1) 51 zC ∧ Blk w1 (w.heap.size + 1 + 1 + 1 + 1) 56 opZ)
    ⟨(((((Below.refl _ _).alloc (Nat.le_refl _) _).alloc (by simp) _).alloc (by simp; omega) _).alloc (by simp; omega) _).alloc (by simp; omega) _, by simp, ((((Blk.new_ (by simp)).alloc _).alloc _).alloc _).alloc _, (((Blk.new_ (by simp)).alloc _).alloc _).alloc _, ((Blk.new_ (by simp)).alloc _).alloc _, (Blk.new_ (by simp)).alloc _, Blk.new_ (by simp)⟩ ?_
  rintro w1 ⟨hB1, hz1, k0, k1, k2, k3, k4⟩
  have kg := hk.below hB1 hgl
  have hx1 : ∀ j u, (ixCs cA cn cc)[j]? = some u → w1.cell? ⟨b, off + j, none⟩ = some u := fun j u hu => (hB1.cell (p := ⟨b, off + j, none⟩) hbl).trans (hcell j u hu)
  clear hcell
  have c0 : w1.cell? ⟨w.heap.size, 0, none⟩ = some (.pointer (some ⟨g, 0, none⟩)) := k0.cell 0
  have cg0 : w1.cell? ⟨g, 0, none⟩ = some (.int .i64 2) := kg.cell 0
  have cg1 : w1.cell? ⟨g, 1, none⟩ = some (.int .i64 0) := kg.cell 1
  have cc3 : w1.cell? ⟨w.heap.size + 1, 3, none⟩ = some (.slice (some ⟨b, off, none⟩) 1 c) := k1.cell 3
  go_wp2_with fail
  refine (ddlIndex_any cA cn cc b off c w.heap.size g _ hc hx1 c0 cg0).mono ?_
  rintro e w2 ⟨rfl, hb2⟩
  have hB2 := hB1.trans (hb2.mono hB1.size)
  have k02 := k0.below hb2 k0.lt
  have k12 := k1.below hb2 k1.lt
  have k22 := k2.below hb2 k2.lt
  have k32 := k3.below hb2 k3.lt
  have k42 := k4.below hb2 k4.lt
  have kg2 := kg.below hb2 kg.lt
  have hx2 : ∀ j u, (ixCs cA cn cc)[j]? = some u → w2.cell? ⟨b, off + j, none⟩ = some u := fun j u hu => (hb2.cell (p := ⟨b, off + j, none⟩) (Nat.lt_of_lt_of_le hbl hB1.size)).trans (hx1 j u hu)
  clear c0 cg0 cg1 cc3 hx1
  have cc3 : w2.cell? ⟨w.heap.size + 1, 3, none⟩ = some (.slice (some ⟨b, off, none⟩) 1 c) := k12.cell 3
  have x5 : w2.cell? ⟨b, off + 5, none⟩ = some (.int .i64 1) := hx2 5 _ rfl
  go_upto_region 7 with fail
  have hne : ∀ i, w.heap.size ≤ i → i ≠ g := fun i h e => by omega
  have l0 : ∀ s : LaterB w2 (fun b => b = g), s.val.cell? ⟨w.heap.size, 0, none⟩ = some (.pointer (some ⟨g, 0, none⟩)) := LaterB.cell (k02.cell 0) (hne w.heap.size (Nat.le_refl _))
  have l3 : ∀ s : LaterB w2 (fun b => b = g), s.val.cell? ⟨w.heap.size + 1, 3, none⟩ = some (.slice (some ⟨b, off, none⟩) 1 c) := LaterB.cell cc3 (hne (w.heap.size + 1) (by omega))
  clear cc3 x5
  refine wp_seqB (fun b => b = g) 12 [9, 12] (by as_aux_lemma => kernel_rfl) (by as_aux_lemma => kernel_rfl) fun w4 hb4 => ?_
  refine seqB_pre 2 (by kernel_rfl) ?_
  simp only [List.take_succ_cons, List.take_zero, List.drop_succ_cons, List.drop_zero]
  repeat (go_big_quiet_step (fail))
  refine wpQuiet_nil ?_
  refine seqB_still (.agg #[.int .i64 v, .int .i64 n, .slice tA tn tc, .slice (some ⟨b, off, none⟩) 1 c]) rfl rfl (fun s => still_loadAt (g := w.heap.size + 1) (k := 0) rfl rfl (k12.kp s.kp (hne _ (by omega))).range Tryz.underlying29 rfl Tryz.infoCat) ?_
  simp only [Act.put, List.setIfInBounds_toArray, List.set_cons_succ, List.set_cons_zero]
  refine seqB_still (.agg C2) rfl rfl (fun s => still_loadAt (g := w.heap.size + 1 + 1) (k := 0) rfl rfl (k22.kp s.kp (hne _ (by omega))).range Tryz.underlying33 rfl (by rw [HC2.out]; kernel_rfl)) ?_
  simp only [Act.put, List.setIfInBounds_toArray, List.set_cons_succ, List.set_cons_zero]
  refine seqB_pre 4 (by kernel_rfl) ?_
  simp only [List.take_succ_cons, List.take_zero, List.drop_succ_cons, List.drop_zero]
  repeat (go_big_quiet_step (fail))
  refine wpQuiet_nil ?_
  refine seqB_still (.agg (ixCs cA cn cc)) rfl rfl (fun s => still_loadAt (g := b) (k := off) rfl rfl (fun j u hu => (LaterB.cell (hx2 j u (by simpa using hu)) hbg s)) Tryz.underlying49 rfl Tryz.infoIx) ?_
  simp only [Act.put, List.setIfInBounds_toArray, List.set_cons_succ, List.set_cons_zero]
  refine seqB_wild0 hb4 rfl rfl fun K hK => ?_
  unfold Gives
  go_simp
  refine (ddlnext_any _ C2 cA cn cc g _ (kg2.below hb4 kg2.lt)).mono ?_
  rintro e w5 ⟨rfl, hb5⟩
  refine ⟨_, rfl, hK _ _ (hb5) fun hb5x => ?_⟩
  clear hK
  clear K
  simp only [Act.put, List.setIfInBounds_toArray, List.set_cons_succ, List.set_cons_zero]
  refine seqB_pre 2 (by kernel_rfl) ?_
  simp only [List.take_succ_cons, List.take_zero, List.drop_succ_cons, List.drop_zero]
  repeat (go_big_quiet_step (fail))
  refine wpQuiet_nil ?_
  have kg5 := kg2.below hb5x kg2.lt
  refine seqB_wild (Kp.of_below hb5x) rfl rfl fun K hK => ?_
  refine gives_storeAt (k := 1) rfl askS rfl rfl kg5 (by decide) Tryz.infoAsk ask_one ?_
  have kg6 : Blk (w5.setCells g 1 askS.toList) g 72 djA := by
    have h := kg5.setCells_at askS.toList 1
    have e : (List.range askS.toList.length).foldl (fun a i => a.setIfInBounds (1 + i) (askS.toList.getD i undef)) djZ = djA := by kernel_rfl
    rw [e] at h
    exact h
  have hst := Kp.setCells (ok := fun b => ¬ b = g) (a := w5) (b := g) (fun _ hh => hh rfl) askS.toList 1 (Kp.refl _ _)
  generalize hwr : World.setCells w5 g 1 askS.toList = w6 at kg6 hst ⊢
  clear hwr
  refine hK _ _ (hst) fun hK8 => ?_
  clear hK
  clear K
  simp only [Act.put, List.setIfInBounds_toArray, List.set_cons_succ, List.set_cons_zero]
  refine seqB_nil ?_
  have hk6 : Kp (fun b => b ≠ g) w w6 := (Kp.of_below hB2).trans hK8
  have k06 := k02.kp hK8 (hne _ (by omega))
  have k36 := k32.kp hK8 (hne _ (by omega))
  have k46 := k42.kp hK8 (hne _ (by omega))
  have hz6 : w.heap.size + 5 ≤ w6.heap.size := Nat.le_trans hz1 (Nat.le_trans hb2.size hK8.size)
  clear l0 l3 hx2 k12 k22
  have c0 : w6.cell? ⟨w.heap.size, 0, none⟩ = some (.pointer (some ⟨g, 0, none⟩)) := k06.cell 0
  go_upto_region 8 with fail
  refine wp_region_split 3 ?_
  simp only [List.take_succ_cons, List.take_zero, List.drop_succ_cons, List.drop_zero]
  go_wp2
  show wpList _ _ _ _ _ _
  refine wpList_loadAt (g := g) (k := 1) (cs := askS) rfl rfl rfl (kg6.rangeAt_ 1 _ ?_) Tryz.underlying69 rfl Tryz.infoAsk ?_
  · exact djA_ask
  simp only [Act.put, List.setIfInBounds_toArray, List.set_cons_succ, List.set_cons_zero]
  refine wpList_split 1 ?_
  simp only [List.take_succ_cons, List.take_zero, List.drop_succ_cons, List.drop_zero]
  go_wp2
  show wpList _ _ _ _ _ _
  refine wpList_storeB' (C := askZ) rfl rfl askS rfl rfl (Blk.new_ rfl) rfl Tryz.infoAsk ask_one ?_ rfl
  intro ka
  have hBa := below_setCells (B := w6.heap.size) (a := w6) (b := w6.heap.size) (Nat.le_refl _) askS.toList 0 ((Below.refl _ _).alloc (Nat.le_refl _) (.cells askZ 69))
  go_upto_region 9 with fail
  refine name_world (fun w7 => Below w6.heap.size w6 w7 ∧ Blk w7 w6.heap.size 69 askS) ⟨hBa, ka⟩ ?_
  clear hBa ka
  rintro w7 ⟨hB7, ka⟩
  have hk7 : Kp (fun b => b ≠ g) w w7 := hk6.trans (.of_below hB7)
  have k37 := k36.below hB7 k36.lt
  have k47 := k46.below hB7 k46.lt
  obtain ⟨ab, hab⟩ : ∃ ab, ab = w6.heap.size := ⟨_, rfl⟩
  have hab5 : w.heap.size + 5 ≤ ab := by omega
  rw [← hab] at ka ⊢
  clear hab c0
  have l0 : ∀ s : LaterB w7 (fun b => b = w.heap.size + 1 + 1 + 1 ∨ b = w.heap.size + 1 + 1 + 1 + 1), s.val.cell? ⟨ab, 0, none⟩ = some (.int .i64 1) := LaterB.cell (ka.cell 0) (by simp only; omega)
  have l1 : ∀ s : LaterB w7 (fun b => b = w.heap.size + 1 + 1 + 1 ∨ b = w.heap.size + 1 + 1 + 1 + 1), s.val.cell? ⟨ab, 1, none⟩ = some (.int .i64 0) := LaterB.cell (ka.cell 1) (by simp only; omega)
  refine wp_seqB (fun b => b = w.heap.size + 1 + 1 + 1 ∨ b = w.heap.size + 1 + 1 + 1 + 1) 12 [6, 9, 12, 13] (by as_aux_lemma => kernel_rfl) (by as_aux_lemma => kernel_rfl) fun w8 hb8 => ?_
  refine seqB_pre 5 (by kernel_rfl) ?_
  simp only [List.take_succ_cons, List.take_zero, List.drop_succ_cons, List.drop_zero]
  repeat (go_big_quiet_step (fail))
  refine wpQuiet_nil ?_
  refine seqB_still (.agg stepCs) rfl rfl (fun s => still_loadAt (g := ab) (k := 2) rfl rfl ((ka.kp s.kp (by omega)).rangeAt_ 2 _ ask_cmd) Tryz.underlying51 rfl Tryz.infoCmd2) ?_
  simp only [Act.put, List.setIfInBounds_toArray, List.set_cons_succ, List.set_cons_zero]
  refine seqB_wild0 hb8 rfl rfl fun K hK => ?_
  unfold Gives
  go_simp
  refine (ddlOwn_any _).mono ?_
  rintro e w9 ⟨rfl, hb9⟩
  refine ⟨_, rfl, hK _ _ (hb9) fun hb9x => ?_⟩
  clear hK
  clear K
  simp only [Act.put, List.setIfInBounds_toArray, List.set_cons_succ, List.set_cons_zero]
  refine seqB_pre 1 (by kernel_rfl) ?_
  simp only [List.take_succ_cons, List.take_zero, List.drop_succ_cons, List.drop_zero]
  repeat (go_big_quiet_step (fail))
  refine wpQuiet_nil ?_
  refine seqB_still (.agg opZ) rfl rfl (fun s => still_loadAt (g := ab) (k := 27) rfl rfl ((ka.kp s.kp (by omega)).rangeAt_ 27 _ ask_op) Tryz.underlying56 rfl Tryz.infoOp2) ?_
  simp only [Act.put, List.setIfInBounds_toArray, List.set_cons_succ, List.set_cons_zero]
  refine seqB_wild0 hb9x rfl rfl fun K hK => ?_
  unfold Gives
  go_simp
  refine (ddlOp_any _).mono ?_
  rintro e w10 ⟨rfl, hb10⟩
  refine ⟨_, rfl, hK _ _ (hb10) fun hb10x => ?_⟩
  clear hK
  clear K
  simp only [Act.put, List.setIfInBounds_toArray, List.set_cons_succ, List.set_cons_zero]
  refine seqB_pre 2 (by kernel_rfl) ?_
  simp only [List.take_succ_cons, List.take_zero, List.drop_succ_cons, List.drop_zero]
  repeat (go_big_quiet_step (fail))
  refine wpQuiet_nil ?_
  have k310 := k37.below hb10x k37.lt
  have k410 := k47.below hb10x k47.lt
  refine seqB_wild (Kp.of_below hb10x) rfl rfl fun K hK => ?_
  refine gives_storeAt (k := 0) rfl stepCs rfl rfl k310 (by decide) Tryz.infoCmd2 step_one ?_
  have k311 := k310.setCells stepCs rfl
  have k411 := far_setCells (g := w.heap.size + 1 + 1 + 1 + 1) (b := w.heap.size + 1 + 1 + 1) (by omega) stepCs.toList 0 k410
  have hst := Kp.setCells (ok := fun b => ¬ (b = w.heap.size + 1 + 1 + 1 ∨ b = w.heap.size + 1 + 1 + 1 + 1)) (a := w10) (b := w.heap.size + 1 + 1 + 1) (fun _ hh => hh (.inl rfl)) stepCs.toList 0 (Kp.refl _ _)
  generalize hwr : World.setCells w10 (w.heap.size + 1 + 1 + 1) 0 stepCs.toList = w11 at k311 k411 hst ⊢
  clear hwr
  refine hK _ _ (hst) fun hK11 => ?_
  clear hK
  clear K
  simp only [Act.put, List.setIfInBounds_toArray, List.set_cons_succ, List.set_cons_zero]
  refine seqB_wild hK11 rfl rfl fun K hK => ?_
  refine gives_storeAt (k := 0) rfl opZ rfl rfl k411 (by decide) Tryz.infoOp2 op_oneZ ?_
  have k412 := k411.setCells opZ rfl
  have k312 := far_setCells (g := w.heap.size + 1 + 1 + 1) (b := w.heap.size + 1 + 1 + 1 + 1) (by omega) opZ.toList 0 k311
  have hst2 := Kp.setCells (ok := fun b => ¬ (b = w.heap.size + 1 + 1 + 1 ∨ b = w.heap.size + 1 + 1 + 1 + 1)) (a := w11) (b := w.heap.size + 1 + 1 + 1 + 1) (fun _ hh => hh (.inr rfl)) opZ.toList 0 (Kp.refl _ _)
  generalize hwr : World.setCells w11 (w.heap.size + 1 + 1 + 1 + 1) 0 opZ.toList = w12 at k312 k412 hst2 ⊢
  clear hwr
  refine hK _ _ (hst2) fun hK12 => ?_
  clear hK
  clear K
  simp only [Act.put, List.setIfInBounds_toArray, List.set_cons_succ, List.set_cons_zero]
  refine seqB_nil ?_
  have lv1 := k312.loadVar (P := Tryz.prog) Tryz.underlying51 rfl Tryz.infoCmd2
  have lv2 := k412.loadVar (P := Tryz.prog) Tryz.underlying56 rfl Tryz.infoOp2
  have hKz : Kp (fun b => b ≠ g) w w12 := hk7.then_ hK12 fun b hb hlt h => by omega
  clear l0 l1
  go_wp2
  refine bodyPost_ret (v := .tuple #[.int .i64 1, .int .i64 0, .agg stepCs, .agg opZ]) ?_ rfl ⟨rfl, hKz⟩
  simp [results, Tryz.results4, Act.put, Sem.run_bind, Sem.run_pure, asAddr_ok, lv1, lv2]
end Go.Proofs.YtdibkhphemfdeaaGreatDoor
