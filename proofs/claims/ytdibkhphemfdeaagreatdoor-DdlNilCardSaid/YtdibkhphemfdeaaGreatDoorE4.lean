/- Contracts for law 21's nil job: ddl.own, (*Job).next of an index in DeleteOnly, (*Job).Next. -/
import Derived.Test.YtdibkhphemfdeaaGreatDoorE3
import Derived.Test.YtdibkhphemfdeaaGreatDoorSeqG
namespace Go.Proofs.YtdibkhphemfdeaaGreatDoor
open Go.RowKit

theorem gives_storeAt {P : Program} {o : Oper} {a : Act} {w : World} {g k : Nat} {T : TypeId} {C : Array Value} {Φ : Value → World → Prop} {ty : TypeId} {x y : Operand} (ho : o.op = .store ty x y) (cs : Array Value) (hx : a.eval x = .pointer (some ⟨g, k, none⟩)) (hy : a.eval y = .agg cs) (hk : Blk w g T C) (hs : k + cs.size ≤ C.size) (hi : (P.info? ty).map (·.size) = some cs.size) (h1 : cs.all (·.oneCell') = true)
    (h : Φ undef (w.setCells g k cs.toList)) : Gives P o a w Φ := by
  unfold Gives execOp
  simp only [ho, hx, hy, Sem.run_bind, Sem.run_pure, run_storeAt_mid w g k ty cs (hk.there_at k cs.size hs) hi h1, Result.andThen_ok, giv]
  exact h

set_option maxRecDepth 100000 in
set_option maxHeartbeats 3200000 in
theorem ddlOwn_any (w : World) : Calls Tryz.prog 14 #[.agg stepCs] w fun e w' => e = .returned (.agg stepCs) ∧ Below w.heap.size w w' := by
  go_enter Tryz.func14, Tryz.ntmps14
  go_upto_region 1 with fail
  refine name_world (fun w1 => Below w.heap.size w w1 ∧ w.heap.size + 2 ≤ w1.heap.size ∧ Blk w1 w.heap.size 51 stepCs ∧ Blk w1 (w.heap.size + 1) 51 zC)
    ⟨((Below.refl _ _).alloc (Nat.le_refl _) _).alloc (by simp) _, by simp, (Blk.new w _ _).alloc _, Blk.new_ (by simp)⟩ ?_
  rintro w1 ⟨hB1, hz1, k1, k2⟩
  have l8 : ∀ s : Later w1, s.val.cell? ⟨w.heap.size, 8, none⟩ = some nl := k1.later rfl
  have l9 : ∀ s : Later w1, s.val.cell? ⟨w.heap.size, 9, none⟩ = some nl := k1.later rfl
  refine wp_seqB (fun b => b = w.heap.size) 10 [3, 7, 10] (by as_aux_lemma => kernel_rfl) (by as_aux_lemma => kernel_rfl) fun w2 hb2 => ?_
  refine seqB_pre 2 (by kernel_rfl) ?_
  simp only [List.take_succ_cons, List.take_zero, List.drop_succ_cons, List.drop_zero]
  repeat (go_big_quiet_step (fail))
  refine wpQuiet_nil ?_
  refine seqB_pre0 1 (by kernel_rfl) (by kernel_rfl) ?_
  simp only [List.take_succ_cons, List.take_zero, List.drop_succ_cons, List.drop_zero]
  repeat (go_big_quiet_step (fail))
  refine wpQuiet_nil ?_
  refine seqB_wild0 hb2 rfl rfl fun K hK => ?_
  unfold Gives
  go_simp
  refine (cloneNil _).mono ?_
  rintro e w3 ⟨rfl, hb3⟩
  refine ⟨_, rfl, hK _ _ (hb3) fun hb3x => ?_⟩
  clear hK
  clear K
  simp only [Act.put, List.setIfInBounds_toArray, List.set_cons_succ, List.set_cons_zero]
  refine seqB_pre 2 (by kernel_rfl) ?_
  simp only [List.take_succ_cons, List.take_zero, List.drop_succ_cons, List.drop_zero]
  repeat (go_big_quiet_step (fail))
  refine wpQuiet_nil ?_
  refine seqB_pre0 1 (by kernel_rfl) (by kernel_rfl) ?_
  simp only [List.take_succ_cons, List.take_zero, List.drop_succ_cons, List.drop_zero]
  repeat (go_big_quiet_step (fail))
  refine wpQuiet_nil ?_
  refine seqB_wild0 hb3x rfl rfl fun K hK => ?_
  unfold Gives
  go_simp
  refine (cloneNil _).mono ?_
  rintro e w4 ⟨rfl, hb4⟩
  refine ⟨_, rfl, hK _ _ (hb4) fun hb4x => ?_⟩
  clear hK
  clear K
  simp only [Act.put, List.setIfInBounds_toArray, List.set_cons_succ, List.set_cons_zero]
  refine seqB_pre 2 (by kernel_rfl) ?_
  simp only [List.take_succ_cons, List.take_zero, List.drop_succ_cons, List.drop_zero]
  repeat (go_big_quiet_step (fail))
  refine wpQuiet_nil ?_
  have k4 := k1.below hb4x k1.lt
  have f4 := fun i => k4.frozen i
  have c8 : w4.cell? ⟨w.heap.size, 8, none⟩ = some nl := k4.cell 8
  have c9 : w4.cell? ⟨w.heap.size, 9, none⟩ = some nl := k4.cell 9
  refine seqB_wild (Kp.of_below hb4x) rfl rfl fun K hK => ?_
  unfold Gives
  go_simp
  have hkp : Kp (fun b => ¬ b = w.heap.size) w4 ((w4.setCell ⟨w.heap.size, 8, none⟩ nl).setCell ⟨w.heap.size, 9, none⟩ nl) := ((Kp.refl _ _).setCell (fun _ h => h rfl) _).setCell (fun _ h => h rfl) _
  refine hK _ _ hkp fun hk8 => ?_
  clear hK
  clear K
  simp only [Act.put, List.setIfInBounds_toArray, List.set_cons_succ, List.set_cons_zero]
  refine seqB_nil ?_
  have hB5 : Below w.heap.size w ((w4.setCell ⟨w.heap.size, 8, none⟩ nl).setCell ⟨w.heap.size, 9, none⟩ nl) := ((hB1.trans (hb4x.mono hB1.size)).setCell (Nat.le_refl _) _).setCell (Nat.le_refl _) _
  have k5 : Blk ((w4.setCell ⟨w.heap.size, 8, none⟩ nl).setCell ⟨w.heap.size, 9, none⟩ nl) w.heap.size 51 stepCs := (k4.set_ 8 nl).set_ 9 nl
  have m5 : Blk ((w4.setCell ⟨w.heap.size, 8, none⟩ nl).setCell ⟨w.heap.size, 9, none⟩ nl) (w.heap.size + 1) 51 zC := ((k2.below hb4x k2.lt).far (by simp) _).far (by simp) _
  go_upto_region 2 with fail
  refine name_world (fun w5 => Below w.heap.size w w5 ∧ Blk w5 w.heap.size 51 stepCs ∧ Blk w5 (w.heap.size + 1) 51 zC) ⟨hB5, k5, m5⟩ ?_
  clear hB5 k5 m5 hkp hk8 c8 c9 f4 k4 l8 l9 k1 k2
  rintro w5 ⟨hB5, k5, m5⟩
  refine wp_region_lit ?_
  refine wpList_loadG rfl rfl rfl k5 Tryz.underlying51 rfl Tryz.infoCmd2 ?_
  simp only [Act.put, List.setIfInBounds_toArray, List.set_cons_succ, List.set_cons_zero]
  refine wpList_storeB' rfl rfl stepCs rfl rfl m5 rfl Tryz.infoCmd2 step_one ?_ rfl
  intro k6
  have lv := k6.loadVar (P := Tryz.prog) Tryz.underlying51 rfl Tryz.infoCmd2
  have hB6 := below_setCells (B := w.heap.size) (b := w.heap.size + 1) (by omega) stepCs.toList 0 hB5
  go_wp2
  refine bodyPost_ret (v := .agg stepCs) ?_ rfl ⟨rfl, hB6⟩
  simp [results, Tryz.results14, Act.put, Sem.run_bind, Sem.run_pure, asAddr_ok, lv]
end Go.Proofs.YtdibkhphemfdeaaGreatDoor
