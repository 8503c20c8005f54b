/- Law 20's nil transaction: the calls on a nil transaction; the law. -/
import Derived.Test.YtmiceacjpadllaaGreatDoorT10
namespace Go.Proofs.YtmiceacjpadllaaGreatDoor
open Go.RowKit
theorem Tryz.infoDoneT : (Tryz.prog.info? 65).map (·.size) = some 5 := by kernel_rfl
theorem txnOp_nil (C : Array Value) (w : World) : Calls Tryz.prog 9 #[.pointer none, .agg C] w fun e w' => e = .returned (.int .i64 2) ∧ Below w.heap.size w w' := by
  go_enter Tryz.func9, Tryz.ntmps9
  go_wp2
  go_ret
  exact ⟨rfl, (Below.refl _ _).alloc (Nat.le_refl _) _⟩
theorem txnCommit_nil (w : World) : Calls Tryz.prog 10 #[.pointer none] w fun e w' => e = .returned (.int .i64 2) ∧ Below w.heap.size w w' := by
  go_enter Tryz.func10, Tryz.ntmps10
  go_wp2
  go_ret
  exact ⟨rfl, Below.refl _ _⟩
theorem txnAbort_nil (w : World) : Calls Tryz.prog 11 #[.pointer none] w fun e w' => e = .returned (.int .i64 2) ∧ Below w.heap.size w w' := by
  go_enter Tryz.func11, Tryz.ntmps11
  go_wp2
  go_ret
  exact ⟨rfl, Below.refl _ _⟩
theorem txnGot_nil (C : Array Value) (w : World) : Calls Tryz.prog 13 #[.pointer none, .agg C] w fun e w' => e = .returned (.int .i64 2) ∧ Below w.heap.size w w' := by
  go_enter Tryz.func13, Tryz.ntmps13
  go_wp2
  go_ret
  exact ⟨rfl, (Below.refl _ _).alloc (Nat.le_refl _) _⟩
theorem txnID_nil (w : World) : Calls Tryz.prog 16 #[.pointer none] w fun e w' => e = .returned (.int .u64 0) ∧ Below w.heap.size w w' := by
  go_enter Tryz.func16, Tryz.ntmps16
  go_wp2
  go_ret
  exact ⟨rfl, Below.refl _ _⟩
theorem txnResults_nil (w : World) : Calls Tryz.prog 17 #[.pointer none] w fun e w' => e = .returned nl ∧ Below w.heap.size w w' := by
  go_enter Tryz.func17, Tryz.ntmps17
  go_wp2
  go_ret
  exact ⟨rfl, Below.refl _ _⟩
set_option maxRecDepth 100000 in
set_option maxHeartbeats 1600000 in
theorem txnNext_nil (w : World) : Calls Tryz.prog 6 #[.pointer none] w fun e w' => e = .returned (.tuple #[.int .i64 0, .agg zC, .bool false]) ∧ Below w.heap.size w w' := by
  go_enter Tryz.func6, Tryz.ntmps6
  go_upto_region 1 with fail
  refine name_world (fun w1 => Below w.heap.size w w1 ∧ Blk w1 w.heap.size 55 zC) ⟨(Below.refl _ _).alloc (Nat.le_refl _) _, Blk.new _ _ _⟩ ?_
  rintro w1 ⟨hB1, z1⟩
  go_upto_region 2 with fail
  refine wp_region_split 2 ?_
  simp only [List.take_succ_cons, List.take_zero, List.drop_succ_cons, List.drop_zero]
  go_wp2
  show wpList _ _ _ _ _ _
  refine wpList_storeB' rfl rfl zC rfl rfl z1 rfl Tryz.infoCmd (cmdCs_one rfl rfl rfl rfl) ?_ rfl
  intro z2
  have hB2 := below_setCells (B := w.heap.size) (b := w.heap.size) (Nat.le_refl _) zC.toList 0 hB1
  have lv := z2.loadVar (P := Tryz.prog) Tryz.underlying55 rfl Tryz.infoCmd
  go_wp2
  refine bodyPost_ret (v := .tuple #[.int .i64 0, .agg zC, .bool false]) ?_ rfl ⟨rfl, hB2⟩
  simp [results, Tryz.results6, Act.put, Sem.run_bind, Sem.run_pure, asAddr_ok, lv]
set_option maxRecDepth 100000 in
set_option maxHeartbeats 1600000 in
theorem txnTold_nil (w : World) : Calls Tryz.prog 7 #[.pointer none] w fun e w' => e = .returned (.tuple #[.agg toldZ, .bool false]) ∧ Below w.heap.size w w' := by
  go_enter Tryz.func7, Tryz.ntmps7
  go_wp2
  have lv := (Blk.new w 60 toldZ).loadVar (P := Tryz.prog) Tryz.underlying60 rfl Tryz.infoToldT
  refine bodyPost_ret (v := .tuple #[.agg toldZ, .bool false]) ?_ rfl ⟨rfl, (Below.refl _ _).alloc (Nat.le_refl _) _⟩
  simp [results, Tryz.results7, Act.put, Sem.run_bind, Sem.run_pure, asAddr_ok, lv]
set_option maxRecDepth 100000 in
set_option maxHeartbeats 1600000 in
theorem txnDone_nil (w : World) : Calls Tryz.prog 8 #[.pointer none] w fun e w' => e = .returned (.tuple #[.agg doneZ, .bool false]) ∧ Below w.heap.size w w' := by
  go_enter Tryz.func8, Tryz.ntmps8
  go_wp2
  have lv := (Blk.new w 65 doneZ).loadVar (P := Tryz.prog) Tryz.underlying65 rfl Tryz.infoDoneT
  refine bodyPost_ret (v := .tuple #[.agg doneZ, .bool false]) ?_ rfl ⟨rfl, (Below.refl _ _).alloc (Nat.le_refl _) _⟩
  simp [results, Tryz.results8, Act.put, Sem.run_bind, Sem.run_pure, asAddr_ok, lv]
theorem OpT.below {w w' : World} {C : Array Value} (h : OpT w C) (hb : Below w.heap.size w w') : OpT w' C := by
  obtain ⟨k, l, s1, s2, b, A3, A4, A5, A6, A7, n3, c3, n4, c4, n5, c5, n6, c6, n7, c7, v, nm, rfl, hn⟩ := h
  exact ⟨k, l, s1, s2, b, A3, A4, A5, A6, A7, n3, c3, n4, c4, n5, c5, n6, c6, n7, c7, v, nm, rfl, RSl.below hn hb⟩
theorem z3cells {w : World} {g : Nat} (h : Blk w g 60 toldZ) : w.cell? ⟨g, 0, none⟩ = some (.int .i64 0) ∧ w.cell? ⟨g, 1, none⟩ = some nl ∧ w.cell? ⟨g, 2, none⟩ = some (.int .i64 0) := ⟨h.cell 0, h.cell 1, h.cell 2⟩
theorem z5cells {w : World} {g : Nat} (h : Blk w g 65 doneZ) : w.cell? ⟨g, 0, none⟩ = some (.int .i64 0) ∧ w.cell? ⟨g, 1, none⟩ = some (.int .u64 0) ∧ w.cell? ⟨g, 2, none⟩ = some (.int .i64 0) ∧ w.cell? ⟨g, 3, none⟩ = some nl ∧ w.cell? ⟨g, 4, none⟩ = some nl := ⟨h.cell 0, h.cell 1, h.cell 2, h.cell 3, h.cell 4⟩
set_option maxRecDepth 100000 in
set_option maxHeartbeats 12800000 in
theorem lawTxnNil (C D : Array Value) (w : World) (hO : OpT w C) (hC : C.size = 11) (hD : D.size = 15) :
    Calls Tryz.prog 3 #[.agg C, .agg D] w fun e w' => e = .returned (.bool true) ∧ Below w.heap.size w w' := by
  have HC := Lib.hid hC
  have HD := Lib.hid hD
  have HO := Lib.hid (fun (w' : World) (hb : Below w.heap.size w w') => fitsT_any C w' (hO.below hb))
  clear hC hD hO
  go_enter Tryz.func3, Tryz.ntmps3
  go_upto_region 2 with fail
  refine name_world (fun w1 => Below w.heap.size w w1 ∧ w.heap.size + 2 ≤ w1.heap.size ∧ Blk w1 w.heap.size 26 C ∧ Blk w1 (w.heap.size + 1) 40 D) ⟨((Below.refl _ _).alloc (Nat.le_refl _) _).alloc (by simp) _, by simp, (Blk.new _ _ _).alloc _, Blk.new_ (by simp)⟩ ?_
  rintro w1 ⟨hB1, hz1, k1, d1⟩
  refine wp_region_split 0 ?_
  simp only [List.take_zero, List.drop_zero]
  go_wp2
  show wpList _ _ _ _ _ _
  refine wpList_loadG rfl rfl rfl k1 Tryz.underlying26 rfl (by rw [HC.out]; kernel_rfl) ?_
  simp only [Act.put, List.setIfInBounds_toArray, List.set_cons_succ, List.set_cons_zero]
  go_wp2_with fail
  refine (HO.out _ hB1).mono ?_
  rintro e w2 ⟨⟨b, rfl⟩, hb2⟩
  have hB2 := hB1.trans (hb2.mono hB1.size)
  have k2 := k1.below hb2 k1.lt
  have d2 := d1.below hb2 d1.lt
  cases b with
  | false =>
    go_wp2_with (go_at_call 5; refine (txnAwake_any _).mono ?_; rintro e w3 ⟨rfl, hb3⟩)
    go_ret
    exact ⟨rfl, hB2.trans (hb3.mono hB2.size)⟩
  | true =>
    go_upto_region 4 with fail
    refine wp_region_split 8 ?_
    simp only [List.take_succ_cons, List.take_zero, List.drop_succ_cons, List.drop_zero]
    go_wp2_with fail
    refine (txnNext_nil _).mono ?_
    rintro e w3 ⟨rfl, hb3⟩
    have hB3 := hB2.trans (hb3.mono hB2.size)
    have k3 := k2.below hb3 k2.lt
    have d3 := d2.below hb3 d2.lt
    go_wp2
    show wpList _ _ _ _ _ _
    refine wpList_storeB' (C := zC) rfl rfl zC rfl rfl (Blk.new_ rfl) rfl Tryz.infoCmd (cmdCs_one rfl rfl rfl rfl) ?_ rfl
    intro kz
    go_upto_region 5 with fail
    obtain ⟨b3, hb3e⟩ : ∃ b3, b3 = w3.heap.size := ⟨_, rfl⟩
    rw [← hb3e] at kz ⊢
    refine name_world (fun w4 => Below w3.heap.size w3 w4 ∧ Blk w4 b3 55 zC) ⟨?_, kz⟩ ?_
    · rw [hb3e]
      exact below_setCells (B := w3.heap.size) (b := w3.heap.size) (Nat.le_refl _) _ 0 ((Below.refl _ _).alloc (Nat.le_refl _) _)
    clear kz hb3e
    rintro w4 ⟨hb4, z4⟩
    have hB4 := hB3.trans (hb4.mono hB3.size)
    have k4 := k3.below hb4 k3.lt
    have d4 := d3.below hb4 d3.lt
    go_wp2_with fail
    refine (txnTold_nil _).mono ?_
    rintro e w5 ⟨rfl, hb5⟩
    have hB5 := hB4.trans (hb5.mono hB4.size)
    have k5 := k4.below hb5 k4.lt
    have d5 := d4.below hb5 d4.lt
    have z5 := z4.below hb5 z4.lt
    go_upto_region 6 with fail
    obtain ⟨b5, hb5e⟩ : ∃ b5, b5 = w5.heap.size := ⟨_, rfl⟩
    rw [← hb5e]
    refine name_world (fun w6 => Below w5.heap.size w5 w6 ∧ Blk w6 b5 60 toldZ) ⟨(Below.refl _ _).alloc (Nat.le_refl _) _, Blk.new_ hb5e⟩ ?_
    clear hb5e
    rintro w6 ⟨hb6, t6⟩
    have hB6 := hB5.trans (hb6.mono hB5.size)
    have k6 := k5.below hb6 k5.lt
    have d6 := d5.below hb6 d5.lt
    have z6 := z5.below hb6 z5.lt
    go_wp2_with fail
    refine (txnDone_nil _).mono ?_
    rintro e w7 ⟨rfl, hb7⟩
    have hB7 := hB6.trans (hb7.mono hB6.size)
    have k7 := k6.below hb7 k6.lt
    have d7 := d6.below hb7 d6.lt
    have z7 := z6.below hb7 z6.lt
    have t7 := t6.below hb7 t6.lt
    go_upto_region 7 with fail
    obtain ⟨b7, hb7e⟩ : ∃ b7, b7 = w7.heap.size := ⟨_, rfl⟩
    rw [← hb7e]
    refine name_world (fun w8 => Below w7.heap.size w7 w8 ∧ Blk w8 b7 65 doneZ) ⟨(Below.refl _ _).alloc (Nat.le_refl _) _, Blk.new_ hb7e⟩ ?_
    clear hb7e
    rintro w8 ⟨hb8, o8⟩
    have hB8 := hB7.trans (hb8.mono hB7.size)
    have k8 := k7.below hb8 k7.lt
    have d8 := d7.below hb8 d7.lt
    have z8 := z7.below hb8 z7.lt
    have t8 := t7.below hb8 t7.lt
    clear k1 k2 k3 k4 k5 k6 k7 d1 d2 d3 d4 d5 d6 d7 z4 z5 z6 z7 t6 t7
    refine wp_region_split 3 ?_
    show wpList _ _ (thenL _ _ _ _) [_, _, _] _ _
    go_wp2_with fail
    refine (txnAwake_any _).mono ?_
    rintro e w9 ⟨rfl, hb9⟩
    have hB9 := hB8.trans (hb9.mono hB8.size)
    have k9 := k8.below hb9 k8.lt
    have d9 := d8.below hb9 d8.lt
    have z9 := z8.below hb9 z8.lt
    have t9 := t8.below hb9 t8.lt
    have o9 := o8.below hb9 o8.lt
    clear k8 d8 z8 t8 o8
    go_wp2
    show wpList _ _ _ _ _ _
    refine wpList_loadG rfl rfl rfl k9 Tryz.underlying26 rfl (by rw [HC.out]; kernel_rfl) ?_
    simp only [Act.put, List.setIfInBounds_toArray, List.set_cons_succ, List.set_cons_zero]
    refine wpList_split 18 ?_
    show wpList _ _ (thenL _ _ _ _) [_, _, _, _, _, _, _, _, _, _, _, _, _, _, _, _, _, _] _ _
    go_wp2_with fail
    refine (txnOp_nil C _).mono ?_
    rintro e w10 ⟨rfl, hb10⟩
    go_wp2_with fail
    refine (txnCommit_nil _).mono ?_
    rintro e w11 ⟨rfl, hb11⟩
    go_wp2_with fail
    refine (txnAbort_nil _).mono ?_
    rintro e w12 ⟨rfl, hb12⟩
    have hbx := hb10.trans ((hb11.trans (hb12.mono hb11.size)).mono hb10.size)
    have hB12 := hB9.trans (hbx.mono hB9.size)
    have d12 := d9.below hbx d9.lt
    have z12 := z9.below hbx z9.lt
    have t12 := t9.below hbx t9.lt
    have o12 := o9.below hbx o9.lt
    clear k9 d9 z9 t9 o9
    go_wp2
    show wpList _ _ _ _ _ _
    refine wpList_loadG rfl rfl rfl z12 Tryz.underlying55 rfl Tryz.infoCmd ?_
    simp only [Act.put, List.setIfInBounds_toArray, List.set_cons_succ, List.set_cons_zero]
    refine wpList_split 9 ?_
    show wpList _ _ (thenL _ _ _ _) [_, _, _, _, _, _, _, _, _] _ _
    go_wp2_with fail
    refine (cmdSame_any (ok := fun _ => True) (ok2 := fun _ => True) 0 0 false ⟨0, 0, false, [], [], [], []⟩ nl nl nl nl nl nl nl nl _ ⟨RSl.nil_ _ _ _, RSl.nil_ _ _ _, RSl.nil_ _ _ _, RSl.nil_ _ _ _⟩ ⟨RSl.nil_ _ _ _, RSl.nil_ _ _ _, RSl.nil_ _ _ _, RSl.nil_ _ _ _⟩).mono ?_
    rintro e w13 ⟨rfl, hb13⟩
    have hB13 := hB12.trans (hb13.mono hB12.size)
    have d13 := d12.below hb13 d12.lt
    have t13 := t12.below hb13 t12.lt
    have o13 := o12.below hb13 o12.lt
    clear d12 z12 t12 o12
    go_wp2
    show wpList _ _ _ _ _ _
    refine wpList_loadG rfl rfl rfl d13 Tryz.underlying40 rfl (by rw [HD.out]; kernel_rfl) ?_
    simp only [Act.put, List.setIfInBounds_toArray, List.set_cons_succ, List.set_cons_zero]
    go_wp2_with fail
    refine (txnGot_nil D _).mono ?_
    rintro e w14 ⟨rfl, hb14⟩
    have hB14 := hB13.trans (hb14.mono hB13.size)
    have t14 := t13.below hb14 t13.lt
    have o14 := o13.below hb14 o13.lt
    obtain ⟨a0, a1, a2⟩ := z3cells t14
    go_wp2_with fail
    refine (told_same _).mono ?_
    rintro e w15 ⟨rfl, hb15⟩
    have hB15 := hB14.trans (hb15.mono hB14.size)
    have o15 := o14.below hb15 o14.lt
    clear a0 a1 a2
    obtain ⟨a0, a1, a2, a3, a4⟩ := z5cells o15
    go_wp2_with fail
    refine (done_same _).mono ?_
    rintro e w16 ⟨rfl, hb16⟩
    have hB16 := hB15.trans (hb16.mono hB15.size)
    go_wp2_with fail
    refine (txnID_nil _).mono ?_
    rintro e w17 ⟨rfl, hb17⟩
    have hB17 := hB16.trans (hb17.mono hB16.size)
    go_wp2_with fail
    refine (txnResults_nil _).mono ?_
    rintro e w18 ⟨rfl, hb18⟩
    go_wp2
    go_ret
    exact ⟨rfl, hB17.trans (hb18.mono hB17.size)⟩
end Go.Proofs.YtmiceacjpadllaaGreatDoor
