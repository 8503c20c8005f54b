/- Law 21's nil job: the law. -/
import Derived.Test.YtdibkhphemfdeaaGreatDoorE7
namespace Go.Proofs.YtdibkhphemfdeaaGreatDoor
open Go.RowKit

set_option maxRecDepth 100000 in
set_option maxHeartbeats 12800000 in
theorem lawDdlNil (C D : Array Value) (w : World) (hC : C.size = 15) (hD : D.size = 3) :
    Calls Tryz.prog 3 #[.agg C, .agg D] w fun e w' => e = .returned (.bool true) ∧ Below w.heap.size w w' := by
  have HC := Lib.hid hC
  have HD := Lib.hid hD
  clear hC hD
  go_enter Tryz.func3, Tryz.ntmps3
  go_upto_region 2 with fail
  refine name_world (fun w1 => Below w.heap.size w w1 ∧ w.heap.size + 2 ≤ w1.heap.size ∧ Blk w1 w.heap.size 35 C ∧ Blk w1 (w.heap.size + 1) 38 D) ⟨((Below.refl _ _).alloc (Nat.le_refl _) _).alloc (by simp) _, by simp, (Blk.new _ _ _).alloc _, Blk.new_ (by simp)⟩ ?_
  rintro w1 ⟨hB1, hz1, k1, d1⟩
  refine wp_region_split 16 ?_
  simp only [List.take_succ_cons, List.take_zero, List.drop_succ_cons, List.drop_zero]
  go_wp2_with fail
  refine (ddlNext_nil _ _ _).mono ?_
  rintro e w2 ⟨rfl, hb2⟩
  have hbp : Below w1.heap.size w1 w2 := (((Below.refl w1.heap.size w1).alloc (Nat.le_refl _) _).alloc (by simp) _).trans (hb2.mono (by simp; omega))
  have hB2 := hB1.trans (hbp.mono hB1.size)
  have k2 := k1.below hbp k1.lt
  have d2 := d1.below hbp d1.lt
  clear hb2
  go_wp2
  show wpList _ _ _ _ _ _
  refine wpList_storeB' (C := zC) rfl rfl zC rfl rfl ((Blk.new_ rfl).alloc _) rfl Tryz.infoCmd2 (cmdCs_one rfl rfl rfl rfl) ?_ rfl
  intro kz
  refine wpList_storeB' (C := opZ) rfl rfl opZ rfl rfl (far_setCells (g := w2.heap.size + 1) (b := w2.heap.size) (by omega) zC.toList 0 (Blk.new_ (by simp))) rfl Tryz.infoOp2 op_oneZ ?_ rfl
  intro ko
  go_upto_region 3 with fail
  refine name_world (fun w4 => Below w2.heap.size w2 w4 ∧ Blk w4 w2.heap.size 51 zC ∧ Blk w4 (w2.heap.size + 1) 56 opZ) ⟨below_setCells (B := w2.heap.size) (b := w2.heap.size + 1) (by omega) opZ.toList 0 (below_setCells (B := w2.heap.size) (b := w2.heap.size) (Nat.le_refl _) zC.toList 0 (((Below.refl _ _).alloc (Nat.le_refl _) _).alloc (by simp) _)), far_setCells (g := w2.heap.size) (b := w2.heap.size + 1) (by omega) opZ.toList 0 kz, by simpa using ko⟩ ?_
  clear kz ko
  rintro w4 ⟨hb4, kz, ko⟩
  have hB4 := hB2.trans (hb4.mono hB2.size)
  have k4 := k2.below hb4 k2.lt
  have d4 := d2.below hb4 d2.lt
  refine wp_region_split 10 ?_
  simp only [List.take_succ_cons, List.take_zero, List.drop_succ_cons, List.drop_zero]
  go_wp2_with fail
  refine (ddlAwake_any _).mono ?_
  rintro e w5 ⟨rfl, hb5⟩
  have hB5 := hB4.trans (hb5.mono hB4.size)
  have k5 := k4.below hb5 k4.lt
  have d5 := d4.below hb5 d4.lt
  have z5 := kz.below hb5 kz.lt
  have o5 := ko.below hb5 ko.lt
  go_wp2
  show wpList _ _ _ _ _ _
  refine wpList_loadG rfl rfl rfl z5 Tryz.underlying51 rfl Tryz.infoCmd2 ?_
  simp only [Act.put, List.setIfInBounds_toArray, List.set_cons_succ, List.set_cons_zero]
  refine wpList_split 4 ?_
  simp only [List.take_succ_cons, List.take_zero, List.drop_succ_cons, List.drop_zero]
  go_wp2_with fail
  refine (cmdSame_any (ok := fun _ => True) (ok2 := fun _ => True) 0 0 false ⟨0, 0, false, [], [], [], []⟩ nl nl nl nl nl nl nl nl _ ⟨RSl.nil_ _ _ _, RSl.nil_ _ _ _, RSl.nil_ _ _ _, RSl.nil_ _ _ _⟩ ⟨RSl.nil_ _ _ _, RSl.nil_ _ _ _, RSl.nil_ _ _ _, RSl.nil_ _ _ _⟩).mono ?_
  rintro e w6 ⟨rfl, hb6⟩
  have hB6 := hB5.trans (hb6.mono hB5.size)
  have k6 := k5.below hb6 k5.lt
  have d6 := d5.below hb6 d5.lt
  have o6 := o5.below hb6 o5.lt
  go_wp2
  show wpList _ _ _ _ _ _
  refine wpList_loadG rfl rfl rfl o6 Tryz.underlying56 rfl Tryz.infoOp2 ?_
  simp only [Act.put, List.setIfInBounds_toArray, List.set_cons_succ, List.set_cons_zero]
  refine wpList_split 5 ?_
  simp only [List.take_succ_cons, List.take_zero, List.drop_succ_cons, List.drop_zero]
  go_wp2_with fail
  refine (opSame_zero _).mono ?_
  rintro e w7 ⟨rfl, hb7⟩
  have hB7 := hB6.trans (hb7.mono hB6.size)
  have k7 := k6.below hb7 k6.lt
  have d7 := d6.below hb7 d6.lt
  go_wp2
  show wpList _ _ _ _ _ _
  refine wpList_loadG rfl rfl rfl k7 Tryz.underlying35 rfl (by rw [HC.out]; kernel_rfl) ?_
  simp only [Act.put, List.setIfInBounds_toArray, List.set_cons_succ, List.set_cons_zero]
  refine wpList_split 5 ?_
  simp only [List.take_succ_cons, List.take_zero, List.drop_succ_cons, List.drop_zero]
  go_wp2_with fail
  refine (ddlGot_nil C _).mono ?_
  rintro e w8 ⟨rfl, hb8⟩
  have hB8 := hB7.trans (hb8.mono hB7.size)
  have d8 := d7.below hb8 d7.lt
  go_wp2
  show wpList _ _ _ _ _ _
  refine wpList_loadG rfl rfl rfl d8 Tryz.underlying38 rfl (by rw [HD.out]; kernel_rfl) ?_
  simp only [Act.put, List.setIfInBounds_toArray, List.set_cons_succ, List.set_cons_zero]
  go_wp2_with fail
  refine (ddlRan_nil D _).mono ?_
  rintro e w9 ⟨rfl, hb9⟩
  have hB9 := hB8.trans (hb9.mono hB8.size)
  go_wp2_with fail
  refine (first0_any 0 1 nl _).mono ?_
  rintro e w10 ⟨rfl, hb10⟩
  go_wp2
  go_ret
  exact ⟨rfl, hB9.trans (hb10.mono hB9.size)⟩
end Go.Proofs.YtdibkhphemfdeaaGreatDoor
