/- Contracts: (*Table).Put at the locks of law 22. -/
import Derived.Test.YtikkknaofiafhaaM7
import Derived.Test.YtikkknaofiafhaaSeq
namespace Go.Proofs.Ytikkknaofiafhaa
open Go.RowKit

set_option maxRecDepth 100000 in
set_option maxHeartbeats 6400000 in
theorem tPut_nil {ok : Nat → Prop} (g : Nat) (o1 o2 l over f1 f2 gone ws : Value) (n : Int) (k : List UInt8) (w : World) (hg : Blk w g 90 (shCs o1 o2 l nl n over f1 f2 gone)) (hw : RSl rWr ok w ws [k]) :
    Calls Try.prog 140 #[.pointer (some ⟨g, 3, none⟩), .agg #[.int .u64 9, nl, nl, ws]] w fun e w' => e = .returned (.int .i64 0) ∧ Kp (fun b => b ≠ g) w w' ∧ ∃ A c, Blk w' g 90 (shCs o1 o2 l (.slice A 1 c) n over f1 f2 gone) ∧ RSl rHe (fun b => w.heap.size ≤ b) w' (.slice A 1 c) [k] := by
  obtain ⟨A5, a5, rfl, _, _⟩ := hw.form
  have hgl := hg.lt
  go_enter Try.func140, Try.ntmps140
  go_upto_region 1 with fail
  refine name_world (fun w1 => Below w.heap.size w w1 ∧ w.heap.size + 1 ≤ w1.heap.size ∧ Blk w1 w.heap.size 191 #[.int .u64 9, nl, nl, .slice A5 1 a5]) ⟨(Below.refl _ _).alloc (Nat.le_refl _) _, by simp, Blk.new _ _ _⟩ ?_
  rintro w1 ⟨hB1, hz1, k1⟩
  have kg1 := hg.below hB1 hgl
  have c3 : w1.cell? ⟨g, 3, none⟩ = some nl := kg1.cell 3
  obtain ⟨z0, z1, z2, z3⟩ := cells4 k1
  go_wp2_with fail
  refine (tMay_nil (ok := fun _ => True) g 3 none A5 0 1 a5 _ c3).mono ?_
  rintro e w2 ⟨rfl, hb2⟩
  have hB2 := hB1.trans (hb2.mono hB1.size)
  have hz2 := Nat.le_trans hz1 hb2.size
  have k2 := k1.below hb2 k1.lt
  have kg2 := kg1.below hb2 kg1.lt
  clear c3 z0 z1 z2 z3 k1 kg1
  have l3 : ∀ s : Later w2, s.val.cell? ⟨g, 3, none⟩ = some nl := kg2.later rfl
  go_wp2
  refine wp_loop_rounds 1 ?_
  rw [rounds_succ]
  go_wp2
  refine wp_seqL [] (by as_aux_lemma => kernel_rfl) (by as_aux_lemma => kernel_rfl) fun w3 hb3 => ?_
  refine seqL_pre 20 (by kernel_rfl) ?_
  simp only [List.take_succ_cons, List.take_zero, List.drop_succ_cons, List.drop_zero]
  repeat (go_big_quiet_step (fail))
  refine wpQuiet_nil ?_
  refine seqL_nil ?_
  have hB3 := hB2.trans (hb3.mono hB2.size)
  have hz3 := Nat.le_trans hz2 hb3.size
  have k3 := k2.below hb3 k2.lt
  have kg3 := kg2.below hb3 kg2.lt
  clear l3 k2 kg2
  have m0 : ∀ s : LaterB w3 (fun b => b = g), s.val.cell? ⟨w.heap.size, 0, none⟩ = some (.int .u64 9) := LaterB.cell (k3.cell 0) (by simp; omega)
  have m1 : ∀ s : LaterB w3 (fun b => b = g), s.val.cell? ⟨w.heap.size, 1, none⟩ = some nl := LaterB.cell (k3.cell 1) (by simp; omega)
  have m2 : ∀ s : LaterB w3 (fun b => b = g), s.val.cell? ⟨w.heap.size, 2, none⟩ = some nl := LaterB.cell (k3.cell 2) (by simp; omega)
  have m3 : ∀ s : LaterB w3 (fun b => b = g), s.val.cell? ⟨w.heap.size, 3, none⟩ = some (.slice A5 1 a5) := LaterB.cell (k3.cell 3) (by simp; omega)
  have l3 : ∀ s : Later w3, s.val.cell? ⟨g, 3, none⟩ = some nl := kg3.later rfl
  go_wp2
  refine wp_seqB (fun b => b = g) 21 [9, 10, 11, 18, 21] (by as_aux_lemma => kernel_rfl) (by as_aux_lemma => kernel_rfl) fun w4 hb4 => ?_
  refine seqB_pre 4 (by kernel_rfl) ?_
  simp only [List.take_succ_cons, List.take_zero, List.drop_succ_cons, List.drop_zero]
  repeat (go_big_quiet_step (fail))
  refine wpQuiet_nil ?_
  refine seqB_pre0 1 (by kernel_rfl) (by kernel_rfl) ?_
  simp only [List.take_succ_cons, List.take_zero, List.drop_succ_cons, List.drop_zero]
  repeat (go_big_quiet_step (fail))
  refine wpQuiet_nil ?_
  refine seqB_pre 2 (by kernel_rfl) ?_
  simp only [List.take_succ_cons, List.take_zero, List.drop_succ_cons, List.drop_zero]
  repeat (go_big_quiet_step (fail))
  refine wpQuiet_nil ?_
  refine seqB_still nl rfl rfl (fun s => still_app_nil (E := rHe) (okd := fun _ => True) (base := 0) Try.rowHe rfl rfl (OwnL.nil_ _ _ _ _ _) (c := 0) rfl) ?_
  simp only [Act.put, List.setIfInBounds_toArray, List.set_cons_succ, List.set_cons_zero]
  refine seqB_pre 1 (by kernel_rfl) ?_
  simp only [List.take_succ_cons, List.take_zero, List.drop_succ_cons, List.drop_zero]
  repeat (go_big_quiet_step (fail))
  refine wpQuiet_nil ?_
  refine seqB_wild0 hb4 rfl rfl fun K hK => ?_
  unfold Gives
  go_simp
  have hB4 := hB3.trans (hb4.mono hB3.size)
  refine (tCopy_any _ k _ (hw.below hB4)).mono ?_
  rintro e w5 ⟨⟨A6, c6, rfl, h6⟩, hb5⟩
  refine ⟨_, rfl, hK _ _ hb5 fun hb5' => ?_⟩
  clear hK
  clear K
  simp only [Act.put, List.setIfInBounds_toArray, List.set_cons_succ, List.set_cons_zero]
  refine seqB_wild0 hb5' rfl rfl fun K hK => ?_
  unfold Gives
  go_simp
  have hal := (Below.refl w5.heap.size w5).alloc (Nat.le_refl _) (.cells #[.int .u64 9, nl, nl, .slice A6 1 c6] 191)
  have hz4 : w.heap.size + 1 ≤ w4.heap.size := Nat.le_trans hz3 hb4.size
  have hz5 : w.heap.size + 1 ≤ w5.heap.size := Nat.le_trans hz4 hb5.size
  have r6 := RSl.one_new (E := rHe) (ok := fun b => w.heap.size ≤ b) (w := w5) (cs := #[.int .u64 9, nl, nl, .slice A6 1 c6]) (d := k) 191 ⟨_, rfl, h6.mono (by decide) fun b hb _ => by omega⟩ (by omega) (by decide)
  refine hK _ _ hal fun hb6 => ?_
  clear hK
  clear K
  simp only [Act.put, List.setIfInBounds_toArray, List.set_cons_succ, List.set_cons_zero]
  refine seqB_wild0 hb6 rfl rfl fun K hK => ?_
  refine gives_app (E := rHe) Try.rowHe (by decide) _ _ rfl nl [] _ rfl (OwnL.nil_ rHe (fun b => w.heap.size ≤ b) w.heap.size 191 _) (.slice (some ⟨w5.heap.size, 0, none⟩) 1 1) [k] rfl (r6.mono (by decide) fun b hb2 _ => ⟨hb2, fun e => by cases e⟩) (by show (0 + 1) * 80 ≤ _; omega) (by show 0 + 1 ≤ _; omega) (by simp; omega) fun v7 w7 hown hk7 => ?_
  have hbb : Below (w5.alloc (.cells #[.int .u64 9, nl, nl, .slice A6 1 c6] 191)).heap.size (w5.alloc (.cells #[.int .u64 9, nl, nl, .slice A6 1 c6] 191)) w7 := hk7.below (Nat.le_refl _) fun b _ h => by cases h
  refine hK _ _ hbb fun hb7 => ?_
  clear hK
  clear K
  obtain ⟨A7, c7, rfl, _⟩ := hown.form
  simp only [Act.put, List.setIfInBounds_toArray, List.set_cons_succ, List.set_cons_zero]
  refine seqB_pre 3 (by kernel_rfl) ?_
  simp only [List.take_succ_cons, List.take_zero, List.drop_succ_cons, List.drop_zero]
  repeat (go_big_quiet_step (fail))
  refine wpQuiet_nil ?_
  refine seqB_pre0 1 (by kernel_rfl) (by kernel_rfl) ?_
  simp only [List.take_succ_cons, List.take_zero, List.drop_succ_cons, List.drop_zero]
  repeat (go_big_quiet_step (fail))
  refine wpQuiet_nil ?_
  refine seqB_pre 2 (by kernel_rfl) ?_
  simp only [List.take_succ_cons, List.take_zero, List.drop_succ_cons, List.drop_zero]
  repeat (go_big_quiet_step (fail))
  refine wpQuiet_nil ?_
  refine seqB_wild0 hb7 rfl rfl fun K hK => ?_
  have hown2 : OwnL rHe (fun b => w.heap.size ≤ b) w.heap.size 191 w7 (.slice A7 1 c7) [k] := hown
  refine gives_app_nil (E := rHe) Try.rowHe _ _ rfl (.slice A7 1 c7) [k] _ rfl hown2 0 rfl ?_
  refine hK _ _ (Below.refl _ _) fun _ => ?_
  clear hK
  clear K
  simp only [Act.put, List.setIfInBounds_toArray, List.set_cons_succ, List.set_cons_zero]
  refine seqB_pre 2 (by kernel_rfl) ?_
  simp only [List.take_succ_cons, List.take_zero, List.drop_succ_cons, List.drop_zero]
  repeat (go_big_quiet_step (fail))
  refine wpQuiet_nil ?_
  have kg7 := kg3.below hb7 kg3.lt
  have kf7 := fun i => kg7.frozen i
  have kc7 : w7.cell? ⟨g, 3, none⟩ = some nl := kg7.cell 3
  refine seqB_wild (Kp.of_below hb7) rfl rfl fun K hK => ?_
  unfold Gives
  go_simp
  have hkp : Kp (fun b => ¬ b = g) w7 (w7.setCell ⟨g, 3, none⟩ (.slice A7 1 c7)) := (Kp.refl _ _).setCell (fun _ h => h rfl) _
  refine hK _ _ hkp fun hk8 => ?_
  clear hK
  clear K
  simp only [Act.put, List.setIfInBounds_toArray, List.set_cons_succ, List.set_cons_zero]
  refine seqB_nil ?_
  have kg8 := kg7.set_ 3 (.slice A7 1 c7)
  have hr8 : RSl rHe (fun b => w.heap.size ≤ b) w7 (.slice A7 1 c7) [k] := hown2.rsl (by decide) (by show 1 * 80 ≤ _; omega) (fun b h => h) (fun b h => h)
  have hr9 := hr8.kp (hkp.mono fun b h => by intro e; omega)
  clear m0 m1 m2 m3 l3 kc7 kf7
  go_wp2
  go_ret
  exact ⟨rfl, (Kp.of_below hB3).trans hk8, _, _, by simpa using kg8, hr9⟩
end Go.Proofs.Ytikkknaofiafhaa
