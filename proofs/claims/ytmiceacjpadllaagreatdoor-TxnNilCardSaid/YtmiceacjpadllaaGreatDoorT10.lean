/- A transaction without ops: on behind its beginning; begun.
A transaction without ops: Got, Told; awake.
The law's awake: a transaction without ops is begun, decided, told.
From a row's reading to the walk's words, and back: slices of values, of bytes; the end of a law that changes nothing.
From a row's reading to plain data, whatever its depth: slices, structs. No program in sight but the types of tables and indexes at the end.
Law 20's nil transaction: an op that comes as an argument; fits. -/
import Derived.Test.YtmiceacjpadllaaGreatDoorT6
import Derived.Test.YtmiceacjpadllaaGreatDoorDat
import Derived.Test.YtmiceacjpadllaaGreatDoorRows
import Derived.ProofKit
import Derived.SizedLaws
import Derived.Deep.Slices
import Derived.Deep.Strs
import Derived.Lib.SmallJoins
import Derived.Test.YtmiceacjpadllaaGreatDoorK1
import Derived.Deep.Fields
import Derived.Deep.CutBlock
namespace Go.Proofs.YtmiceacjpadllaaGreatDoor
open Go.RowKit
set_option maxRecDepth 100000 in
set_option maxHeartbeats 3200000 in
theorem on_doing (g gw m1 m2 : Nat) (id v n : Int) (r0 r1 r2 r3 r4 : Value) (pl : Int) (w : World) (h : Blk w g 84 (txCs 1 id (.pointer (some ⟨gw, 0, none⟩)) r0 r1 r2 r3 r4 true pl)) (hw : Wk0 w gw m1 m2 v n) (n0 : gw ≠ g) (n1 : m1 ≠ g) (n2 : m2 ≠ g) :
    Calls Tryz.prog 26 #[.pointer (some ⟨g, 0, none⟩)] w fun e w' => (∃ u, e = .returned u) ∧ Blk w' g 84 (txCs 3 id (.pointer (some ⟨gw, 0, none⟩)) r0 r1 r2 r3 r4 true pl) ∧ Kp (fun b => b ≠ g) w w' := by
  have d0 : ∀ s : Later w, s.val.cell? ⟨g, 0, none⟩ = some (.int .i64 1) := h.later rfl
  have d9 : ∀ s : Later w, s.val.cell? ⟨g, 9, none⟩ = some nl := h.later rfl
  have d10 : ∀ s : Later w, s.val.cell? ⟨g, 10, none⟩ = some nl := h.later rfl
  have d13 : ∀ s : Later w, s.val.cell? ⟨g, 13, none⟩ = some (.bool false) := h.later rfl
  go_enter Tryz.func26, Tryz.ntmps26
  go_wp2
  refine wp_loop_rounds 1 ?_
  rw [rounds_succ]
  go_upto_region 0 with fail
  refine wp_seqL [] (by as_aux_lemma => kernel_rfl) (by as_aux_lemma => kernel_rfl) fun w3 hb3 => ?_
  refine seqL_pre 25 (by kernel_rfl) ?_
  simp only [List.take_succ_cons, List.take_zero, List.drop_succ_cons, List.drop_zero]
  repeat (go_big_quiet_step (fail))
  refine wpQuiet_nil ?_
  refine seqL_nil ?_
  have h3 := h.below hb3 h.lt
  have hw3 := hw.below hb3 hw.lt.1 hw.lt.2.1 hw.lt.2.2
  have e0 : w3.cell? ⟨g, 0, none⟩ = some (.int .i64 1) := h3.cell 0
  have e13 : w3.cell? ⟨g, 13, none⟩ = some (.bool false) := h3.cell 13
  have e11 : w3.cell? ⟨g, 11, none⟩ = some (.bool true) := h3.cell 11
  clear d0 d9 d10 d13
  go_wp2_with (go_at_call 64; refine (prepare_none g gw m1 m2 id v n r0 r1 r2 r3 r4 true pl _ h3 hw3 n0 n1 n2).mono ?_; rintro e w' ⟨⟨u, rfl⟩, hb, hk⟩)
  go_end0
  exact ⟨⟨_, rfl⟩, hb, (Kp.of_below hb3).trans hk⟩
def repB (bl : Nat) : Array Value := #[.int .i64 0, .int .u64 1, .int .i64 0, .bool false, nl, nl, .int .i64 0, .int .i64 1, nl, nl, .int .i64 0, .int .i64 1, .slice (some ⟨bl, 0, none⟩) 1 1, .int .i64 0, nl]
set_option maxRecDepth 100000 in
set_option maxHeartbeats 6400000 in
theorem begun_any (g bl bk : Nat) (w : World) (h : Blk w g 84 (txCs 0 0 (.pointer none) (.int .i64 0) (.int .i64 0) nl (.int .i64 0) nl true 0)) (kl : Blk w bl 79 #[.int .i64 2, .slice (some ⟨bk, 0, none⟩) 1 1]) (kk : Blk w bk 5 #[.int .u8 120]) (hbg : bl ≠ g) (hkg : bk ≠ g) :
    Calls Tryz.prog 38 #[.pointer (some ⟨g, 0, none⟩), .agg (repB bl)] w fun e w' => (∃ u, e = .returned u) ∧ (∃ wk r0 r1 r2 r3 r4, Blk w' g 84 (txCs 3 1 wk r0 r1 r2 r3 r4 true 0)) ∧ Kp (fun b => b ≠ g) w w' := by
  go_enter Tryz.func38, Tryz.ntmps38
  go_upto_region 1 with fail
  refine name_world (fun w1 => Below w.heap.size w w1 ∧ w.heap.size < w1.heap.size ∧ Blk w1 w.heap.size 40 (repB bl)) ⟨(Below.refl _ _).alloc (Nat.le_refl _) _, by simp, Blk.new _ _ _⟩ ?_
  rintro w1 ⟨hB1, hz1, p1⟩
  obtain ⟨gb, hgb⟩ : ∃ gb, gb = w.heap.size := ⟨_, rfl⟩
  rw [← hgb] at p1 ⊢
  have hgg : gb ≠ g := by have := h.lt; omega
  have k1 := h.below hB1 h.lt
  have kl1 := kl.below hB1 kl.lt
  have kk1 := kk.below hB1 kk.lt
  have hgbl : w.heap.size ≤ gb := by omega
  clear hgb
  have a0 : w1.cell? ⟨gb, 0, none⟩ = some (.int .i64 0) := p1.cell 0
  have a1 : w1.cell? ⟨gb, 1, none⟩ = some (.int .u64 1) := p1.cell 1
  go_upto_region 3 with fail
  have q1 : ∀ s : LaterB w1 (fun b => b = g), s.val.cell? ⟨gb, 1, none⟩ = some (.int .u64 1) := LaterB.cell (p1.cell 1) hgg
  have q6 : ∀ s : LaterB w1 (fun b => b = g), s.val.cell? ⟨gb, 6, none⟩ = some (.int .i64 0) := LaterB.cell (p1.cell 6) hgg
  clear a0 a1
  refine wp_seqB (fun b => b = g) 10 [10, 13, 16] (by as_aux_lemma => kernel_rfl) (by as_aux_lemma => kernel_rfl) fun w2 hb2 => ?_
  have k2 := k1.below hb2 k1.lt
  have fg := fun i => k2.frozen i
  have c0 : w2.cell? ⟨g, 0, none⟩ = some (.int .i64 0) := k2.cell 0
  have c1 : w2.cell? ⟨g, 1, none⟩ = some (.int .u64 0) := k2.cell 1
  have c2 : w2.cell? ⟨g, 2, none⟩ = some (.int .i64 0) := k2.cell 2
  have hkp : ∀ (w : World) o u, Kp (fun b => ¬ b = g) w (w.setCell ⟨g, o, none⟩ u) := fun w o u => (Kp.refl _ _).setCell (fun _ h => h rfl) _
  refine seqB_pre 10 (by kernel_rfl) ?_
  simp only [List.take_succ_cons, List.take_zero, List.drop_succ_cons, List.drop_zero]
  repeat (go_big_quiet_step (fail))
  refine wpQuiet_nil ?_
  refine seqB_wild (Kp.of_below hb2) rfl rfl fun K hK => ?_
  unfold Gives
  go_simp
  refine hK _ _ (hkp _ _ _) fun hK3 => ?_
  clear hK
  clear K
  simp only [Act.put, List.setIfInBounds_toArray, List.set_cons_succ, List.set_cons_zero]
  refine seqB_pre 2 (by kernel_rfl) ?_
  simp only [List.take_succ_cons, List.take_zero, List.drop_succ_cons, List.drop_zero]
  repeat (go_big_quiet_step (fail))
  refine wpQuiet_nil ?_
  refine seqB_wild hK3 rfl rfl fun K hK => ?_
  unfold Gives
  go_simp
  refine hK _ _ (hkp _ _ _) fun hK4 => ?_
  clear hK
  clear K
  simp only [Act.put, List.setIfInBounds_toArray, List.set_cons_succ, List.set_cons_zero]
  refine seqB_pre 2 (by kernel_rfl) ?_
  simp only [List.take_succ_cons, List.take_zero, List.drop_succ_cons, List.drop_zero]
  repeat (go_big_quiet_step (fail))
  refine wpQuiet_nil ?_
  refine seqB_wild hK4 rfl rfl fun K hK => ?_
  unfold Gives
  go_simp
  refine hK _ _ (hkp _ _ _) fun hK5 => ?_
  clear hK
  clear K
  simp only [Act.put, List.setIfInBounds_toArray, List.set_cons_succ, List.set_cons_zero]
  refine seqB_nil ?_
  have ks : Blk (((w2.setCell ⟨g, 0, none⟩ (.int .i64 1)).setCell ⟨g, 1, none⟩ (.int .u64 1)).setCell ⟨g, 2, none⟩ (.int .i64 0)) g 84 (txCs 1 1 (.pointer none) (.int .i64 0) (.int .i64 0) nl (.int .i64 0) nl true 0) := ((k2.set_ 0 (.int .i64 1)).set_ 1 (.int .u64 1)).set_ 2 (.int .i64 0)
  go_upto_region 4 with fail
  refine name_world (fun w6 => Blk w6 g 84 (txCs 1 1 (.pointer none) (.int .i64 0) (.int .i64 0) nl (.int .i64 0) nl true 0) ∧ Kp (fun b => ¬ b = g) w1 w6) ⟨ks, hK5⟩ ?_
  clear q1 q6 ks hK5 c0 c1 c2 fg hK3 hK4
  rintro w6 ⟨k6, hk6⟩
  have p6 := p1.kp hk6 hgg
  have kl6 := kl1.kp hk6 hbg
  have kk6 := kk1.kp hk6 hkg
  have q6 : ∀ s : LaterB w6 (fun b => b = g), s.val.cell? ⟨gb, 6, none⟩ = some (.int .i64 0) := LaterB.cell (p6.cell 6) hgg
  have q7 : ∀ s : LaterB w6 (fun b => b = g), s.val.cell? ⟨gb, 7, none⟩ = some (.int .i64 1) := LaterB.cell (p6.cell 7) hgg
  have q8 : ∀ s : LaterB w6 (fun b => b = g), s.val.cell? ⟨gb, 8, none⟩ = some nl := LaterB.cell (p6.cell 8) hgg
  have q9 : ∀ s : LaterB w6 (fun b => b = g), s.val.cell? ⟨gb, 9, none⟩ = some nl := LaterB.cell (p6.cell 9) hgg
  have q10 : ∀ s : LaterB w6 (fun b => b = g), s.val.cell? ⟨gb, 10, none⟩ = some (.int .i64 0) := LaterB.cell (p6.cell 10) hgg
  have q11 : ∀ s : LaterB w6 (fun b => b = g), s.val.cell? ⟨gb, 11, none⟩ = some (.int .i64 1) := LaterB.cell (p6.cell 11) hgg
  have q12 : ∀ s : LaterB w6 (fun b => b = g), s.val.cell? ⟨gb, 12, none⟩ = some (.slice (some ⟨bl, 0, none⟩) 1 1) := LaterB.cell (p6.cell 12) hgg
  have q13 : ∀ s : LaterB w6 (fun b => b = g), s.val.cell? ⟨gb, 13, none⟩ = some (.int .i64 0) := LaterB.cell (p6.cell 13) hgg
  have q14 : ∀ s : LaterB w6 (fun b => b = g), s.val.cell? ⟨gb, 14, none⟩ = some nl := LaterB.cell (p6.cell 14) hgg
  refine wp_seqB (fun b => b = g) 11 [4, 5, 8, 11, 14] (by as_aux_lemma => kernel_rfl) (by as_aux_lemma => kernel_rfl) fun w7 hb7 => ?_
  refine seqB_pre 4 (by kernel_rfl) ?_
  simp only [List.take_succ_cons, List.take_zero, List.drop_succ_cons, List.drop_zero]
  repeat (go_big_quiet_step (fail))
  refine wpQuiet_nil ?_
  refine seqB_wild0 hb7 rfl rfl fun K hK => ?_
  unfold Gives
  go_simp
  refine (schemaOwn_none 0 1 _).mono ?_
  rintro e w8 ⟨rfl, hb8⟩
  refine ⟨_, rfl, hK _ _ (hb8) fun hB8 => ?_⟩
  clear hK
  clear K
  simp only [Act.put, List.setIfInBounds_toArray, List.set_cons_succ, List.set_cons_zero]
  refine seqB_wild0 hB8 rfl rfl fun K hK => ?_
  unfold Gives
  go_simp
  refine (opsNew_none 0 1 _).mono ?_
  rintro e w9 ⟨⟨gw, m1, m2, rfl, z0, z1, z2, hW⟩, hb9⟩
  refine ⟨_, rfl, hK _ _ (hb9) fun hB9 => ?_⟩
  clear hK
  clear K
  simp only [Act.put, List.setIfInBounds_toArray, List.set_cons_succ, List.set_cons_zero]
  refine seqB_pre 2 (by kernel_rfl) ?_
  simp only [List.take_succ_cons, List.take_zero, List.drop_succ_cons, List.drop_zero]
  repeat (go_big_quiet_step (fail))
  refine wpQuiet_nil ?_
  refine seqB_wild0 hB9 rfl rfl fun K hK => ?_
  unfold Gives
  go_simp
  have kl9 := kl6.below hB9 kl6.lt
  have kk9 := kk6.below hB9 kk6.lt
  refine (routeOwn_one 0 1 0 bl bk _ kl9 kk9).mono ?_
  rintro e w10 ⟨⟨A, n, c, A2, n2, c2, rfl⟩, hb10⟩
  refine ⟨_, rfl, hK _ _ (hb10) fun hB10 => ?_⟩
  clear hK
  clear K
  simp only [Act.put, List.setIfInBounds_toArray, List.set_cons_succ, List.set_cons_zero]
  have hW10 := hW.below hb10 hW.lt.1 hW.lt.2.1 hW.lt.2.2
  have k10 := k6.below hB10 k6.lt
  have fg := fun i => k10.frozen i
  have c3 : w10.cell? ⟨g, 3, none⟩ = some (.pointer none) := k10.cell 3
  have hkp : ∀ (w : World) o u, Kp (fun b => ¬ b = g) w (w.setCell ⟨g, o, none⟩ u) := fun w o u => (Kp.refl _ _).setCell (fun _ h => h rfl) _
  refine seqB_pre 2 (by kernel_rfl) ?_
  simp only [List.take_succ_cons, List.take_zero, List.drop_succ_cons, List.drop_zero]
  repeat (go_big_quiet_step (fail))
  refine wpQuiet_nil ?_
  refine seqB_wild (Kp.of_below hB10) rfl rfl fun K hK => ?_
  unfold Gives
  go_simp
  refine hK _ _ (hkp _ _ _) fun hK11 => ?_
  clear hK
  clear K
  simp only [Act.put, List.setIfInBounds_toArray, List.set_cons_succ, List.set_cons_zero]
  refine seqB_pre 2 (by kernel_rfl) ?_
  simp only [List.take_succ_cons, List.take_zero, List.drop_succ_cons, List.drop_zero]
  repeat (go_big_quiet_step (fail))
  refine wpQuiet_nil ?_
  refine seqB_wild hK11 rfl rfl fun K hK => ?_
  have k11 := k10.set_ 3 (.pointer (some ⟨gw, 0, none⟩))
  refine gives_stT (k := 4) rfl #[.int .i64 0, .int .i64 1, .slice A n c, .int .i64 0, .slice A2 n2 c2] rfl rfl k11 (show 4 + 5 ≤ 23 by decide) Tryz.infoRtT (by simp [Value.oneCell']) ?_
  refine hK _ _ ((Kp.setCells (fun _ h => h rfl) _ 4 (Kp.refl _ _))) fun hK12 => ?_
  clear hK
  clear K
  simp only [Act.put, List.setIfInBounds_toArray, List.set_cons_succ, List.set_cons_zero]
  refine seqB_nil ?_
  have kf : Blk ((w10.setCell ⟨g, 3, none⟩ (.pointer (some ⟨gw, 0, none⟩))).setCells g 4 [.int .i64 0, .int .i64 1, .slice A n c, .int .i64 0, .slice A2 n2 c2]) g 84 (txCs 1 1 (.pointer (some ⟨gw, 0, none⟩)) (.int .i64 0) (.int .i64 1) (.slice A n c) (.int .i64 0) (.slice A2 n2 c2) true 0) :=
    ((((k11.set_ 4 (.int .i64 0)).set_ 5 (.int .i64 1)).set_ 6 (.slice A n c)).set_ 7 (.int .i64 0)).set_ 8 (.slice A2 n2 c2)
  have hz8 : w6.heap.size ≤ w8.heap.size := hB8.size
  have n0 : gw ≠ g := by have := k6.lt; omega
  have n1 : m1 ≠ g := by have := k6.lt; omega
  have n2' : m2 ≠ g := by have := k6.lt; omega
  have hkw : Kp (fun b => ¬ b = g) w10 ((w10.setCell ⟨g, 3, none⟩ (.pointer (some ⟨gw, 0, none⟩))).setCells g 4 [.int .i64 0, .int .i64 1, .slice A n c, .int .i64 0, .slice A2 n2 c2]) := Kp.setCells (fun _ h => h rfl) _ 4 (hkp _ _ _)
  have hWf := hW10.kp hkw n0 n1 n2'
  clear q6 q7 q8 q9 q10 q11 q12 q13 q14 c3 fg hK11
  go_upto_region 5 with fail
  refine name_world (fun w13 => Blk w13 g 84 (txCs 1 1 (.pointer (some ⟨gw, 0, none⟩)) (.int .i64 0) (.int .i64 1) (.slice A n c) (.int .i64 0) (.slice A2 n2 c2) true 0) ∧ Wk0 w13 gw m1 m2 0 1 ∧ Kp (fun b => ¬ b = g) w6 w13) ⟨kf, hWf, hK12⟩ ?_
  clear kf hWf hK12 hkw
  rintro w13 ⟨k13, hW13, hk13⟩
  go_wp2_with (go_at_call 26; refine (on_doing g gw m1 m2 1 0 1 (.int .i64 0) (.int .i64 1) (.slice A n c) (.int .i64 0) (.slice A2 n2 c2) 0 _ k13 hW13 n0 n1 n2').mono ?_; rintro e w' ⟨⟨u, rfl⟩, hb, hk⟩)
  go_end0
  exact ⟨⟨_, rfl⟩, ⟨_, _, _, _, _, _, hb⟩, ((((Kp.of_below hB1).trans hk6).trans hk13).trans hk)⟩
end Go.Proofs.YtmiceacjpadllaaGreatDoor
namespace Go.Proofs.YtmiceacjpadllaaGreatDoor
open Go.RowKit
theorem Tryz.infoRepT : (Tryz.prog.info? 40).map (·.size) = some 15 := by kernel_rfl
set_option maxRecDepth 100000 in
set_option maxHeartbeats 6400000 in
theorem got_begin (g bl bk : Nat) (w : World) (h : Blk w g 84 (txCs 0 0 (.pointer none) (.int .i64 0) (.int .i64 0) nl (.int .i64 0) nl true 0)) (kl : Blk w bl 79 #[.int .i64 2, .slice (some ⟨bk, 0, none⟩) 1 1]) (kk : Blk w bk 5 #[.int .u8 120]) (hbg : bl ≠ g) (hkg : bk ≠ g) :
    Calls Tryz.prog 13 #[.pointer (some ⟨g, 0, none⟩), .agg (repB bl)] w fun e w' => e = .returned (.int .i64 0) ∧ (∃ wk r0 r1 r2 r3 r4, Blk w' g 84 (txCs 3 1 wk r0 r1 r2 r3 r4 true 0)) ∧ Kp (fun b => b ≠ g) w w' := by
  go_enter Tryz.func13, Tryz.ntmps13
  go_upto_region 3 with fail
  refine name_world (fun w1 => Below w.heap.size w w1 ∧ w.heap.size < w1.heap.size ∧ Blk w1 w.heap.size 40 (repB bl)) ⟨(Below.refl _ _).alloc (Nat.le_refl _) _, by simp, Blk.new _ _ _⟩ ?_
  rintro w1 ⟨hB1, hz1, p1⟩
  have k1 := h.below hB1 h.lt
  refine wp_region_split 8 ?_
  simp only [List.take_succ_cons, List.take_zero, List.drop_succ_cons, List.drop_zero]
  go_wp2_with fail
  refine (next_begin g 0 _ _ _ _ _ _ true 0 _ k1).mono ?_
  rintro e w2 ⟨rfl, hb2⟩
  have hB2 := hB1.trans (hb2.mono hB1.size)
  have k2 := k1.below hb2 k1.lt
  have p2 := p1.below hb2 p1.lt
  go_wp2
  show wpList _ _ _ _ _ _
  refine wpList_storeB' (C := zC) rfl rfl (cmdCs 11 0 false nl nl nl nl) rfl rfl (Blk.new_ rfl) rfl Tryz.infoCmd (cmdCs_one rfl rfl rfl rfl) ?_ rfl
  intro kz
  go_upto_region 4 with fail
  refine name_world (fun w3 => Below w2.heap.size w2 w3) (below_setCells (B := w2.heap.size) (b := w2.heap.size) (Nat.le_refl _) _ 0 ((Below.refl _ _).alloc (Nat.le_refl _) _)) ?_
  clear kz
  intro w3 hb3
  have hB3 := hB2.trans (hb3.mono hB2.size)
  have k3 := k2.below hb3 k2.lt
  have p3 := p2.below hb3 p2.lt
  have c0 : w3.cell? ⟨g, 0, none⟩ = some (.int .i64 0) := k3.cell 0
  go_upto_region 11 with fail
  refine wp_region_split 1 ?_
  simp only [List.take_succ_cons, List.take_zero, List.drop_succ_cons, List.drop_zero]
  go_wp2
  show wpList _ _ _ _ _ _
  refine wpList_loadG rfl rfl rfl p3 Tryz.underlying40 rfl Tryz.infoRepT ?_
  simp only [Act.put, List.setIfInBounds_toArray, List.set_cons_succ, List.set_cons_zero]
  go_wp2_with fail
  refine (begun_any g bl bk _ k3 (kl.below hB3 kl.lt) (kk.below hB3 kk.lt) hbg hkg).mono ?_
  rintro e w4 ⟨⟨u, rfl⟩, hx, hk4⟩
  go_wp2
  go_ret
  exact ⟨rfl, hx, (Kp.of_below hB3).trans hk4⟩
def repD : Array Value := #[.int .i64 0, .int .u64 0, .int .i64 1, .bool false, nl, nl, .int .i64 0, .int .i64 0, nl, nl, .int .i64 0, .int .i64 0, nl, .int .i64 0, nl]
set_option maxRecDepth 100000 in
set_option maxHeartbeats 6400000 in
theorem decided_any (g : Nat) (id : Int) (wk r0 r1 r2 r3 r4 : Value) (w : World) (h : Blk w g 84 (txCs 3 id wk r0 r1 r2 r3 r4 true 0)) :
    Calls Tryz.prog 40 #[.pointer (some ⟨g, 0, none⟩), .agg repD] w fun e w' => (∃ u, e = .returned u) ∧ Blk w' g 84 (txCs 4 id wk r0 r1 r2 r3 r4 true 1) ∧ Kp (fun b => b ≠ g) w w' := by
  go_enter Tryz.func40, Tryz.ntmps40
  go_upto_region 1 with fail
  refine name_world (fun w1 => Below w.heap.size w w1 ∧ w.heap.size < w1.heap.size ∧ Blk w1 w.heap.size 40 repD) ⟨(Below.refl _ _).alloc (Nat.le_refl _) _, by simp, Blk.new _ _ _⟩ ?_
  rintro w1 ⟨hB1, hz1, p1⟩
  have k1 := h.below hB1 h.lt
  have hgg : w.heap.size ≠ g := by have := h.lt; omega
  have a0 : w1.cell? ⟨w.heap.size, 0, none⟩ = some (.int .i64 0) := p1.cell 0
  have a2 : w1.cell? ⟨w.heap.size, 2, none⟩ = some (.int .i64 1) := p1.cell 2
  go_upto_region 3 with fail
  have q2 : ∀ s : LaterB w1 (fun b => b = g), s.val.cell? ⟨w.heap.size, 2, none⟩ = some (.int .i64 1) := LaterB.cell (p1.cell 2) hgg
  clear a0 a2
  refine wp_seqB (fun b => b = g) 6 [6, 9] (by as_aux_lemma => kernel_rfl) (by as_aux_lemma => kernel_rfl) fun w2 hb2 => ?_
  have k2 := k1.below hb2 k1.lt
  have fg := fun i => k2.frozen i
  have c0 : w2.cell? ⟨g, 0, none⟩ = some (.int .i64 3) := k2.cell 0
  have c22 : w2.cell? ⟨g, 22, none⟩ = some (.int .i64 0) := k2.cell 22
  have hkp : ∀ (w : World) o u, Kp (fun b => ¬ b = g) w (w.setCell ⟨g, o, none⟩ u) := fun w o u => (Kp.refl _ _).setCell (fun _ h => h rfl) _
  refine seqB_pre 6 (by kernel_rfl) ?_
  simp only [List.take_succ_cons, List.take_zero, List.drop_succ_cons, List.drop_zero]
  repeat (go_big_quiet_step (fail))
  refine wpQuiet_nil ?_
  refine seqB_wild (Kp.of_below hb2) rfl rfl fun K hK => ?_
  unfold Gives
  go_simp
  refine hK _ _ (hkp _ _ _) fun hK3 => ?_
  clear hK
  clear K
  simp only [Act.put, List.setIfInBounds_toArray, List.set_cons_succ, List.set_cons_zero]
  refine seqB_pre 2 (by kernel_rfl) ?_
  simp only [List.take_succ_cons, List.take_zero, List.drop_succ_cons, List.drop_zero]
  repeat (go_big_quiet_step (fail))
  refine wpQuiet_nil ?_
  refine seqB_wild hK3 rfl rfl fun K hK => ?_
  unfold Gives
  go_simp
  refine hK _ _ (hkp _ _ _) fun hK4 => ?_
  clear hK
  clear K
  simp only [Act.put, List.setIfInBounds_toArray, List.set_cons_succ, List.set_cons_zero]
  refine seqB_nil ?_
  have ks : Blk ((w2.setCell ⟨g, 0, none⟩ (.int .i64 4)).setCell ⟨g, 22, none⟩ (.int .i64 1)) g 84 (txCs 4 id wk r0 r1 r2 r3 r4 true 1) := (k2.set_ 0 (.int .i64 4)).set_ 22 (.int .i64 1)
  go_wp2
  go_end0
  exact ⟨⟨_, rfl⟩, ks, (Kp.of_below hB1).trans hK4⟩
set_option maxRecDepth 100000 in
set_option maxHeartbeats 6400000 in
theorem got_decide (g : Nat) (id : Int) (wk r0 r1 r2 r3 r4 : Value) (w : World) (h : Blk w g 84 (txCs 3 id wk r0 r1 r2 r3 r4 true 0)) :
    Calls Tryz.prog 13 #[.pointer (some ⟨g, 0, none⟩), .agg repD] w fun e w' => e = .returned (.int .i64 0) ∧ Blk w' g 84 (txCs 4 id wk r0 r1 r2 r3 r4 true 1) ∧ Kp (fun b => b ≠ g) w w' := by
  go_enter Tryz.func13, Tryz.ntmps13
  go_upto_region 3 with fail
  refine name_world (fun w1 => Below w.heap.size w w1 ∧ w.heap.size < w1.heap.size ∧ Blk w1 w.heap.size 40 repD) ⟨(Below.refl _ _).alloc (Nat.le_refl _) _, by simp, Blk.new _ _ _⟩ ?_
  rintro w1 ⟨hB1, hz1, p1⟩
  have k1 := h.below hB1 h.lt
  refine wp_region_split 8 ?_
  simp only [List.take_succ_cons, List.take_zero, List.drop_succ_cons, List.drop_zero]
  go_wp2_with fail
  refine (next_deciding g id _ _ _ _ _ _ true 0 _ k1).mono ?_
  rintro e w2 ⟨rfl, hb2⟩
  have hB2 := hB1.trans (hb2.mono hB1.size)
  have k2 := k1.below hb2 k1.lt
  have p2 := p1.below hb2 p1.lt
  go_wp2
  show wpList _ _ _ _ _ _
  refine wpList_storeB' (C := zC) rfl rfl (decCs id) rfl rfl (Blk.new_ rfl) rfl Tryz.infoCmd (decCs_one id) ?_ rfl
  intro kz
  go_upto_region 4 with fail
  refine name_world (fun w3 => Below w2.heap.size w2 w3) (below_setCells (B := w2.heap.size) (b := w2.heap.size) (Nat.le_refl _) _ 0 ((Below.refl _ _).alloc (Nat.le_refl _) _)) ?_
  clear kz
  intro w3 hb3
  have hB3 := hB2.trans (hb3.mono hB2.size)
  have k3 := k2.below hb3 k2.lt
  have p3 := p2.below hb3 p2.lt
  have c0 : w3.cell? ⟨g, 0, none⟩ = some (.int .i64 3) := k3.cell 0
  go_upto_region 13 with fail
  refine wp_region_split 1 ?_
  simp only [List.take_succ_cons, List.take_zero, List.drop_succ_cons, List.drop_zero]
  go_wp2
  show wpList _ _ _ _ _ _
  refine wpList_loadG rfl rfl rfl p3 Tryz.underlying40 rfl Tryz.infoRepT ?_
  simp only [Act.put, List.setIfInBounds_toArray, List.set_cons_succ, List.set_cons_zero]
  go_wp2_with fail
  refine (decided_any g id _ _ _ _ _ _ _ k3).mono ?_
  rintro e w4 ⟨⟨u, rfl⟩, hx, hk4⟩
  go_wp2
  go_ret
  exact ⟨rfl, hx, (Kp.of_below hB3).trans hk4⟩
theorem Tryz.infoToldT : (Tryz.prog.info? 60).map (·.size) = some 3 := by kernel_rfl
set_option maxRecDepth 100000 in
set_option maxHeartbeats 6400000 in
theorem told_over (g : Nat) (id : Int) (wk r0 r1 r2 r3 r4 : Value) (w : World) (h : Blk w g 84 (txCs 4 id wk r0 r1 r2 r3 r4 true 1)) :
    Calls Tryz.prog 7 #[.pointer (some ⟨g, 0, none⟩)] w fun e w' => e = .returned (.tuple #[.agg #[.int .i64 0, nl, .int .i64 1], .bool true]) ∧ Below w.heap.size w w' := by
  go_enter Tryz.func7, Tryz.ntmps7
  go_upto_region 1 with fail
  refine name_world (fun w1 => Below w.heap.size w w1 ∧ w.heap.size < w1.heap.size ∧ Blk w1 w.heap.size 60 toldZ) ⟨(Below.refl _ _).alloc (Nat.le_refl _) _, by simp, Blk.new _ _ _⟩ ?_
  rintro w1 ⟨hB1, hz1, p1⟩
  have k1 := h.below hB1 h.lt
  have hgg : ¬ g = w.heap.size := by have := h.lt; omega
  have c0 : w1.cell? ⟨g, 0, none⟩ = some (.int .i64 4) := k1.cell 0
  have c21 : w1.cell? ⟨g, 21, none⟩ = some (.int .i64 0) := k1.cell 21
  go_upto_region 5 with fail
  have q10 : ∀ s : LaterB w1 (fun b => b = w.heap.size), s.val.cell? ⟨g, 10, none⟩ = some nl := LaterB.cell (k1.cell 10) hgg
  have q22 : ∀ s : LaterB w1 (fun b => b = w.heap.size), s.val.cell? ⟨g, 22, none⟩ = some (.int .i64 1) := LaterB.cell (k1.cell 22) hgg
  clear c0 c21
  refine wp_seqB (fun b => b = w.heap.size) 10 [4, 10] (by as_aux_lemma => kernel_rfl) (by as_aux_lemma => kernel_rfl) fun w2 hb2 => ?_
  refine seqB_pre 4 (by kernel_rfl) ?_
  simp only [List.take_succ_cons, List.take_zero, List.drop_succ_cons, List.drop_zero]
  repeat (go_big_quiet_step (fail))
  refine wpQuiet_nil ?_
  refine seqB_wild0 hb2 rfl rfl fun K hK => ?_
  unfold Gives
  go_simp
  refine (results_nil _).mono ?_
  rintro e w3 ⟨rfl, rfl⟩
  refine ⟨_, rfl, hK _ _ ((Below.refl _ _)) fun hb3 => ?_⟩
  clear hK
  clear K
  simp only [Act.put, List.setIfInBounds_toArray, List.set_cons_succ, List.set_cons_zero]
  refine seqB_pre 5 (by kernel_rfl) ?_
  simp only [List.take_succ_cons, List.take_zero, List.drop_succ_cons, List.drop_zero]
  repeat (go_big_quiet_step (fail))
  refine wpQuiet_nil ?_
  have p3 := p1.below hb3 p1.lt
  refine seqB_wild (Kp.of_below hb3) rfl rfl fun K hK => ?_
  refine gives_stT (k := 0) rfl #[.int .i64 0, nl, .int .i64 1] rfl rfl p3 (Nat.le_refl _) Tryz.infoToldT (by simp [Value.oneCell']) ?_
  have z3 := p3.setCells #[.int .i64 0, nl, .int .i64 1] rfl
  refine hK _ _ ((Kp.setCells (fun _ h => h rfl) _ 0 (Kp.refl _ _))) fun hK4 => ?_
  clear hK
  clear K
  simp only [Act.put, List.setIfInBounds_toArray, List.set_cons_succ, List.set_cons_zero]
  refine seqB_pre 1 (by kernel_rfl) ?_
  simp only [List.take_succ_cons, List.take_zero, List.drop_succ_cons, List.drop_zero]
  repeat (go_big_quiet_step (fail))
  refine wpQuiet_nil ?_
  refine seqB_nil ?_
  have lv : (loadVar 60 ⟨w.heap.size, 0, none⟩).run Tryz.prog (w3.setCells w.heap.size 0 [.int .i64 0, nl, .int .i64 1]) = .ok (.agg #[.int .i64 0, nl, .int .i64 1]) (w3.setCells w.heap.size 0 [.int .i64 0, nl, .int .i64 1]) := z3.loadVar (P := Tryz.prog) Tryz.underlying60 rfl Tryz.infoToldT
  have hB4 := below_setCells (B := w.heap.size) (b := w.heap.size) (Nat.le_refl _) #[.int .i64 0, nl, .int .i64 1].toList 0 (hB1.trans (hb3.mono hB1.size))
  go_wp2
  refine bodyPost_ret (v := .tuple #[.agg #[.int .i64 0, nl, .int .i64 1], .bool true]) ?_ rfl ⟨rfl, hB4⟩
  simp [results, Tryz.results7, Act.put, Sem.run_bind, Sem.run_pure, asAddr_ok, lv]
end Go.Proofs.YtmiceacjpadllaaGreatDoor
namespace Go.Proofs.YtmiceacjpadllaaGreatDoor
open Go.RowKit
set_option maxRecDepth 100000 in
set_option maxHeartbeats 12800000 in
theorem txnAwake_any (w : World) :
    Calls Tryz.prog 5 #[] w fun e w' => e = .returned (.bool true) ∧ Below w.heap.size w w' := by
  go_enter Tryz.func5, Tryz.ntmps5
  go_wp2_with fail
  refine (txnNew_any _).mono ?_
  rintro e w1 ⟨rfl, k1, hb1⟩
  have hg := k1.lt
  obtain ⟨g, hgw⟩ : ∃ g, g = w.heap.size := ⟨_, rfl⟩
  rw [← hgw] at k1 hg ⊢
  have hgl : w.heap.size ≤ g := by omega
  have HG := Lib.hid hgl
  clear hgw hgl
  go_wp2_with fail
  refine (commit_begin g 0 _ _ _ _ _ _ 0 _ k1).mono ?_
  rintro e w2 ⟨rfl, k2, hk2⟩
  have hB2 : Below w.heap.size w w2 := hb1.trans (hk2.below hb1.size fun b hb => by have := HG.out; omega)
  go_upto_region 4 with fail
  refine wp_region_split 8 ?_
  simp only [List.take_succ_cons, List.take_zero, List.drop_succ_cons, List.drop_zero]
  go_wp2_with fail
  refine (next_begin g 0 _ _ _ _ _ _ true 0 _ k2).mono ?_
  rintro e w3 ⟨rfl, hb3⟩
  have hB3 := hB2.trans (hb3.mono hB2.size)
  have k3 := k2.below hb3 k2.lt
  go_wp2
  show wpList _ _ _ _ _ _
  refine wpList_storeB' (C := zC) rfl rfl (cmdCs 11 0 false nl nl nl nl) rfl rfl (Blk.new_ rfl) rfl Tryz.infoCmd (cmdCs_one rfl rfl rfl rfl) ?_ rfl
  intro kz
  go_upto_region 5 with fail
  obtain ⟨b3, hb3e⟩ : ∃ b3, b3 = w3.heap.size := ⟨_, rfl⟩
  rw [← hb3e] at kz ⊢
  refine name_world (fun w4 => Below w3.heap.size w3 w4 ∧ Blk w4 b3 55 (cmdCs 11 0 false nl nl nl nl)) ⟨?_, kz⟩ ?_
  · rw [hb3e]
    exact below_setCells (B := w3.heap.size) (b := w3.heap.size) (Nat.le_refl _) _ 0 ((Below.refl _ _).alloc (Nat.le_refl _) _)
  clear kz
  rintro w4 ⟨hb4, z4⟩
  have hB4 := hB3.trans (hb4.mono hB3.size)
  have k4 := k3.below hb4 k3.lt
  have hg3 : b3 ≠ g := by have := k3.lt; omega
  have H3 := Lib.hid (show w.heap.size ≤ b3 by have := hB3.size; omega)
  clear hb3e
  go_wp2_with fail
  have kk5 : Blk ((w4.alloc (.cells #[.int .u8 120] 5)).alloc (.cells #[.int .i64 2, .slice (some ⟨w4.heap.size, 0, none⟩) 1 1] 79)) w4.heap.size 5 #[.int .u8 120] := (Blk.new _ _ _).alloc _
  have kl5 : Blk ((w4.alloc (.cells #[.int .u8 120] 5)).alloc (.cells #[.int .i64 2, .slice (some ⟨w4.heap.size, 0, none⟩) 1 1] 79)) (w4.heap.size + 1) 79 #[.int .i64 2, .slice (some ⟨w4.heap.size, 0, none⟩) 1 1] := Blk.new_ (by simp)
  have k5 := (k4.alloc (.cells #[.int .u8 120] 5)).alloc (.cells #[.int .i64 2, .slice (some ⟨w4.heap.size, 0, none⟩) 1 1] 79)
  have hb5 : Below w4.heap.size w4 ((w4.alloc (.cells #[.int .u8 120] 5)).alloc (.cells #[.int .i64 2, .slice (some ⟨w4.heap.size, 0, none⟩) 1 1] 79)) := ((Below.refl _ _).alloc (Nat.le_refl _) _).alloc (by simp) _
  refine (got_begin g _ _ _ k5 kl5 kk5 (by have := k4.lt; omega) (by have := k4.lt; omega)).mono ?_
  rintro e w6 ⟨rfl, ⟨wk, r0, r1, r2, r3, r4, k6⟩, hk6⟩
  have z6 := (z4.below hb5 z4.lt).kp hk6 hg3
  have hB5 := hB4.trans (hb5.mono hB4.size)
  have hB6 : Below w.heap.size w w6 := hB5.trans (hk6.below hB5.size fun b hb => by have := HG.out; omega)
  clear kk5 kl5 k5 hb5 hB5
  go_upto_region 6 with fail
  refine wp_region_split 8 ?_
  simp only [List.take_succ_cons, List.take_zero, List.drop_succ_cons, List.drop_zero]
  go_wp2_with fail
  refine (next_deciding g 1 _ _ _ _ _ _ true 0 _ k6).mono ?_
  rintro e w7 ⟨rfl, hb7⟩
  have hB7 := hB6.trans (hb7.mono hB6.size)
  have k7 := k6.below hb7 k6.lt
  have z7 := z6.below hb7 z6.lt
  go_wp2
  show wpList _ _ _ _ _ _
  refine wpList_storeB' (C := zC) rfl rfl (decCs 1) rfl rfl (Blk.new_ rfl) rfl Tryz.infoCmd (decCs_one 1) ?_ rfl
  intro kz
  go_upto_region 7 with fail
  obtain ⟨b6, hb6e⟩ : ∃ b6, b6 = w7.heap.size := ⟨_, rfl⟩
  rw [← hb6e] at kz ⊢
  refine name_world (fun w8 => Below w7.heap.size w7 w8 ∧ Blk w8 b6 55 (decCs 1)) ⟨?_, kz⟩ ?_
  · rw [hb6e]
    exact below_setCells (B := w7.heap.size) (b := w7.heap.size) (Nat.le_refl _) _ 0 ((Below.refl _ _).alloc (Nat.le_refl _) _)
  clear kz
  rintro w8 ⟨hb8, y8⟩
  have hB8 := hB7.trans (hb8.mono hB7.size)
  have k8 := k7.below hb8 k7.lt
  have z8 := z7.below hb8 z7.lt
  have hg6 : b6 ≠ g := by have := k7.lt; omega
  clear hb6e
  go_wp2_with fail
  refine (got_decide g 1 _ _ _ _ _ _ _ k8).mono ?_
  rintro e w9 ⟨rfl, k9, hk9⟩
  have z9 := z8.kp hk9 hg3
  have y9 := y8.kp hk9 hg6
  have hB9 : Below w.heap.size w w9 := hB8.trans (hk9.below hB8.size fun b hb => by have := HG.out; omega)
  go_wp2_with fail
  refine (told_over g 1 _ _ _ _ _ _ _ k9).mono ?_
  rintro e w10 ⟨rfl, hb10⟩
  have hB10 := hB9.trans (hb10.mono hB9.size)
  have z10 := z9.below hb10 z9.lt
  have y10 := y9.below hb10 y9.lt
  have x0 : w10.cell? ⟨b3, 0, none⟩ = some (.int .i64 11) := z10.cell 0
  have v0 : w10.cell? ⟨b6, 0, none⟩ = some (.int .i64 12) := y10.cell 0
  have v2 : w10.cell? ⟨b6, 2, none⟩ = some (.int .u64 1) := y10.cell 2
  have hl3 : b3 < w10.heap.size := z10.lt
  have hl6 : b6 < w10.heap.size := y10.lt
  go_wp2
  go_ret
  exact ⟨rfl, hB10.alloc hB10.size _⟩
end Go.Proofs.YtmiceacjpadllaaGreatDoor
namespace Go.Proofs.YtmiceacjpadllaaGreatDoor
open Go.ChangeShapes Go.WideShapes Go.ChangeAt Go.RowKit
theorem Tryz.own : ownKnob Tryz.prog.godebug = none := by kernel_rfl
theorem Tryz.laidOut : laidOutB Tryz.prog = true := by kernel_rfl
section
variable {H : Type} {enc : TypeId × Value → H} {P : Program} {base : Nat}
theorem trodAll_stays (hl : laidOutB P = true) {W W' : World} {sp' : Nat → Bool} : ∀ {ts : List TypeId} {vs : List Value} {ds : List (DataW H)} {ps : List MemPlace}, (∀ t ∈ ts, P.readableRec t = true ∧ t < P.types.size) →
    DataW.TrodAll enc P W 0 (fun _ => true) true ts vs ds ps → (∀ p ∈ ps, W.sameAt W' p) → (∀ p ∈ ps, sp' p.block = true) → DataW.TrodAll enc P W' 0 sp' true ts vs ds ps
  | [], _, _, _, _, h, _, _ => by
    obtain ⟨rfl, rfl, rfl⟩ := trodAll_nil h
    exact trodAll_mk0
  | t :: ts, _, _, _, ht, h, hs, hp => by
    obtain ⟨v, vs, d, ds, p, q, rfl, rfl, rfl, h1, h2⟩ := trodAll_cons h
    exact ⟨p, q, WideElems.Trod_stays hl (ht t (by simp)).1 (ht t (by simp)).2 h1 (fun x hx => hs x (by simp [hx])) (fun x hx => hp x (by simp [hx])),
      trodAll_stays hl (fun t' h' => ht t' (by simp [h'])) h2 (fun x hx => hs x (by simp [hx])) (fun x hx => hp x (by simp [hx])), rfl⟩
theorem law_end {f : Func} {s : ChangeSpec} {apart fresh handsOn again : Bool} {W W' : World} {args : Array Value} {ds gs : List (DataW H)} {before : List MemPlace} {T : TypeId}
    (hl : laidOutB P = true) (hpar : f.params.toList.all (fun t => P.readableRec t && decide (t < P.types.size)) = true) (hvars : s.vars = []) (hrt : f.resultTypes = #[T]) (hbool : P.underlying T = some .bool)
    (hW : DataW.Whole enc P f.params.toList s.vars apart W args.toList ds gs before)
    (hr : (s.fn H (ds ++ gs)).results = [.lit (.bool true)]) (ha : (s.fn H (ds ++ gs)).args = ds) (hv : (s.fn H (ds ++ gs)).vars = []) (hb : Below W.heap.size W W') :
    s.post enc P f apart fresh handsOn again W args (.bool true) W' := by
  have hlt : ∀ p ∈ before, p.block < W.heap.size := fun p hp => hW.lt p hp
  have hpar' : ∀ t ∈ f.params.toList, P.readableRec t = true ∧ t < P.types.size := fun t ht => by
    have := List.all_eq_true.1 hpar t ht
    simpa using this
  have hW0 := hW
  obtain ⟨p, q, hA, hV, rfl, hz, hn⟩ := hW
  rw [hvars] at hV
  obtain ⟨rfl, rfl⟩ := trodVars_none hV
  simp only [List.append_nil] at hlt hz hn hW0 ⊢
  have hargs : ∀ sp : Nat → Bool, (∀ x ∈ p, sp x.block = true) → DataW.TrodAll enc P W' 0 sp true f.params.toList args.toList ds p := fun sp hsp =>
    trodAll_stays hl hpar' hA (fun x hx => hb.same (hlt x hx)) hsp
  have hres : ∀ (b : Nat) (sp : Nat → Bool) (hd : Bool), DataW.TrodAll enc P W' b sp hd f.resultTypes.toList ((Value.bool true).resultList f.resultTypes.size) [.lit (.bool true)] [] := fun b sp hd => by
    rw [hrt]
    exact trodAll_mk1 (shut_bool hbool true)
  refine ⟨ds, [], p, [], p, [], ?_, ?_, ?_, ?_, hb.frame _, fun _ => ?_⟩
  · exact hW0
  · rw [hr]; exact hres _ _ _
  · rw [ha]; exact hargs _ fun x hx => by simpa using hlt x hx
  · rw [hv, hvars]; rfl
  · have hall := trodAll_append (hargs (fun _ => true) (fun _ _ => rfl)) (hres 0 (fun _ => true) true)
    rw [List.nil_append] at hall
    refine ⟨ok_one hrt rfl (okWide_bool_mk hbool true), [.lit (.bool true)] ++ ds, [], p, ⟨p, [], hall, ?_, by simp, ?_, ?_⟩, ?_⟩
    · rw [hvars]; rfl
    · intro b off hp
      rw [hb.frozen (p := ⟨b, off, none⟩) (hlt _ hp)]
      exact hz b off hp
    · intro ha'
      simpa using hn ha'
    · intro x hx _
      simpa using hx
end
end Go.Proofs.YtmiceacjpadllaaGreatDoor
namespace Go.Proofs.YtmiceacjpadllaaGreatDoor
open Go.ChangeShapes Go.WideShapes Go.ChangeAt Go.RowKit Go.Deep
section
variable {H : Type} {enc : TypeId × Value → H} {P : Program} {W : World} {base : Nat} {α : Type} {E : Rel α}
def Opens (enc : TypeId × Value → H) (P : Program) (W : World) (t : TypeId) (E : Rel α) : Prop :=
  ∀ fuel cs x, DataW.trod enc P W 0 (fun _ => true) true fuel t cs = some x → (∀ n ∈ x.1.weights P t, n ≤ reachBytes) → ∃ d, E.rel (fun _ => True) W cs d
theorem flat_at {sz : Nat} : ∀ {css : List (List Value)} {j : Nat} {u : Value}, (∀ i (h : i < css.length), css[i].length = sz) → css.flatten[j]? = some u → ∃ i r, ∃ h : i < css.length, j = i * sz + r ∧ r < sz ∧ css[i][r]? = some u
  | [], _, _, _, h => by simp at h
  | cs :: css, j, u, hl, h => by
    have h0 : cs.length = sz := hl 0 (by simp)
    rw [List.flatten_cons] at h
    by_cases hj : j < cs.length
    · rw [List.getElem?_append_left hj] at h
      exact ⟨0, j, by simp, by omega, by omega, by simpa using h⟩
    · rw [List.getElem?_append_right (by omega)] at h
      obtain ⟨i, r, hi, hjr, hr, hu⟩ := flat_at (css := css) (fun i hi => by have := hl (i + 1) (by simpa using hi); simpa using this) h
      exact ⟨i + 1, r, by simpa using hi, by rw [Nat.add_mul]; omega, hr, by simpa using hu⟩
theorem weights_all {e : TypeId} : ∀ {l : List (DataW H)} {d : DataW H}, d ∈ l → ∀ n ∈ d.weights P e, n ∈ DataW.weightsAll P e l
  | d0 :: l, d, h, n, hn => by
    simp only [DataW.weightsAll, List.mem_append]
    rcases List.mem_cons.1 h with rfl | h
    · exact .inl hn
    · exact .inr (weights_all h n hn)
  | [], _, h, _, _ => by cases h
theorem chunks_of {ok : Nat → Prop} : ∀ (css : List (List Value)), (∀ i (h : i < css.length), ∃ d, E.rel ok W css[i] d) → ∃ l, Chunks E ok W css l
  | [], _ => ⟨[], trivial⟩
  | cs :: css, h => by
    obtain ⟨d, hd⟩ := h 0 (by simp)
    obtain ⟨l, hl⟩ := chunks_of css fun i hi => h (i + 1) (by simpa using hi)
    exact ⟨d :: l, hd, hl⟩
theorem opens_slice {t e : TypeId} (hu : P.underlying t = some (.slice e)) (hc : P.cellsOf e = E.sz) (hb : P.bytesOf e = E.wt) (hsz : 0 < E.sz) (hE : Opens enc P W e E) : Opens enc P W t (rSl E hsz) := by
  intro fuel cs x h hw
  rcases Go.Deep.open_slice hu h with ⟨rfl, rfl⟩ | ⟨a, len, cap, m, n, D, Pl, rfl, _, hl, hm, hmm, rfl, hi⟩
  · exact ⟨[], _, rfl, RSl.nil_ _ _ _⟩
  · simp only [if_true] at hmm
    subst hmm
    have hbound : m * E.wt ≤ reachBytes := by
      have := hw ((((List.range len).map D).length + ((List.range (m - len)).map fun j => D (len + j)).length) * P.bytesOf e) (by simp [DataW.weights, hu])
      rw [hb] at this
      simpa [show len + (m - len) = m by omega] using this
    obtain ⟨css, hcl, hcs⟩ := list_of (p := fun i (cs' : List Value) => cs'.length = E.sz ∧ (∀ r u, cs'[r]? = some u → W.cell? (a.add (i * E.sz + r)) = some u) ∧ ∃ d, E.rel (fun _ => True) W cs' d) len (fun i hil => by
      obtain ⟨cs', h1, h2⟩ := hi i (by omega)
      rw [hc] at h1
      obtain ⟨_, hlen, hat⟩ := World.cells?_some h1
      refine ⟨cs', hlen, fun r u hr => ?_, hE _ _ _ h2 fun k hk => hw k ?_⟩
      · rw [← Go.Deep.add_add, hat r (by have := (List.getElem?_eq_some_iff.1 hr).1; omega)]
        exact hr
      · simp only [DataW.weights, hu, List.mem_cons, List.mem_append]
        exact .inr (.inl (weights_all (d := D i) (List.mem_map.2 ⟨i, List.mem_range.2 hil, rfl⟩) k hk)))
    obtain ⟨l, hch⟩ := chunks_of (E := E) (W := W) (ok := fun _ => True) css fun i hil => (hcs i hil).2.2
    have hll := hch.length
    refine ⟨l, _, rfl, some a, len, m, css, rfl, hl, by omega, ?_, ⟨?_, fun h0 => ?_⟩, hch, fun _ _ _ => trivial⟩
    · have h1 : len * E.wt ≤ m * E.wt := Nat.mul_le_mul_right _ hl
      simp only [reachBytes] at hbound
      omega
    · rw [hch.flat, ← hll, hcl]
    · obtain ⟨b, off, spot⟩ := a
      have hx0 := hcs 0 (by omega)
      have hspot : spot = none := by
        have hz : 0 < (css[0]'(by omega)).length := by rw [hx0.1]; exact hsz
        have := World.cell?_spot (hx0.2.1 0 _ (List.getElem?_eq_getElem hz))
        unfold Addr.add at this
        split at this
        · exact this
        · rename_i hne
          exact absurd (by simp) hne
      subst hspot
      refine ⟨b, off, rfl, fun j u hu' => ?_⟩
      obtain ⟨i, r, hil, rfl, hr, hur⟩ := flat_at (fun i h => (hcs i h).1) hu'
      have := (hcs i hil).2.1 r u hur
      rwa [Addr.add_lit] at this
theorem opens_fields {t : TypeId} {fs : Array Field} {fuel : Nat} {cs : List Value} {x : DataW H × List MemPlace} (hs : P.underlying t = some (.struct fs)) (hone : oneCellFields P fs = true) (hC : P.cellsOf t = fs.size)
    (h : DataW.trod enc P W 0 (fun _ => true) true fuel t cs = some x) (hw : ∀ n ∈ x.1.weights P t, n ≤ reachBytes) : cs.length = fs.size ∧
    ∀ (j : Nat) (f : Field), fs[j]? = some f → ∃ (v : Value) (y : DataW H × List MemPlace) (n : Nat), cs[j]? = some v ∧ DataW.trod enc P W 0 (fun _ => true) true n f.type [v] = some y ∧ ∀ k ∈ y.1.weights P f.type, k ≤ reachBytes := by
  obtain ⟨ys, n', _, rfl, hlen, hyl, hf⟩ := DataW.trod_struct hs h
  refine ⟨by omega, fun j f hj => ?_⟩
  obtain ⟨ho, hk⟩ := Go.Deep.hone_of hone j f hj
  have hjl : j < fs.size := (Array.getElem?_eq_some_iff.1 hj).1
  have h1 := hf j f hj
  rw [ho, hk] at h1
  have hone' : (cs.drop j).take 1 = [cs[j]'(by omega)] := by
    rw [List.drop_eq_getElem_cons (by omega)]
    rfl
  rw [hone'] at h1
  have hys : ys[j]? = some (ys[j]'(by omega)) := List.getElem?_eq_getElem (by omega)
  refine ⟨_, _, n', List.getElem?_eq_getElem (by omega), h1.trans hys, fun k hk' => hw k ?_⟩
  simp only [DataW.weights, hs]
  refine DataW.weights_mem_each (j := j) (t := f.type) (d := (ys[j]'(by omega)).1) ?_ ?_ k hk'
  · have : fs.toList[j]? = some f := by simpa using hj
    simp [this]
  · simp [hys]
end
section
variable {H : Type} {enc : TypeId × Value → H} {W : World}
theorem opens_u8 : Opens enc Tryz.prog W 5 rU8 := by
  intro fuel cs x h _
  obtain ⟨z, rfl, rfl, h2⟩ := DataW.trod_int Tryz.underlying5 h
  refine ⟨UInt8.ofNat z.toNat, ?_⟩
  have h3 : IntKind.u8.min = 0 := rfl
  have h4 : IntKind.u8.max = 255 := rfl
  simp only [Lit.wf, Bool.and_eq_true, decide_eq_true_eq] at h2
  show [Value.int .u8 z] = [.int .u8 _]
  congr 2
  simp
  omega
theorem opens_bytes : Opens enc Tryz.prog W 36 (rSl rU8 (by decide)) := opens_slice Tryz.underlying36 (by kernel_rfl) (by kernel_rfl) _ opens_u8
end
end Go.Proofs.YtmiceacjpadllaaGreatDoor
namespace Go.Proofs.YtmiceacjpadllaaGreatDoor
open Go.ChangeShapes Go.WideShapes Go.ChangeAt Go.RowKit Go.Deep
section
variable {H : Type} {enc : TypeId × Value → H} {W : World} {base : Nat}
theorem opens_bssT : Opens enc Tryz.prog W 24 (rSl (rSl rU8 (by decide)) (by decide)) := opens_slice Tryz.underlying24 (by kernel_rfl) (by kernel_rfl) _ opens_bytes
theorem slice_formT {P : Program} {t e : TypeId} {fuel : Nat} {v : Value} {x : DataW H × List MemPlace} (hu : P.underlying t = some (.slice e)) (h : DataW.trod enc P W 0 (fun _ => true) true fuel t [v] = some x) : ∃ A n c, v = .slice A n c := by
  rcases Go.Deep.open_slice hu h with ⟨h, _⟩ | ⟨a, len, cap, _, _, _, _, h, _⟩
  · exact ⟨none, 0, 0, by simpa using h⟩
  · exact ⟨some a, len, cap, by simpa using h⟩
def OpT (w : World) (C : Array Value) : Prop := ∃ (k l : Int) (s1 s2 : ByteArray) (b : Bool) (A3 A4 A5 A6 A7 : Option Addr) (n3 c3 n4 c4 n5 c5 n6 c6 n7 c7 : Nat) (v : Value) (nm : List (List UInt8)),
  C = #[.int .i64 k, .string s1, .string s2, .slice A3 n3 c3, .slice A4 n4 c4, .slice A5 n5 c5, .slice A6 n6 c6, .slice A7 n7 c7, .int .i64 l, .bool b, v] ∧ RSl (rSl rU8 (by decide)) (fun _ => True) w v nm
set_option maxRecDepth 100000 in
theorem open_opT {v : Value} {d : DataW H} {p : List MemPlace} {ts : List TypeId} {ds : List (DataW H)} {j : Nat} (hval : Value.okWide Tryz.prog W .any base 26 v) (h : DataW.Trod enc Tryz.prog W 0 (fun _ => true) true 26 v d p)
    (hsz : (DataW.weightsEach Tryz.prog ts ds).all (· ≤ reachBytes) = true) (hts : ts[j]? = some 26) (hds : ds[j]? = some d) : ∃ C, v = .agg C ∧ OpT W C := by
  obtain ⟨cs, rfl, _⟩ := okWide_struct Tryz.underlying26 hval
  obtain ⟨fuel, hf⟩ := h
  refine ⟨cs, rfl, ?_⟩
  have hcs : (Value.agg cs).cells.toList = cs.toList := by simp [Value.cells]
  rw [hcs] at hf
  obtain ⟨hl, hf⟩ := opens_fields Tryz.underlying26 (by kernel_rfl) (by kernel_rfl) hf fun n hn => by simpa using List.all_eq_true.1 hsz n (DataW.weights_mem_each hts hds n hn)
  obtain ⟨v0, y0, m0, e0, t0, _⟩ := hf 0 _ rfl
  obtain ⟨v1, y1, m1, e1, t1, _⟩ := hf 1 _ rfl
  obtain ⟨v2, y2, m2, e2, t2, _⟩ := hf 2 _ rfl
  obtain ⟨v3, y3, m3, e3, t3, _⟩ := hf 3 _ rfl
  obtain ⟨v4, y4, m4, e4, t4, _⟩ := hf 4 _ rfl
  obtain ⟨v5, y5, m5, e5, t5, _⟩ := hf 5 _ rfl
  obtain ⟨v6, y6, m6, e6, t6, _⟩ := hf 6 _ rfl
  obtain ⟨v7, y7, m7, e7, t7, _⟩ := hf 7 _ rfl
  obtain ⟨v8, y8, m8, e8, t8, _⟩ := hf 8 _ rfl
  obtain ⟨v9, y9, m9, e9, t9, _⟩ := hf 9 _ rfl
  obtain ⟨v10, y10, m10, e10, t10, k10⟩ := hf 10 _ rfl
  obtain ⟨k, g0, _, _⟩ := DataW.trod_int Tryz.underlying3 t0
  obtain ⟨s1, g1, _, _⟩ := DataW.trod_string Tryz.underlying9 t1
  obtain ⟨s2, g2, _, _⟩ := DataW.trod_string Tryz.underlying9 t2
  obtain ⟨A3, n3, c3, rfl⟩ := slice_formT Tryz.underlying22 t3
  obtain ⟨A4, n4, c4, rfl⟩ := slice_formT Tryz.underlying22 t4
  obtain ⟨A5, n5, c5, rfl⟩ := slice_formT Tryz.underlying23 t5
  obtain ⟨A6, n6, c6, rfl⟩ := slice_formT Tryz.underlying22 t6
  obtain ⟨A7, n7, c7, rfl⟩ := slice_formT Tryz.underlying22 t7
  obtain ⟨l, g8, _, _⟩ := DataW.trod_int Tryz.underlying3 t8
  obtain ⟨b, g9, _⟩ := DataW.trod_bool Tryz.underlying4 t9
  obtain ⟨nm, u, g10, r10⟩ := opens_bssT _ _ _ t10 k10
  simp only [List.cons.injEq, and_true] at g0 g1 g2 g8 g9 g10
  subst g0 g1 g2 g8 g9 g10
  refine ⟨k, l, s1, s2, b, A3, A4, A5, A6, A7, n3, c3, n4, c4, n5, c5, n6, c6, n7, c7, v10, nm, ?_, r10⟩
  obtain ⟨L⟩ := cs
  simp only at hl e0 e1 e2 e3 e4 e5 e6 e7 e8 e9 e10
  match L, hl with
  | [a0, a1, a2, a3, a4, a5, a6, a7, a8, a9, a10], _ =>
    simp only [List.getElem?_cons_zero, List.getElem?_cons_succ, Option.some.injEq] at e0 e1 e2 e3 e4 e5 e6 e7 e8 e9 e10
    subst e0 e1 e2 e3 e4 e5 e6 e7 e8 e9 e10
    rfl
end
open Go.RowKit
set_option maxRecDepth 100000 in
set_option maxHeartbeats 3200000 in
theorem fitsT_any (C : Array Value) (w : World) (h : OpT w C) : Calls Tryz.prog 4 #[.agg C] w fun e w' => (∃ b, e = .returned (.bool b)) ∧ Below w.heap.size w w' := by
  obtain ⟨k, l, s1, s2, b, A3, A4, A5, A6, A7, n3, c3, n4, c4, n5, c5, n6, c6, n7, c7, v, nm, rfl, hn⟩ := h
  obtain ⟨A, c, rfl, hc, hbd⟩ := hn.form
  obtain ⟨n, hnn⟩ : ∃ n, n = nm.length := ⟨_, rfl⟩
  rw [← hnn] at hn ⊢
  have HN := Lib.hid hnn
  clear hnn hc hbd
  go_enter Tryz.func4, Tryz.ntmps4
  go_upto_region 1 with fail
  refine name_world (fun w1 => Below w.heap.size w w1 ∧ Blk w1 w.heap.size 26 #[.int .i64 k, .string s1, .string s2, .slice A3 n3 c3, .slice A4 n4 c4, .slice A5 n5 c5, .slice A6 n6 c6, .slice A7 n7 c7, .int .i64 l, .bool b, .slice A n c]) ⟨(Below.refl _ _).alloc (Nat.le_refl _) _, Blk.new _ _ _⟩ ?_
  rintro w1 ⟨hB1, k1⟩
  have x1 : w1.cell? ⟨w.heap.size, 1, none⟩ = some (.string s1) := k1.cell 1
  have x2 : w1.cell? ⟨w.heap.size, 2, none⟩ = some (.string s2) := k1.cell 2
  have x3 : w1.cell? ⟨w.heap.size, 3, none⟩ = some (.slice A3 n3 c3) := k1.cell 3
  have x4 : w1.cell? ⟨w.heap.size, 4, none⟩ = some (.slice A4 n4 c4) := k1.cell 4
  have x5 : w1.cell? ⟨w.heap.size, 5, none⟩ = some (.slice A5 n5 c5) := k1.cell 5
  have x6 : w1.cell? ⟨w.heap.size, 6, none⟩ = some (.slice A6 n6 c6) := k1.cell 6
  have x7 : w1.cell? ⟨w.heap.size, 7, none⟩ = some (.slice A7 n7 c7) := k1.cell 7
  have x10 : w1.cell? ⟨w.heap.size, 10, none⟩ = some (.slice A n c) := k1.cell 10
  have HB := Lib.hid hB1
  have hn1 := RSl.below hn hB1
  have HR := Lib.hid hn1
  clear hn hn1 hB1 k1
  go_upto_block 0 with fail
  go_cut [3] (fun v3 wr => ∃ x : Int, v3 = .int .i64 x ∧ wr = w1)
  case first =>
    go_wp2
    go_loopw [3, 4] (fun v3 v4 wr => ∃ (x : Int) (i : Nat), i ≤ n ∧ v3 = .int .i64 x ∧ v4 = .int .i64 (i : Int) ∧ wr = w1) (fun _ v4 _ => n - (intOf v4).toNat)
    case atStart => exact ⟨_, 0, Nat.zero_le _, rfl, rfl, rfl⟩
    case round =>
      obtain ⟨x, i, hi, rfl, rfl, rfl⟩ := hrel
      by_cases hlt : i < n
      · have a1 : decide ((i : Int) < (n : Int)) = true := decide_eq_true (by omega)
        have a2 : decide (i < n) = true := decide_eq_true hlt
        by_cases h30 : i < 30
        · have b1 : decide ((i : Int) < 30) = true := decide_eq_true (by omega)
          have b2 : decide (i < 30) = true := decide_eq_true h30
          have hil : i < nm.length := by rw [← HN.out]; exact hlt
          obtain ⟨b5, off5, c5, cs5, hv5, _, ⟨u5, rfl, hr5⟩, hcell5⟩ := HR.out.at_ hil
          rw [← HN.out] at hv5
          obtain ⟨rfl, rfl⟩ : A = some ⟨b5, off5, none⟩ ∧ c = c5 := by simpa using hv5
          obtain ⟨A9, c9, rfl, _⟩ := hr5.form
          have q2 : wr.cell? ⟨b5, off5 + i * 1, none⟩ = some (.slice A9 nm[i].length c9) := hcell5 0 _ rfl
          have q1 : wr.cell? ⟨b5, off5 + i, none⟩ = some (.slice A9 nm[i].length c9) := by rw [Nat.mul_one] at q2; exact q2
          clear hcell5 hv5 hr5
          go_wp2
          go_roundw
          case rel => exact ⟨_, i + 1, by omega, rfl, by go_num, trivial⟩
          case measure => simp [intOf]; omega
        · have b1 : decide ((i : Int) < 30) = false := decide_eq_false (by omega)
          have b2 : decide (i < 30) = false := decide_eq_false h30
          go_wp2
          go_meet
          first | exact ⟨_, rfl, rfl⟩ | exact ⟨_, rfl, trivial⟩ | exact ⟨_, trivial, rfl⟩ | exact ⟨_, trivial⟩
      · have a1 : decide ((i : Int) < (n : Int)) = false := decide_eq_false (by omega)
        have a2 : decide (i < n) = false := decide_eq_false hlt
        go_wp2
        go_meet
        first | exact ⟨_, rfl, rfl⟩ | exact ⟨_, rfl, trivial⟩ | exact ⟨_, trivial, rfl⟩ | exact ⟨_, trivial⟩
  obtain ⟨x, rfl, rfl⟩ := hcut
  by_cases h0 : n3 < 40
  · have y0 : decide ((n3 : Int) < 40) = true := decide_eq_true (by omega)
    have z0 : decide (n3 < 40) = true := decide_eq_true h0
    clear h0
    by_cases h1 : n4 < 40
    · have y1 : decide ((n4 : Int) < 40) = true := decide_eq_true (by omega)
      have z1 : decide (n4 < 40) = true := decide_eq_true h1
      clear h1
      by_cases h2 : n6 < 40
      · have y2 : decide ((n6 : Int) < 40) = true := decide_eq_true (by omega)
        have z2 : decide (n6 < 40) = true := decide_eq_true h2
        clear h2
        by_cases h3 : n7 < 40
        · have y3 : decide ((n7 : Int) < 40) = true := decide_eq_true (by omega)
          have z3 : decide (n7 < 40) = true := decide_eq_true h3
          clear h3
          by_cases h4 : n5 < 40
          · have y4 : decide ((n5 : Int) < 40) = true := decide_eq_true (by omega)
            have z4 : decide (n5 < 40) = true := decide_eq_true h4
            clear h4
            by_cases h5 : n < 30
            · have y5 : decide ((n : Int) < 30) = true := decide_eq_true (by omega)
              have z5 : decide (n < 30) = true := decide_eq_true h5
              clear h5
              go_wp2
              go_ret
              exact ⟨⟨_, rfl⟩, HB.out⟩
            · have y5 : decide ((n : Int) < 30) = false := decide_eq_false (by omega)
              have z5 : decide (n < 30) = false := decide_eq_false h5
              clear h5
              go_wp2
              go_ret
              exact ⟨⟨_, rfl⟩, HB.out⟩
          · have y4 : decide ((n5 : Int) < 40) = false := decide_eq_false (by omega)
            have z4 : decide (n5 < 40) = false := decide_eq_false h4
            clear h4
            go_wp2
            go_ret
            exact ⟨⟨_, rfl⟩, HB.out⟩
        · have y3 : decide ((n7 : Int) < 40) = false := decide_eq_false (by omega)
          have z3 : decide (n7 < 40) = false := decide_eq_false h3
          clear h3
          go_wp2
          go_ret
          exact ⟨⟨_, rfl⟩, HB.out⟩
      · have y2 : decide ((n6 : Int) < 40) = false := decide_eq_false (by omega)
        have z2 : decide (n6 < 40) = false := decide_eq_false h2
        clear h2
        go_wp2
        go_ret
        exact ⟨⟨_, rfl⟩, HB.out⟩
    · have y1 : decide ((n4 : Int) < 40) = false := decide_eq_false (by omega)
      have z1 : decide (n4 < 40) = false := decide_eq_false h1
      clear h1
      go_wp2
      go_ret
      exact ⟨⟨_, rfl⟩, HB.out⟩
  · have y0 : decide ((n3 : Int) < 40) = false := decide_eq_false (by omega)
    have z0 : decide (n3 < 40) = false := decide_eq_false h0
    clear h0
    go_wp2
    go_ret
    exact ⟨⟨_, rfl⟩, HB.out⟩
end Go.Proofs.YtmiceacjpadllaaGreatDoor
