/- Contract: (*Shard).resolve that gives up, at the locks of law 22. -/
import Derived.Test.YtikkknaofiafhaaM10
namespace Go.Proofs.Ytikkknaofiafhaa
open Go.RowKit

def rU64 : Rel Int where
  sz := 1
  wt := 8
  rel _ _ cs x := cs = [.int .u64 x]
  len := by rintro ok w cs d rfl; rfl
  one := by
    rintro ok w cs d rfl u hu
    simp at hu
    subst hu
    rfl
  kp := fun _ h => h
  mono := fun _ h => h
theorem Try.rowU64 : RowTy Try.prog 64 48 1 8 := rowTy_mk Try.underlying64 (by kernel_rfl)

set_option maxRecDepth 100000 in
set_option maxHeartbeats 12800000 in
theorem shRes_any {ok : Nat → Prop} (g : Nat) (o1 o2 l vT f1 f2 gone : Value) (n : Int) (h : Option (List UInt8)) (C : Array Value) (w : World) (hg : Blk w g 90 (shCs o1 o2 l vT n nl f1 f2 gone)) (hT : RSl rHe ok w vT h.toList)
    (hC : C.size = 25) (c2 : C[2]? = some (.int .u64 9)) (c6 : C[6]? = some (.bool false)) :
    Calls Try.prog 89 #[.pointer (some ⟨g, 0, none⟩), .agg C] w fun e w' => e = .returned (.int .i64 0) ∧ Kp (fun b => b ≠ g) w w' ∧ ∃ over, Blk w' g 90 (shCs o1 o2 l nl n over f1 f2 gone) := by
  have hgl := hg.lt
  go_enter Try.func89, Try.ntmps89
  go_upto_region 1 with fail
  refine name_world (fun w1 => Below w.heap.size w w1 ∧ w.heap.size + 1 ≤ w1.heap.size ∧ Blk w1 w.heap.size 60 C)
    ⟨(Below.refl _ _).alloc (Nat.le_refl _) _, by simp, Blk.new _ _ _⟩ ?_
  rintro w1 ⟨hB1, hz1, k1⟩
  have kg := hg.below hB1 hgl
  have hne : w.heap.size ≠ g := by omega
  have q2 : w1.cell? ⟨w.heap.size, 2, none⟩ = some (.int .u64 9) := (k1.cell 2).trans c2
  have m2 : ∀ s : LaterB w1 (fun b => b = g), s.val.cell? ⟨w.heap.size, 2, none⟩ = some (.int .u64 9) := LaterB.cell q2 hne
  go_wp2
  refine wp_seqV (fun b => b = g) 5 [5, 10] [9] (by as_aux_lemma => kernel_rfl) (by as_aux_lemma => kernel_rfl) fun w2 hb2 => ?_
  refine seqV_pre 5 (by kernel_rfl) ?_
  simp only [List.take_succ_cons, List.take_zero, List.drop_succ_cons, List.drop_zero]
  repeat (go_big_quiet_step (fail))
  refine wpQuiet_nil ?_
  refine seqV_chg1 (Kp.of_below hb2) rfl rfl fun w3 hb3 hK3 K hK => ?_
  unfold Gives
  go_simp
  have hb23 := hb2.trans (hb3.mono hb2.size)
  have kg3 := kg.below hb23 kg.lt
  refine (tDrop_any g o1 o2 l vT nl f1 f2 gone n h _ kg3 ((hT.below hB1).below hb23)).mono ?_
  rintro e w4 ⟨⟨Ad, md, cd, zd, rfl⟩, hk4, kg4⟩
  have hk4' : Kp (keepB w1 (fun b => b = g) (fun _ => False)) w3 w4 := hk4.mono fun b hb e => by
    subst e
    exact absurd hb (keep_bad kg.lt rfl)
  refine ⟨_, rfl, hK _ _ (hk4') fun hK4 => ?_⟩
  clear hK
  clear K
  simp only [Act.put, List.setIfInBounds_toArray, List.set_cons_succ, List.set_cons_zero]
  refine seqV_pre 3 (by kernel_rfl) ?_
  simp only [List.take_succ_cons, List.take_zero, List.drop_succ_cons, List.drop_zero]
  repeat (go_big_quiet_step (fail))
  refine wpQuiet_nil ?_
  refine seqV_lay (fun g => .pointer (some ⟨g, 0, none⟩)) 191 #[.int .u64 0, nl, nl, nl] rfl rfl (fun s => by go_simp <;> rfl) fun gb w5 hg5 hM5 k5 hb5 => ?_
  simp only [Act.put, List.setIfInBounds_toArray, List.set_cons_succ, List.set_cons_zero]
  have hK5 := hK4.trans (Kp.of_below hb5)
  obtain ⟨z0, z1, z2, z3⟩ := cells4 k5
  have fz := fun i => k5.frozen i
  have kg5 := kg4.below hb5 kg4.lt
  have hgb : gb ≠ g := by have := kg.lt; omega
  refine seqV_chg hK5 rfl rfl fun K hK => ?_
  unfold Gives
  go_simp
  have nk : ¬ keepB w1 (fun b => b = g) (fun b => mineV (fun _ => False) w3 w4 b ∨ b = gb) gb := keep_not hg5 (.inr rfl)
  have hkp := ((((Kp.refl (keepB w1 (fun b => b = g) (fun b => mineV (fun _ => False) w3 w4 b ∨ b = gb)) w5).setCell (p := ⟨gb, 0, none⟩) (fun _ => nk) (.int .u64 zd)).setCell (p := ⟨gb, 1, none⟩) (fun _ => nk) nl).setCell (p := ⟨gb, 2, none⟩) (fun _ => nk) nl).setCell (p := ⟨gb, 3, none⟩) (fun _ => nk) (.slice Ad md cd)
  refine hK _ _ (hkp) fun hK6 => ?_
  clear hK
  clear K
  simp only [Act.put, List.setIfInBounds_toArray, List.set_cons_succ, List.set_cons_zero]
  refine seqV_pre 1 (by kernel_rfl) ?_
  simp only [List.take_succ_cons, List.take_zero, List.drop_succ_cons, List.drop_zero]
  repeat (go_big_quiet_step (fail))
  refine wpQuiet_nil ?_
  refine seqV_nil ?_
  have kg6 := (((kg5.far (p := ⟨gb, 0, none⟩) hgb.symm (.int .u64 zd)).far (p := ⟨gb, 1, none⟩) hgb.symm nl).far (p := ⟨gb, 2, none⟩) hgb.symm nl).far (p := ⟨gb, 3, none⟩) hgb.symm (.slice Ad md cd)
  have k16 := k1.kp hK6 (ok := fun b => ¬ b = g) hne
  have hK : Kp (fun b => b ≠ g) w _ := (Kp.of_below hB1).trans hK6
  clear m2 z0 z1 z2 z3 fz hkp nk hK6 hM5 q2 hk4'
  go_upto_region 4 with fail
  refine name_world (fun w6 => Kp (fun b => b ≠ g) w w6 ∧ Blk w6 w.heap.size 60 C ∧ Blk w6 g 90 (shCs o1 o2 l nl n nl f1 f2 gone)) ⟨hK, k16, kg6⟩ ?_
  clear hK k16 kg6 kg5 k5 hK5 hK4 kg4 hk4 kg3 hb5 hg5 hgb
  rintro w6 ⟨hK6, k6, kg6⟩
  have m2 : ∀ s : Later w6, s.val.cell? ⟨w.heap.size, 2, none⟩ = some (.int .u64 9) := Later.cell ((k6.cell 2).trans c2)
  have m5 : ∀ s : Later w6, s.val.cell? ⟨g, 5, none⟩ = some nl := kg6.later rfl
  refine wp_seqL [6] (by as_aux_lemma => kernel_rfl) (by as_aux_lemma => kernel_rfl) fun w7 hb7 => ?_
  refine seqL_pre 6 (by kernel_rfl) ?_
  simp only [List.take_succ_cons, List.take_zero, List.drop_succ_cons, List.drop_zero]
  repeat (go_big_quiet_step (fail))
  refine wpQuiet_nil ?_
  refine seqL_wild hb7 rfl rfl fun K hK => ?_
  unfold Gives
  go_simp
  refine (in64_nil none 0 9 _).mono ?_
  rintro e w8 ⟨rfl, hw8⟩
  subst hw8
  refine ⟨_, rfl, hK _ _ ((Below.refl _ _)) fun _h8 => ?_⟩
  clear hK
  clear K
  simp only [Act.put, List.setIfInBounds_toArray, List.set_cons_succ, List.set_cons_zero]
  refine seqL_pre 1 (by kernel_rfl) ?_
  simp only [List.take_succ_cons, List.take_zero, List.drop_succ_cons, List.drop_zero]
  repeat (go_big_quiet_step (fail))
  refine wpQuiet_nil ?_
  refine seqL_nil ?_
  have hK8 := hK6.trans (Kp.of_below hb7)
  have k8 := k6.below hb7 k6.lt
  have kg8 := kg6.below hb7 kg6.lt
  clear m2 m5
  have m2 : ∀ s : LaterB w8 (fun b => b = g), s.val.cell? ⟨w.heap.size, 2, none⟩ = some (.int .u64 9) := LaterB.cell ((k8.cell 2).trans c2) hne
  have m5 : ∀ s : Later w8, s.val.cell? ⟨g, 5, none⟩ = some nl := kg8.later rfl
  go_wp2
  refine wp_seqB (fun b => b = g) 11 [7, 8, 11] (by as_aux_lemma => kernel_rfl) (by as_aux_lemma => kernel_rfl) fun w9 hb9 => ?_
  refine seqB_pre 4 (by kernel_rfl) ?_
  simp only [List.take_succ_cons, List.take_zero, List.drop_succ_cons, List.drop_zero]
  repeat (go_big_quiet_step (fail))
  refine wpQuiet_nil ?_
  refine seqB_pre0 1 (by kernel_rfl) (by kernel_rfl) ?_
  simp only [List.take_succ_cons, List.take_zero, List.drop_succ_cons, List.drop_zero]
  repeat (go_big_quiet_step (fail))
  refine wpQuiet_nil ?_
  refine seqB_pre 2 (by kernel_rfl) ?_
  simp only [List.take_succ_cons, List.take_zero, List.drop_succ_cons, List.drop_zero]
  repeat (go_big_quiet_step (fail))
  refine wpQuiet_nil ?_
  refine seqB_wild0 hb9 rfl rfl fun K hK => ?_
  unfold Gives
  go_simp
  have hal := (Below.refl w9.heap.size w9).alloc (Nat.le_refl _) (.cells #[.int .u64 9] 48)
  have r9 := RSl.one_new (E := rU64) (ok := fun b => w9.heap.size ≤ b) (w := w9) (cs := #[.int .u64 9]) (d := 9) 48 rfl (Nat.le_refl _) (by decide)
  refine hK _ _ (hal) fun hb10 => ?_
  clear hK
  clear K
  simp only [Act.put, List.setIfInBounds_toArray, List.set_cons_succ, List.set_cons_zero]
  refine seqB_wild0 hb10 rfl rfl fun K hK => ?_
  refine gives_app (E := rU64) Try.rowU64 (by decide) _ _ rfl nl [] _ rfl (OwnL.nil_ rU64 (fun b => w9.heap.size ≤ b) w9.heap.size 48 _) (.slice (some ⟨w9.heap.size, 0, none⟩) 1 1) [9] rfl (r9.mono (by decide) fun b hb2 _ => ⟨hb2, fun e => by cases e⟩) (by show (0 + 1) * 8 ≤ _; omega) (by show 0 + 1 ≤ _; omega) (by simp) fun v11 w11 hown hk11 => ?_
  have hbb := hk11.below (Nat.le_refl _) fun b _ h => by cases h
  refine hK _ _ (hbb) fun hb11 => ?_
  clear hK
  clear K
  simp only [Act.put, List.setIfInBounds_toArray, List.set_cons_succ, List.set_cons_zero]
  obtain ⟨A11, c11', rfl, _⟩ := hown.form
  refine seqB_pre 2 (by kernel_rfl) ?_
  simp only [List.take_succ_cons, List.take_zero, List.drop_succ_cons, List.drop_zero]
  repeat (go_big_quiet_step (fail))
  refine wpQuiet_nil ?_
  have kg11 := kg8.below hb11 kg8.lt
  have fg := fun i => kg11.frozen i
  have y5 : w11.cell? ⟨g, 5, none⟩ = some nl := kg11.cell 5
  refine seqB_wild (Kp.of_below hb11) rfl rfl fun K hK => ?_
  unfold Gives
  go_simp
  have hkp : Kp (fun b => ¬ b = g) w11 (w11.setCell ⟨g, 5, none⟩ (.slice A11 1 c11')) := (Kp.refl _ _).setCell (fun _ h => h rfl) _
  refine hK _ _ (hkp) fun hK12 => ?_
  clear hK
  clear K
  simp only [Act.put, List.setIfInBounds_toArray, List.set_cons_succ, List.set_cons_zero]
  refine seqB_nil ?_
  have kg12 := kg11.set_ 5 (.slice A11 1 c11')
  have hK13 := hK8.trans hK12
  have q6 : (w11.setCell ⟨g, 5, none⟩ (.slice A11 1 c11')).cell? ⟨w.heap.size, 6, none⟩ = some (.bool false) := ((k8.kp hK12 (ok := fun b => ¬ b = g) hne).cell 6).trans c6
  clear m2 m5 y5 fg
  cases h with
  | none =>
    go_wp2
    go_ret
    exact ⟨rfl, hK13, _, by simpa using kg12⟩
  | some k =>
    go_wp2
    go_ret
    exact ⟨rfl, hK13, _, by simpa using kg12⟩
end Go.Proofs.Ytikkknaofiafhaa
