/- Contract: (*Shard).prepare of one write, at the locks of law 22. -/
import Derived.Test.YtikkknaofiafhaaM9
import Derived.Test.YtikkknaofiafhaaSeqG
namespace Go.Proofs.Ytikkknaofiafhaa
open Go.RowKit

set_option maxRecDepth 100000 in
set_option maxHeartbeats 1600000 in
theorem tGet_nil (g o : Nat) (w : World) (hc : w.cell? ⟨g, o, none⟩ = some nl) :
    Calls Try.prog 136 #[.pointer (some ⟨g, o, none⟩), .int .u64 9] w fun e w' => e = .returned (.tuple #[.agg #[.int .u64 0, nl, nl, nl], .bool false]) ∧ Below w.heap.size w w' := by
  go_enter Try.func136, Try.ntmps136
  have k1 := Blk.new w 191 #[.int .u64 0, nl, nl, nl]
  obtain ⟨z0, z1, z2, z3⟩ := cells4 k1
  have fz := fun i => k1.frozen i
  have c1 := alloc1 hc (.cells #[.int .u64 0, nl, nl, nl] 191)
  go_wp2
  refine wp_loop_rounds 1 ?_
  rw [rounds_succ]
  go_wp2
  obtain ⟨d0, d1, d2, d3⟩ := cells4 (set4' k1 (.int .u64 0) nl nl nl)
  refine bodyPost_ret (v := .tuple #[.agg #[.int .u64 0, nl, nl, nl], .bool false]) (by simp [results, Try.results136, go_sem, d0, d1, d2, d3]) rfl ?_
  exact ⟨rfl, (Below.refl _ _).alloc (Nat.le_refl _) _⟩

def preE (lf lu k : List UInt8) : Int := if (someB lf lu && withinB lf lu k) = true then (if may16 k [] = true then 0 else 1) else 14
def ShPre (g : Nat) (o1 o2 l f1 f2 gone : Value) (n : Int) (E : Int) (k : List UInt8) (w w' : World) : Prop :=
  ∃ T, Blk w' g 90 (shCs o1 o2 l T n nl f1 f2 gone) ∧ RSl rHe (fun b => w.heap.size ≤ b) w' T (if E = 0 then [k] else [])
theorem ShPre.no {g : Nat} {o1 o2 l f1 f2 gone : Value} {n : Int} {E : Int} {k : List UInt8} {w w' : World} (hE : E ≠ 0) (h : Blk w' g 90 (shCs o1 o2 l nl n nl f1 f2 gone)) : ShPre g o1 o2 l f1 f2 gone n E k w w' :=
  ⟨nl, h, by rw [if_neg hE]; exact RSl.nil_ _ _ _⟩

set_option maxRecDepth 100000 in
set_option maxHeartbeats 12800000 in
theorem shPrep_any {ok ok2 : Nat → Prop} (g : Nat) (o1 o2 l f1 f2 gone ws : Value) (n : Int) (lf lu k : List UInt8) (C : Array Value) (w : World) (hg : Blk w g 90 (shCs o1 o2 l nl n nl f1 f2 gone)) (h1 : RB ok w o1 lf) (h2 : RB ok w o2 lu)
    (hC : C.size = 25) (c2 : C[2]? = some (.int .u64 9)) (c10 : C[10]? = some nl) (c11 : C[11]? = some nl) (c12 : C[12]? = some ws) (hw : RSl rWr ok2 w ws [k]) :
    Calls Try.prog 88 #[.pointer (some ⟨g, 0, none⟩), .agg C] w fun e w' => e = .returned (.int .i64 (preE lf lu k)) ∧ Kp (fun b => b ≠ g) w w' ∧ ShPre g o1 o2 l f1 f2 gone n (preE lf lu k) k w w' := by
  have hgl := hg.lt
  obtain ⟨b, off, c, x1, x2, rfl, hc1, _, r0, r1, r2, hk, hk2⟩ := wr_open hw
  obtain ⟨A3, a3, rfl, _, _⟩ := hk.form
  obtain ⟨A4, a4, rfl, _, _⟩ := hk2.form
  have hbl := World.block_lt_of_cell? w _ r0
  go_enter Try.func88, Try.ntmps88
  go_upto_region 1 with fail
  refine name_world (fun w1 => Below w.heap.size w w1 ∧ w.heap.size + 1 ≤ w1.heap.size ∧ Blk w1 w.heap.size 60 C)
    ⟨(Below.refl _ _).alloc (Nat.le_refl _) _, by simp, Blk.new _ _ _⟩ ?_
  rintro w1 ⟨hB1, hz1, k1⟩
  have kg := hg.below hB1 hgl
  have q2 : w1.cell? ⟨w.heap.size, 2, none⟩ = some (.int .u64 9) := (k1.cell 2).trans c2
  have m2 := cellF q2
  have m3 := cellF (kg.cell 3)
  go_wp2
  refine wp_seqV (fun _ => False) 10 [5, 10] [9] (by as_aux_lemma => kernel_rfl) (by as_aux_lemma => kernel_rfl) fun w2 hb2 => ?_
  refine seqV_pre 5 (by kernel_rfl) ?_
  simp only [List.take_succ_cons, List.take_zero, List.drop_succ_cons, List.drop_zero]
  repeat (go_big_quiet_step (fail))
  refine wpQuiet_nil ?_
  refine seqV_new hb2 rfl rfl fun w3 hb3 hB3 K hK => ?_
  unfold Gives
  go_simp
  refine (tGet_nil g 3 _ (m3 ⟨_, Kp.ofBelow hB3⟩)).mono ?_
  rintro e w4 ⟨rfl, hb4⟩
  refine ⟨_, rfl, hK _ _ (hb4) fun hB4 => ?_⟩
  clear hK
  clear K
  simp only [Act.put, List.setIfInBounds_toArray, List.set_cons_succ, List.set_cons_zero]
  refine seqV_pre 3 (by kernel_rfl) ?_
  simp only [List.take_succ_cons, List.take_zero, List.drop_succ_cons, List.drop_zero]
  repeat (go_big_quiet_step (fail))
  refine wpQuiet_nil ?_
  refine seqV_lay (fun g => .pointer (some ⟨g, 0, none⟩)) 191 #[.int .u64 0, nl, nl, nl] rfl rfl (fun s => by go_simp <;> rfl) fun gb w5 hg5 hM5 k5 hb5 => ?_
  simp only [Act.put, List.setIfInBounds_toArray, List.set_cons_succ, List.set_cons_zero]
  have hB5 := hB4.trans (hb5.mono hB4.size)
  obtain ⟨z0, z1, z2, z3⟩ := cells4 k5
  have fz := fun i => k5.frozen i
  refine seqV_chg (Kp.ofBelow hB5) rfl rfl fun K hK => ?_
  unfold Gives
  go_simp
  have nk : ¬ keepB w1 (fun _ => False) (fun b => mineV (fun _ => False) w3 w4 b ∨ b = gb) gb := keep_not hg5 (.inr rfl)
  have hkp := ((((Kp.refl (keepB w1 (fun _ => False) (fun b => mineV (fun _ => False) w3 w4 b ∨ b = gb)) w5).setCell (p := ⟨gb, 0, none⟩) (fun _ => nk) (.int .u64 0)).setCell (p := ⟨gb, 1, none⟩) (fun _ => nk) nl).setCell (p := ⟨gb, 2, none⟩) (fun _ => nk) nl).setCell (p := ⟨gb, 3, none⟩) (fun _ => nk) nl
  refine hK _ _ (hkp) fun hK6 => ?_
  clear hK
  clear K
  simp only [Act.put, List.setIfInBounds_toArray, List.set_cons_succ, List.set_cons_zero]
  refine seqV_pre 1 (by kernel_rfl) ?_
  simp only [List.take_succ_cons, List.take_zero, List.drop_succ_cons, List.drop_zero]
  repeat (go_big_quiet_step (fail))
  refine wpQuiet_nil ?_
  refine seqV_nil ?_
  have hB6 := hB1.trans (hK6.toBelow.mono hB1.size)
  have k16 := (((k1.below hB5 k1.lt).far (p := ⟨gb, 0, none⟩) (by have := k1.lt; simp; omega) (.int .u64 0)).far (p := ⟨gb, 1, none⟩) (by have := k1.lt; simp; omega) nl |>.far (p := ⟨gb, 2, none⟩) (by have := k1.lt; simp; omega) nl).far (p := ⟨gb, 3, none⟩) (by have := k1.lt; simp; omega) nl
  clear m2 m3 z0 z1 z2 z3 fz hkp nk hK6 hM5 q2
  go_upto_region 6 with fail
  refine name_world (fun w6 => Below w.heap.size w w6 ∧ w.heap.size + 1 ≤ w6.heap.size ∧ Blk w6 w.heap.size 60 C) ⟨hB6, by have := hB5.size; simp; omega, k16⟩ ?_
  clear hB6 k16 k5 hb5 hB5 hB4 hb4 hb3 hB3 hb2 k1 kg hB1 hz1
  rintro w6 ⟨hB6, hz6, k6⟩
  have kg6 := hg.below hB6 hgl
  have m2 : ∀ s : Later w6, s.val.cell? ⟨w.heap.size, 2, none⟩ = some (.int .u64 9) := Later.cell ((k6.cell 2).trans c2)
  have m5 : ∀ s : Later w6, s.val.cell? ⟨g, 5, none⟩ = some nl := kg6.later rfl
  refine wp_seqL [6] (by as_aux_lemma => kernel_rfl) (by as_aux_lemma => kernel_rfl) fun w7 hb7 => ?_
  refine seqL_pre 6 (by kernel_rfl) ?_
  simp only [List.take_succ_cons, List.take_zero, List.drop_succ_cons, List.drop_zero]
  repeat (go_big_quiet_step (fail))
  refine wpQuiet_nil ?_
  refine seqL_wild hb7 rfl rfl fun K hK => ?_
  unfold Gives
  go_simp
  refine (in64_nil none 0 9 _).mono ?_
  rintro e w8 ⟨rfl, hw8⟩
  subst hw8
  refine ⟨_, rfl, hK _ _ ((Below.refl _ _)) fun _h8 => ?_⟩
  clear hK
  clear K
  simp only [Act.put, List.setIfInBounds_toArray, List.set_cons_succ, List.set_cons_zero]
  refine seqL_nil ?_
  have hB7 := hB6.trans (hb7.mono hB6.size)
  have k7 := k6.below hb7 k6.lt
  have q2 : w8.cell? ⟨w.heap.size, 2, none⟩ = some (.int .u64 9) := (k7.cell 2).trans c2
  have q12 : w8.cell? ⟨w.heap.size, 12, none⟩ = some (.slice (some ⟨b, off, none⟩) 1 c) := (k7.cell 12).trans c12
  clear m2 m5 k6 kg6
  go_upto_region 9 with fail
  refine name_world (fun w9 => Below w.heap.size w w9 ∧ w.heap.size + 1 ≤ w8.heap.size ∧ Blk w9 w.heap.size 60 C ∧ Blk w9 w8.heap.size 191 #[.int .u64 9, nl, nl, .slice (some ⟨b, off, none⟩) 1 c]) ⟨hB7.alloc hB7.size _, Nat.le_trans hz6 hb7.size, k7.alloc _, Blk.new _ _ _⟩ ?_
  obtain ⟨gh, hgh⟩ : ∃ gh, gh = w8.heap.size := ⟨_, rfl⟩
  rw [← hgh]
  clear q2 q12 k7 hB7
  rintro w9 ⟨hB9, hz9, k9, kh9⟩
  have hgh' : w.heap.size + 1 ≤ gh := by omega
  clear hgh hz9 hz6 hB6
  have kg9 := hg.below hB9 hgl
  have q10 : w9.cell? ⟨w.heap.size, 10, none⟩ = some nl := (k9.cell 10).trans c10
  have q12 : w9.cell? ⟨w.heap.size, 12, none⟩ = some (.slice (some ⟨b, off, none⟩) 1 c) := (k9.cell 12).trans c12
  have p0 := (hB9.cell (p := ⟨b, off, none⟩) hbl).trans r0
  have hn : w9.heap.size = w9.heap.size := rfl
  clear hn
  go_wp2
  refine wp_loop_rounds 1 ?_
  rw [rounds_succ]
  go_wp2
  refine wp_loop_rounds 2 ?_
  rw [rounds_succ]
  go_wp2_with fail
  refine (owns_any g o1 o2 l nl nl f1 f2 gone _ n lf lu k _ kg9 (h1.below hB9) (h2.below hB9) (hk.below hB9)).mono ?_
  rintro e wa ⟨rfl, hba⟩
  have hBa := hB9.trans (hba.mono hB9.size)
  have ka := k9.below hba k9.lt
  have kha := kh9.below hba kh9.lt
  have kga := kg9.below hba kg9.lt
  clear q10 q12 p0 k9 kh9 kg9
  cases hO : (someB lf lu && withinB lf lu k)
  case false =>
    have HE : Hid (preE lf lu k = 14) := by
      have : preE lf lu k = 14 := by unfold preE; rw [hO]; rfl
      exact Lib.hid this
    clear hO
    go_wp2
    go_ret
    exact ⟨by rw [HE.out]; rfl, Kp.of_below hBa, ShPre.no (by rw [HE.out]; decide) kga⟩
  have HO := Lib.hid hO
  clear hO
  have q11 : wa.cell? ⟨w.heap.size, 11, none⟩ = some nl := (ka.cell 11).trans c11
  have q12 : wa.cell? ⟨w.heap.size, 12, none⟩ = some (.slice (some ⟨b, off, none⟩) 1 c) := (ka.cell 12).trans c12
  go_wp2
  rw [rounds_succ]
  go_wp2
  refine wp_loop_rounds 1 ?_
  rw [rounds_succ]
  have y0 : ∀ s : Later wa, s.val.cell? ⟨gh, 0, none⟩ = some (.int .u64 9) := kha.later rfl
  have y1 : ∀ s : Later wa, s.val.cell? ⟨gh, 1, none⟩ = some nl := kha.later rfl
  have y2 : ∀ s : Later wa, s.val.cell? ⟨gh, 2, none⟩ = some nl := kha.later rfl
  have y3 : ∀ s : Later wa, s.val.cell? ⟨gh, 3, none⟩ = some (.slice (some ⟨b, off, none⟩) 1 c) := kha.later rfl
  go_wp2
  refine wp_seqL [4] (by as_aux_lemma => kernel_rfl) (by as_aux_lemma => kernel_rfl) fun wb hbb => ?_
  refine seqL_pre 4 (by kernel_rfl) ?_
  simp only [List.take_succ_cons, List.take_zero, List.drop_succ_cons, List.drop_zero]
  repeat (go_big_quiet_step (fail))
  refine wpQuiet_nil ?_
  have kgb := kga.below hbb kga.lt
  refine seqL_wild hbb rfl rfl fun K hK => ?_
  unfold Gives
  go_simp
  refine (tMay_nil (ok := fun _ => True) g 3 none (some ⟨b, off, none⟩) 0 1 c _ (kgb.cell 3)).mono ?_
  rintro e wc ⟨rfl, hbc⟩
  refine ⟨_, rfl, hK _ _ (hbc) fun hbc' => ?_⟩
  clear hK
  clear K
  simp only [Act.put, List.setIfInBounds_toArray, List.set_cons_succ, List.set_cons_zero]
  refine seqL_pre 1 (by kernel_rfl) ?_
  simp only [List.take_succ_cons, List.take_zero, List.drop_succ_cons, List.drop_zero]
  repeat (go_big_quiet_step (fail))
  refine wpQuiet_nil ?_
  refine seqL_nil ?_
  have hBc := hBa.trans (hbc'.mono hBa.size)
  have kc := ka.below hbc' ka.lt
  have khc := kha.below hbc' kha.lt
  have kgc := kga.below hbc' kga.lt
  clear q11 q12 y0 y1 y2 y3 kgb ka kha kga
  have q10 : wc.cell? ⟨w.heap.size, 10, none⟩ = some nl := (kc.cell 10).trans c10
  have q11 : wc.cell? ⟨w.heap.size, 11, none⟩ = some nl := (kc.cell 11).trans c11
  have q12 : wc.cell? ⟨w.heap.size, 12, none⟩ = some (.slice (some ⟨b, off, none⟩) 1 c) := (kc.cell 12).trans c12
  go_wp2
  refine wp_loop_rounds 1 ?_
  rw [rounds_succ]
  go_wp2
  refine wp_loop_rounds 1 ?_
  rw [rounds_succ]
  go_wp2
  refine wp_loop_rounds 2 ?_
  rw [rounds_succ]
  go_wp2
  have n12 : ∀ s : Later wc, s.val.cell? ⟨w.heap.size, 12, none⟩ = some (.slice (some ⟨b, off, none⟩) 1 c) := Later.cell q12
  have n0 : ∀ s : Later wc, s.val.cell? ⟨b, off, none⟩ = some (.slice A3 k.length a3) := Later.cell ((hBc.cell (p := ⟨b, off, none⟩) hbl).trans r0)
  have n1 : ∀ s : Later wc, s.val.cell? ⟨b, off + 1, none⟩ = some (.slice A4 0 a4) := Later.cell ((hBc.cell (p := ⟨b, off + 1, none⟩) hbl).trans r1)
  refine wp_seqL [12] (by as_aux_lemma => kernel_rfl) (by as_aux_lemma => kernel_rfl) fun wd hbd => ?_
  refine seqL_pre 12 (by kernel_rfl) ?_
  simp only [List.take_succ_cons, List.take_zero, List.drop_succ_cons, List.drop_zero]
  repeat (go_big_quiet_step (fail))
  refine wpQuiet_nil ?_
  refine seqL_wild hbd rfl rfl fun K hK => ?_
  unfold Gives
  go_simp
  refine (may16_any A3 A4 a3 a4 k [] _).mono ?_
  rintro e we ⟨rfl, hwe⟩
  subst hwe
  refine ⟨_, rfl, hK _ _ ((Below.refl _ _)) fun _hbe => ?_⟩
  clear hK
  clear K
  simp only [Act.put, List.setIfInBounds_toArray, List.set_cons_succ, List.set_cons_zero]
  refine seqL_pre 1 (by kernel_rfl) ?_
  simp only [List.take_succ_cons, List.take_zero, List.drop_succ_cons, List.drop_zero]
  repeat (go_big_quiet_step (fail))
  refine wpQuiet_nil ?_
  refine seqL_nil ?_
  have hBe := hBc.trans (hbd.mono hBc.size)
  have ke := kc.below hbd kc.lt
  have khe := khc.below hbd khc.lt
  have kge := kgc.below hbd kgc.lt
  clear q10 q11 q12 n12 n0 n1 kc khc kgc
  cases hM : may16 k []
  case false =>
    have HE : Hid (preE lf lu k = 1) := by
      have : preE lf lu k = 1 := by unfold preE; rw [HO.out, hM]; rfl
      exact Lib.hid this
    clear hM
    go_wp2
    go_ret
    exact ⟨by rw [HE.out]; rfl, Kp.of_below hBe, ShPre.no (by rw [HE.out]; decide) kge⟩
  have HE : Hid (preE lf lu k = 0) := by
    have : preE lf lu k = 0 := by unfold preE; rw [HO.out, hM]; rfl
    exact Lib.hid this
  clear hM
  have q12 : we.cell? ⟨w.heap.size, 12, none⟩ = some (.slice (some ⟨b, off, none⟩) 1 c) := (ke.cell 12).trans c12
  go_wp2
  refine wp_loop_rounds 1 ?_
  rw [rounds_succ]
  go_wp2
  rw [rounds_succ]
  have hgg : gh ≠ g := by omega
  have y0 : ∀ s : LaterB we (fun b => b = g), s.val.cell? ⟨gh, 0, none⟩ = some (.int .u64 9) := LaterB.cell (khe.cell 0) hgg
  have y1 : ∀ s : LaterB we (fun b => b = g), s.val.cell? ⟨gh, 1, none⟩ = some nl := LaterB.cell (khe.cell 1) hgg
  have y2 : ∀ s : LaterB we (fun b => b = g), s.val.cell? ⟨gh, 2, none⟩ = some nl := LaterB.cell (khe.cell 2) hgg
  have y3 : ∀ s : LaterB we (fun b => b = g), s.val.cell? ⟨gh, 3, none⟩ = some (.slice (some ⟨b, off, none⟩) 1 c) := LaterB.cell (khe.cell 3) hgg
  go_wp2
  refine wp_seqB (fun b => b = g) 4 [4] (by as_aux_lemma => kernel_rfl) (by as_aux_lemma => kernel_rfl) fun wf hbf => ?_
  refine seqB_pre 4 (by kernel_rfl) ?_
  simp only [List.take_succ_cons, List.take_zero, List.drop_succ_cons, List.drop_zero]
  repeat (go_big_quiet_step (fail))
  refine wpQuiet_nil ?_
  have hBf := hBe.trans (hbf.mono hBe.size)
  have kgf := kge.below hbf kge.lt
  refine seqB_wild (Kp.of_below hbf) rfl rfl fun K hK => ?_
  unfold Gives
  go_simp
  refine (tPut_nil g _ _ l nl f1 f2 gone _ n k _ kgf (hw.below hBf)).mono ?_
  rintro e wg ⟨rfl, hkg, Ag, cg, kgg, hrg⟩
  refine ⟨_, rfl, hK _ _ ((hkg.mono (fun b h => h))) fun hkg' => ?_⟩
  clear hK
  clear K
  simp only [Act.put, List.setIfInBounds_toArray, List.set_cons_succ, List.set_cons_zero]
  refine seqB_nil ?_
  clear y0 y1 y2 y3 q12
  go_wp2
  go_ret
  refine ⟨by rw [HE.out]; rfl, (Kp.of_below hBf).trans hkg, ?_⟩
  rw [HE.out]
  exact ⟨_, kgg, by rw [if_pos rfl]; exact hrg.mono (by decide) fun b hb _ => Nat.le_trans hBf.size hb⟩
end Go.Proofs.Ytikkknaofiafhaa
