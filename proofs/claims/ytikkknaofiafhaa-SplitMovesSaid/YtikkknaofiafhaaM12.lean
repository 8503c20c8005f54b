/- Contract: (*Shard).give. -/
import Derived.Test.YtikkknaofiafhaaM11
namespace Go.Proofs.Ytikkknaofiafhaa
open Go.RowKit

def repCs (err : Int) (ps : Value) : Array Value := #[.int .i64 err, .int .u64 0, .int .i64 0, .bool false, ps, nl, .int .i64 0, .int .i64 0, nl, nl, .int .i64 0, .int .i64 0, nl, .int .i64 0, nl]
theorem repCs_one {err : Int} {ps : Value} (h : ps.oneCell' = true) : (repCs err ps).all (·.oneCell') = true := by
  simp only [repCs, List.all_toArray, List.all_cons, List.all_nil, h, Bool.true_and, Bool.and_true]
  rfl
theorem Try.infoRep : (Try.prog.info? 70).map (·.size) = some 15 := by kernel_rfl
def sumP : List PairD → Int
  | [] => 0
  | p :: l => (p.k.length : Int) + (p.v.length : Int) + 20 + sumP l
theorem sumP_app : ∀ (l : List PairD) (p : PairD), sumP (l ++ [p]) = sumP l + ((p.k.length : Int) + (p.v.length : Int) + 20)
  | [], p => by simp [sumP]
  | q :: l, p => by simp only [List.cons_append, sumP, sumP_app l p]; omega
def giveE (lf lu k : List UInt8) (h : Option (List UInt8)) (l : List PairD) : Int :=
  if (someB lf lu && withinB lf lu k) = false then 14 else if decide (k = lf) = true then 14 else if touchB h k lu = true then 12 else if sumP (partL l k lu) > 20000 then 10 else 0
def leftL (l : List PairD) (f t : List UInt8) : List PairD := l.filter fun p => !withinB f t p.k
theorem leftL_take {l : List PairD} {f t : List UInt8} {k : Nat} (h : k < l.length) : leftL (l.take (k + 1)) f t = if withinB f t l[k].k then leftL (l.take k) f t else leftL (l.take k) f t ++ [l[k]] := by
  unfold leftL
  rw [List.take_succ_eq_append_getElem h, List.filter_append]
  cases hw : withinB f t l[k].k <;> simp [hw]
theorem leftL_len (l : List PairD) (f t : List UInt8) : (leftL l f t).length ≤ l.length := List.length_filter_le _ _
/-- the shard behind it -/
def ShGave (ok : Nat → Prop) (g : Nat) (o1 o2 l T over f1 f2 gone : Value) (n : Int) (k lu : List UInt8) (ls : List PairD) (E : Int) (w w' : World) : Prop :=
  if E = 0 then ∃ o2' l' f1' f2' gone', Blk w' g 90 (shCs o1 o2' l' T n over f1' f2' gone') ∧ RB (fun b => w.heap.size ≤ b) w' o2' k ∧ RSl rPair (fun b => ok b ∨ w.heap.size ≤ b) w' l' (leftL ls k lu)
  else Blk w' g 90 (shCs o1 o2 l T n over f1 f2 gone)
theorem ShGave.no {ok : Nat → Prop} {g : Nat} {o1 o2 l T over f1 f2 gone : Value} {n : Int} {k lu : List UInt8} {ls : List PairD} {E : Int} {w w' : World} (hE : E ≠ 0) (h : Blk w' g 90 (shCs o1 o2 l T n over f1 f2 gone)) : ShGave ok g o1 o2 l T over f1 f2 gone n k lu ls E w w' := by
  unfold ShGave
  rw [if_neg hE]
  exact h

def GivePost (ok : Nat → Prop) (g : Nat) (o1 o2 l T over f1 f2 gone : Value) (n : Int) (k lu : List UInt8) (ls : List PairD) (E : Int) (w : World) (e : Ending) (w' : World) : Prop :=
  (∃ R, e = .returned (.agg R) ∧ R.all (·.oneCell') = true ∧ RepR (fun b => w.heap.size ≤ b) w' R E (if E = 0 then partL ls k lu else [])) ∧ Kp (fun b => b ≠ g) w w' ∧ ShGave ok g o1 o2 l T over f1 f2 gone n k lu ls E w w'
set_option maxRecDepth 100000 in
set_option maxHeartbeats 12800000 in
theorem shGive_any {ok ok2 : Nat → Prop} (g : Nat) (o1 o2 l vT over f1 f2 gone kv : Value) (n : Int) (lf lu k : List UInt8) (h : Option (List UInt8)) (ls : List PairD) (C : Array Value) (w : World) (hg : Blk w g 90 (shCs o1 o2 l vT n over f1 f2 gone)) (h1 : RB ok w o1 lf) (h2 : RB ok w o2 lu)
    (hl : RSl rPair ok w l ls) (hT : RSl rHe ok w vT h.toList) (hls : ls.length ≤ 1000) (hok : ∀ b, ok b → b ≠ g) (hC : C.size = 25) (c7 : C[7]? = some kv) (hk : RB ok2 w kv k) (hok2 : ∀ b, ok2 b → b ≠ g) :
    Calls Try.prog 90 #[.pointer (some ⟨g, 0, none⟩), .agg C] w (GivePost ok g o1 o2 l vT over f1 f2 gone n k lu ls (giveE lf lu k h ls) w) := by
  have hgl := hg.lt
  obtain ⟨A1, a1, rfl, _, _⟩ := h1.form
  obtain ⟨A2, a2, rfl, _, _⟩ := h2.form
  obtain ⟨A3, a3, rfl, _, hbd3⟩ := hl.form
  have hbd3' : ls.length * 56 ≤ 140737488351232 := hbd3
  clear hbd3
  have hl0 : RSl rPair (fun b => ok b ∧ b < w.heap.size) w (.slice A3 ls.length a3) ls := hl.mono (by decide) fun b h h2 => ⟨h, h2⟩
  obtain ⟨A7, a7, rfl, _, _⟩ := hk.form
  go_enter Try.func90, Try.ntmps90
  go_upto_region 1 with fail
  refine name_world (fun w1 => Below w.heap.size w w1 ∧ w.heap.size + 2 ≤ w1.heap.size ∧ Blk w1 w.heap.size 60 C ∧ Blk w1 (w.heap.size + 1) 70 (repCs 0 nl))
    ⟨((Below.refl _ _).alloc (Nat.le_refl _) _).alloc (by simp) _, by simp, (Blk.new w _ _).alloc _, Blk.new_ (by simp)⟩ ?_
  rintro w1 ⟨hB1, hz1, k1, k4⟩
  have kg := hg.below hB1 hgl
  have m7 : ∀ s : Later w1, s.val.cell? ⟨w.heap.size, 7, none⟩ = some (.slice A7 k.length a7) := Later.cell ((k1.cell 7).trans c7)
  have mg0 : ∀ s : Later w1, s.val.cell? ⟨g, 0, none⟩ = some (.slice A1 lf.length a1) := kg.later rfl
  have hne : w.heap.size ≠ g := by omega
  cases hO : (someB lf lu && withinB lf lu k)
  case false =>
    have HO := Lib.hid hO
    clear hO
    refine wp_seqL [3, 13] (by as_aux_lemma => kernel_rfl) (by as_aux_lemma => kernel_rfl) fun w2 hb2 => ?_
    refine seqL_pre 3 (by kernel_rfl) ?_
    simp only [List.take_succ_cons, List.take_zero, List.drop_succ_cons, List.drop_zero]
    repeat (go_big_quiet_step (fail))
    refine wpQuiet_nil ?_
    have kg2 := kg.below hb2 kg.lt
    refine seqL_wild hb2 rfl rfl fun K hK => ?_
    unfold Gives
    go_simp
    refine (owns_any g _ _ _ vT over f1 f2 gone _ n lf lu k _ kg2 ((h1.below hB1).below hb2) ((h2.below hB1).below hb2) ((hk.below hB1).below hb2)).mono ?_
    rw [HO.out]
    rintro e w3 ⟨rfl, hb3⟩
    refine ⟨_, rfl, hK _ _ (hb3) fun hb3' => ?_⟩
    clear hK
    clear K
    simp only [Act.put, List.setIfInBounds_toArray, List.set_cons_succ, List.set_cons_zero]
    refine seqL_pre 9 (by kernel_rfl) ?_
    simp only [List.take_succ_cons, List.take_zero, List.drop_succ_cons, List.drop_zero]
    repeat (go_big_quiet_step (fail))
    refine wpQuiet_nil ?_
    refine seqL_skip rfl ?_
    simp only [Act.put, List.setIfInBounds_toArray, List.set_cons_succ, List.set_cons_zero]
    refine seqL_pre 1 (by kernel_rfl) ?_
    simp only [List.take_succ_cons, List.take_zero, List.drop_succ_cons, List.drop_zero]
    repeat (go_big_quiet_step (fail))
    refine wpQuiet_nil ?_
    refine seqL_nil ?_
    have hB3 := hB1.trans (hb3'.mono hB1.size)
    have k4 := k4.below hb3' k4.lt
    have kgx := kg.below hb3' kg.lt
    clear m7 mg0
    have HE : Hid (giveE lf lu k h ls = 14) := by
      have : giveE lf lu k h ls = 14 := by
        unfold giveE
        rw [HO.out]; rfl
      exact Lib.hid this
    go_upto_region 2 with fail
    refine wp_region_split 1 ?_
    simp only [List.take_succ_cons, List.take_zero, List.drop_succ_cons, List.drop_zero]
    go_wp2
    show wpList _ _ _ _ _ _
    refine wpList_storeB rfl rfl (repCs 14 nl) rfl rfl k4 rfl Try.infoRep (repCs_one rfl) ?_
    intro k4r
    have lv := Blk.loadVar k4r Try.underlying70 rfl Try.infoRep
    have hBr := below_setCells (B := w.heap.size) (a := w) (b := w.heap.size + 1) (by omega) (repCs 14 nl).toList 0 hB3
    have kgr := far_setCells (b := w.heap.size + 1) (by omega) (repCs 14 nl).toList 0 kgx
    generalize hwr : World.setCells w3 (w.heap.size + 1) 0 (repCs 14 nl).toList = wr at k4r lv hBr kgr ⊢
    clear hwr
    go_wp2
    refine bodyPost_ret (v := .agg (repCs 14 nl)) ?_ rfl ?_
    · simp [results, Try.results90, Act.put, Sem.run_bind, Sem.run_pure, asAddr_ok, lv]
    · exact by
        unfold GivePost
        rw [HE.out]
        exact ⟨⟨_, rfl, repCs_one rfl, rfl, rfl, _, rfl, RSl.nil_ _ _ _⟩, Kp.of_below hBr, ShGave.no (by decide) kgr⟩
  have HO := Lib.hid hO
  clear hO
  cases hF : decide (k = lf)
  case true =>
    have HF := Lib.hid hF
    clear hF
    refine wp_seqL [3, 13] (by as_aux_lemma => kernel_rfl) (by as_aux_lemma => kernel_rfl) fun w2 hb2 => ?_
    refine seqL_pre 3 (by kernel_rfl) ?_
    simp only [List.take_succ_cons, List.take_zero, List.drop_succ_cons, List.drop_zero]
    repeat (go_big_quiet_step (fail))
    refine wpQuiet_nil ?_
    have kg2 := kg.below hb2 kg.lt
    refine seqL_wild hb2 rfl rfl fun K hK => ?_
    unfold Gives
    go_simp
    refine (owns_any g _ _ _ vT over f1 f2 gone _ n lf lu k _ kg2 ((h1.below hB1).below hb2) ((h2.below hB1).below hb2) ((hk.below hB1).below hb2)).mono ?_
    rw [HO.out]
    rintro e w3 ⟨rfl, hb3⟩
    refine ⟨_, rfl, hK _ _ (hb3) fun hb3' => ?_⟩
    clear hK
    clear K
    simp only [Act.put, List.setIfInBounds_toArray, List.set_cons_succ, List.set_cons_zero]
    refine seqL_pre 9 (by kernel_rfl) ?_
    simp only [List.take_succ_cons, List.take_zero, List.drop_succ_cons, List.drop_zero]
    repeat (go_big_quiet_step (fail))
    refine wpQuiet_nil ?_
    refine seqL_wild hb3' rfl rfl fun K hK => ?_
    unfold Gives
    go_simp
    refine (bytes_rb _ _ k lf _ ((hk.below hB1).below hb3') ((h1.below hB1).below hb3')).mono ?_
    rw [HF.out]
    rintro e w3x ⟨rfl, hwx⟩
    subst hwx
    refine ⟨_, rfl, hK _ _ ((Below.refl _ _)) fun _hx => ?_⟩
    clear hK
    clear K
    simp only [Act.put, List.setIfInBounds_toArray, List.set_cons_succ, List.set_cons_zero]
    refine seqL_pre 1 (by kernel_rfl) ?_
    simp only [List.take_succ_cons, List.take_zero, List.drop_succ_cons, List.drop_zero]
    repeat (go_big_quiet_step (fail))
    refine wpQuiet_nil ?_
    refine seqL_nil ?_
    have hB3 := hB1.trans (hb3'.mono hB1.size)
    have k4 := k4.below hb3' k4.lt
    have kgx := kg.below hb3' kg.lt
    clear m7 mg0
    have HE : Hid (giveE lf lu k h ls = 14) := by
      have : giveE lf lu k h ls = 14 := by
        unfold giveE
        rw [HO.out, HF.out]; rfl
      exact Lib.hid this
    go_upto_region 2 with fail
    refine wp_region_split 1 ?_
    simp only [List.take_succ_cons, List.take_zero, List.drop_succ_cons, List.drop_zero]
    go_wp2
    show wpList _ _ _ _ _ _
    refine wpList_storeB rfl rfl (repCs 14 nl) rfl rfl k4 rfl Try.infoRep (repCs_one rfl) ?_
    intro k4r
    have lv := Blk.loadVar k4r Try.underlying70 rfl Try.infoRep
    have hBr := below_setCells (B := w.heap.size) (a := w) (b := w.heap.size + 1) (by omega) (repCs 14 nl).toList 0 hB3
    have kgr := far_setCells (b := w.heap.size + 1) (by omega) (repCs 14 nl).toList 0 kgx
    generalize hwr : World.setCells w3 (w.heap.size + 1) 0 (repCs 14 nl).toList = wr at k4r lv hBr kgr ⊢
    clear hwr
    go_wp2
    refine bodyPost_ret (v := .agg (repCs 14 nl)) ?_ rfl ?_
    · simp [results, Try.results90, Act.put, Sem.run_bind, Sem.run_pure, asAddr_ok, lv]
    · exact by
        unfold GivePost
        rw [HE.out]
        exact ⟨⟨_, rfl, repCs_one rfl, rfl, rfl, _, rfl, RSl.nil_ _ _ _⟩, Kp.of_below hBr, ShGave.no (by decide) kgr⟩
  have HF := Lib.hid hF
  clear hF
  refine wp_seqL [3, 13] (by as_aux_lemma => kernel_rfl) (by as_aux_lemma => kernel_rfl) fun w2 hb2 => ?_
  refine seqL_pre 3 (by kernel_rfl) ?_
  simp only [List.take_succ_cons, List.take_zero, List.drop_succ_cons, List.drop_zero]
  repeat (go_big_quiet_step (fail))
  refine wpQuiet_nil ?_
  have kg2 := kg.below hb2 kg.lt
  refine seqL_wild hb2 rfl rfl fun K hK => ?_
  unfold Gives
  go_simp
  refine (owns_any g _ _ _ vT over f1 f2 gone _ n lf lu k _ kg2 ((h1.below hB1).below hb2) ((h2.below hB1).below hb2) ((hk.below hB1).below hb2)).mono ?_
  rw [HO.out]
  rintro e w3 ⟨rfl, hb3⟩
  refine ⟨_, rfl, hK _ _ (hb3) fun hb3' => ?_⟩
  clear hK
  clear K
  simp only [Act.put, List.setIfInBounds_toArray, List.set_cons_succ, List.set_cons_zero]
  refine seqL_pre 9 (by kernel_rfl) ?_
  simp only [List.take_succ_cons, List.take_zero, List.drop_succ_cons, List.drop_zero]
  repeat (go_big_quiet_step (fail))
  refine wpQuiet_nil ?_
  refine seqL_wild hb3' rfl rfl fun K hK => ?_
  unfold Gives
  go_simp
  refine (bytes_rb _ _ k lf _ ((hk.below hB1).below hb3') ((h1.below hB1).below hb3')).mono ?_
  rw [HF.out]
  rintro e w3x ⟨rfl, hwx⟩
  subst hwx
  refine ⟨_, rfl, hK _ _ ((Below.refl _ _)) fun _hx => ?_⟩
  clear hK
  clear K
  simp only [Act.put, List.setIfInBounds_toArray, List.set_cons_succ, List.set_cons_zero]
  refine seqL_pre 1 (by kernel_rfl) ?_
  simp only [List.take_succ_cons, List.take_zero, List.drop_succ_cons, List.drop_zero]
  repeat (go_big_quiet_step (fail))
  refine wpQuiet_nil ?_
  refine seqL_nil ?_
  have hB3 := hB1.trans (hb3'.mono hB1.size)
  have k1 := k1.below hb3' k1.lt
  have k4 := k4.below hb3' k4.lt
  have kg3 := kg.below hb3' kg.lt
  clear m7 mg0 kg2
  have hz3 : w.heap.size + 2 ≤ w3.heap.size := k4.lt
  have m7 := cellF ((k1.cell 7).trans c7)
  have mg1 : ∀ s : LaterB w3 (fun _ => False), s.val.cell? ⟨g, 1, none⟩ = some (.slice A2 lu.length a2) := cellF (kg3.cell 1)
  go_wp2
  refine wp_seqV (fun _ => False) 11 [2, 8, 11] [10] (by as_aux_lemma => kernel_rfl) (by as_aux_lemma => kernel_rfl) fun w4 hb4 => ?_
  refine seqV_pre 2 (by kernel_rfl) ?_
  simp only [List.take_succ_cons, List.take_zero, List.drop_succ_cons, List.drop_zero]
  repeat (go_big_quiet_step (fail))
  refine wpQuiet_nil ?_
  refine seqV_new hb4 rfl rfl fun w5 hb5 hB5 K hK => ?_
  unfold Gives
  go_simp
  refine (copy_rb _ k _ ((hk.below hB3).below hB5)).mono ?_
  rintro e w6 ⟨⟨y, rfl, hy⟩, hb6⟩
  refine ⟨_, rfl, hK _ _ (hb6) fun hB6 => ?_⟩
  clear hK
  clear K
  simp only [Act.put, List.setIfInBounds_toArray, List.set_cons_succ, List.set_cons_zero]
  refine seqV_pre 5 (by kernel_rfl) ?_
  simp only [List.take_succ_cons, List.take_zero, List.drop_succ_cons, List.drop_zero]
  repeat (go_big_quiet_step (fail))
  refine wpQuiet_nil ?_
  refine seqV_new hB6 rfl rfl fun w7 hb7 hB7 K hK => ?_
  unfold Gives
  go_simp
  refine (copy_rb _ lu _ ((h2.below hB3).below hB7)).mono ?_
  rintro e w8 ⟨⟨y2, rfl, hy2⟩, hb8⟩
  refine ⟨_, rfl, hK _ _ (hb8) fun hB8 => ?_⟩
  clear hK
  clear K
  simp only [Act.put, List.setIfInBounds_toArray, List.set_cons_succ, List.set_cons_zero]
  obtain ⟨P1, p1, rfl, _, _⟩ := hy.form
  obtain ⟨P2, p2, rfl, _, _⟩ := hy2.form
  refine seqV_pre 1 (by kernel_rfl) ?_
  simp only [List.take_succ_cons, List.take_zero, List.drop_succ_cons, List.drop_zero]
  repeat (go_big_quiet_step (fail))
  refine wpQuiet_nil ?_
  refine seqV_lay (fun g => .pointer (some ⟨g, 0, none⟩)) 50 #[nl, nl] rfl rfl (fun s => by go_simp <;> rfl) fun gb w9 hg9 hM9 k9 hb9 => ?_
  simp only [Act.put, List.setIfInBounds_toArray, List.set_cons_succ, List.set_cons_zero]
  have hB9 := hB8.trans (hb9.mono hB8.size)
  obtain ⟨z0, z1⟩ := And.intro (k9.cell 0) (k9.cell 1)
  simp at z0 z1
  have fz := fun i => k9.frozen i
  refine seqV_chg (Kp.ofBelow hB9) rfl rfl fun K hK => ?_
  unfold Gives
  go_simp
  obtain ⟨M, hM⟩ : ∃ M, M = fun b => mineV (mineV (fun _ => False) w5 w6) w7 w8 b ∨ b = gb := ⟨_, rfl⟩
  have nk : ¬ keepB w3 (fun _ => False) M gb := by rw [hM]; exact keep_not hg9 (.inr rfl)
  rw [← hM] at hK
  have hkp := ((Kp.refl (keepB w3 (fun _ => False) M) w9).setCell (p := ⟨gb, 0, none⟩) (fun _ => nk) (.slice P1 k.length p1)).setCell (p := ⟨gb, 1, none⟩) (fun _ => nk) (.slice P2 lu.length p2)
  refine hK _ _ (hkp) fun hK10 => ?_
  clear hK
  clear K
  simp only [Act.put, List.setIfInBounds_toArray, List.set_cons_succ, List.set_cons_zero]
  refine seqV_nil ?_
  have hMy : ∀ b, (w5.heap.size ≤ b ∧ b < w6.heap.size) → b ≠ gb := fun b h e => hM9 (.inl (.inr (by subst e; exact h)))
  have hMy2 : ∀ b, (w7.heap.size ≤ b ∧ b < w8.heap.size) → b ≠ gb := fun b h e => hM9 (.inr (by subst e; exact h))
  have hkq := ((Kp.refl (fun b => b ≠ gb) w9).setCell (p := ⟨gb, 0, none⟩) (fun _ h => h rfl) (.slice P1 k.length p1)).setCell (p := ⟨gb, 1, none⟩) (fun _ h => h rfl) (.slice P2 lu.length p2)
  have hz5 : w3.heap.size ≤ w5.heap.size := hB5.size
  have hz7 : w3.heap.size ≤ w7.heap.size := hB7.size
  have r1 := (((hy.mono (ok' := fun b => w5.heap.size ≤ b ∧ b < w6.heap.size) (by decide) fun b h1 h2 => ⟨h1, h2⟩).below hb7).below hb8).below hb9
  have r2 := (hy2.mono (ok' := fun b => w7.heap.size ≤ b ∧ b < w8.heap.size) (by decide) fun b h1 h2 => ⟨h1, h2⟩).below hb9
  have r1' := (r1.kp (hkq.mono hMy)).mono (ok' := fun b => w3.heap.size ≤ b ∧ b ≠ gb) (by decide) fun b h _ => ⟨by omega, hMy b h⟩
  have r2' := (r2.kp (hkq.mono hMy2)).mono (ok' := fun b => w3.heap.size ≤ b ∧ b ≠ gb) (by decide) fun b h _ => ⟨by omega, hMy2 b h⟩
  have hBa := hB3.trans (hK10.toBelow.mono hB3.size)
  have kb := (k9.set_ 0 (.slice P1 k.length p1)).set_ 1 (.slice P2 lu.length p2)
  simp only [List.setIfInBounds_toArray, List.set_cons_succ, List.set_cons_zero] at kb
  have k1a := k1.below hK10.toBelow k1.lt
  have k4a := k4.below hK10.toBelow k4.lt
  have kga := kg3.below hK10.toBelow kg3.lt
  clear m7 mg1 z0 z1 fz hkp hkq nk r1 r2 hMy hMy2 hM9 hy hy2 hM
  clear M
  go_upto_region 4 with fail
  refine name_world (fun wa => Below w.heap.size w wa ∧ Blk wa w.heap.size 60 C ∧ Blk wa (w.heap.size + 1) 70 (repCs 0 nl) ∧ Blk wa g 90 (shCs (.slice A1 lf.length a1) (.slice A2 lu.length a2) (.slice A3 ls.length a3) vT n over f1 f2 gone) ∧ Blk wa gb 50 #[.slice P1 k.length p1, .slice P2 lu.length p2] ∧
    RB (fun b => w3.heap.size ≤ b ∧ b ≠ gb) wa (.slice P1 k.length p1) k ∧ RB (fun b => w3.heap.size ≤ b ∧ b ≠ gb) wa (.slice P2 lu.length p2) lu) ⟨hBa, k1a, k4a, kga, kb, r1', r2'⟩ ?_
  clear hBa k1a k4a kga kb r1' r2' hK10 hB9 hb9 k9 hB8 hb8 hB7 hb7 hB6 hb6 hB5 hb5 hb4 hb3' hb3 hb2 k1 k4 kg3 kg hB1 hz5 hz7
  rintro wa ⟨hBa, k1, k4, kga, kb, rp1, rp2⟩
  have hgb : w.heap.size + 2 ≤ gb := by omega
  have hzz : w.heap.size + 2 ≤ w3.heap.size := hz3
  have s0 : ∀ s : Later wa, s.val.cell? ⟨gb, 0, none⟩ = some (.slice P1 k.length p1) := kb.later rfl
  have s1 : ∀ s : Later wa, s.val.cell? ⟨gb, 1, none⟩ = some (.slice P2 lu.length p2) := kb.later rfl
  refine wp_seqL [4] (by as_aux_lemma => kernel_rfl) (by as_aux_lemma => kernel_rfl) fun wb hbb => ?_
  refine seqL_pre 4 (by kernel_rfl) ?_
  simp only [List.take_succ_cons, List.take_zero, List.drop_succ_cons, List.drop_zero]
  repeat (go_big_quiet_step (fail))
  refine wpQuiet_nil ?_
  have kgb := kga.below hbb kga.lt
  refine seqL_wild hbb rfl rfl fun K hK => ?_
  unfold Gives
  go_simp
  refine (tTouches_any g 3 vT _ _ h k lu _ (kgb.cell 3) ((hT.below hBa).below hbb) (rp1.below hbb) (rp2.below hbb)).mono ?_
  rintro e wc ⟨rfl, hbc⟩
  refine ⟨_, rfl, hK _ _ (hbc) fun hbc' => ?_⟩
  clear hK
  clear K
  simp only [Act.put, List.setIfInBounds_toArray, List.set_cons_succ, List.set_cons_zero]
  refine seqL_nil ?_
  have hBc := hBa.trans (hbc'.mono hBa.size)
  have k1c := k1.below hbc' k1.lt
  have k4 := k4.below hbc' k4.lt
  have kgx := kga.below hbc' kga.lt
  have kbc := kb.below hbc' kb.lt
  have rc1 := rp1.below hbc'
  have rc2 := rp2.below hbc'
  clear s0 s1 kgb
  cases hTB : touchB h k lu
  case true =>
    have HE : Hid (giveE lf lu k h ls = 12) := by
      have : giveE lf lu k h ls = 12 := by
        unfold giveE
        rw [HO.out, HF.out, hTB]; rfl
      exact Lib.hid this
    go_upto_region 5 with fail
    refine wp_region_split 1 ?_
    simp only [List.take_succ_cons, List.take_zero, List.drop_succ_cons, List.drop_zero]
    go_wp2
    show wpList _ _ _ _ _ _
    refine wpList_storeB rfl rfl (repCs 12 nl) rfl rfl k4 rfl Try.infoRep (repCs_one rfl) ?_
    intro k4r
    have lv := Blk.loadVar k4r Try.underlying70 rfl Try.infoRep
    have hBr := below_setCells (B := w.heap.size) (a := w) (b := w.heap.size + 1) (by omega) (repCs 12 nl).toList 0 hBc
    have kgr := far_setCells (b := w.heap.size + 1) (by omega) (repCs 12 nl).toList 0 kgx
    generalize hwr : World.setCells wc (w.heap.size + 1) 0 (repCs 12 nl).toList = wr at k4r lv hBr kgr ⊢
    clear hwr
    go_wp2
    refine bodyPost_ret (v := .agg (repCs 12 nl)) ?_ rfl ?_
    · simp [results, Try.results90, Act.put, Sem.run_bind, Sem.run_pure, asAddr_ok, lv]
    · exact by
        unfold GivePost
        rw [HE.out]
        exact ⟨⟨_, rfl, repCs_one rfl, rfl, rfl, _, rfl, RSl.nil_ _ _ _⟩, Kp.of_below hBr, ShGave.no (by decide) kgr⟩
  have HTB := Lib.hid hTB
  clear hTB
  have s0 : ∀ s : Later wc, s.val.cell? ⟨gb, 0, none⟩ = some (.slice P1 k.length p1) := kbc.later rfl
  have s1 : ∀ s : Later wc, s.val.cell? ⟨gb, 1, none⟩ = some (.slice P2 lu.length p2) := kbc.later rfl
  have mg2 : ∀ s : Later wc, s.val.cell? ⟨g, 2, none⟩ = some (.slice A3 ls.length a3) := kgx.later rfl
  go_wp2
  refine wp_seqL [5] (by as_aux_lemma => kernel_rfl) (by as_aux_lemma => kernel_rfl) fun wd hbd => ?_
  refine seqL_pre 5 (by kernel_rfl) ?_
  simp only [List.take_succ_cons, List.take_zero, List.drop_succ_cons, List.drop_zero]
  repeat (go_big_quiet_step (fail))
  refine wpQuiet_nil ?_
  have hBd := hBc.trans (hbd.mono hBc.size)
  refine seqL_wild hbd rfl rfl fun K hK => ?_
  unfold Gives
  go_simp
  refine (part_any _ _ _ ls k lu _ (hl0.below hBd) (rc1.below hbd) (rc2.below hbd)).mono ?_
  rintro e we ⟨⟨vp, rfl, hp⟩, hbe⟩
  refine ⟨_, rfl, hK _ _ (hbe) fun hbe' => ?_⟩
  clear hK
  clear K
  simp only [Act.put, List.setIfInBounds_toArray, List.set_cons_succ, List.set_cons_zero]
  refine seqL_pre 1 (by kernel_rfl) ?_
  simp only [List.take_succ_cons, List.take_zero, List.drop_succ_cons, List.drop_zero]
  repeat (go_big_quiet_step (fail))
  refine wpQuiet_nil ?_
  refine seqL_nil ?_
  have hBe := hBc.trans (hbe'.mono hBc.size)
  have k1e := k1c.below hbe' k1c.lt
  have k4 := k4.below hbe' k4.lt
  have kgx := kgx.below hbe' kgx.lt
  have kbe := kbc.below hbe' kbc.lt
  have re1 := rc1.below hbe'
  have re2 := rc2.below hbe'
  clear s0 s1 mg2
  have hpl := partL_len ls k lu
  obtain ⟨pl, hpl2⟩ : ∃ pl, pl = partL ls k lu := ⟨_, rfl⟩
  have HPL := Lib.hid hpl2
  rw [← hpl2] at hp hpl
  clear hpl2
  obtain ⟨A5, a5, rfl, _, hbd5⟩ := hp.form
  have hbd5' : pl.length * 56 ≤ 140737488351232 := hbd5
  have hp0 : RSl rPair (fun b => (ok b ∧ b < w.heap.size) ∨ (wd.heap.size ≤ b ∧ b < we.heap.size)) we (.slice A5 pl.length a5) pl := hp.mono (by decide) fun b h h2 => h.elim .inl fun h => .inr ⟨h, h2⟩
  have hzd : w.heap.size + 2 ≤ wd.heap.size := by have := kbc.lt; have := hbd.size; omega
  have hzw : w.heap.size ≤ we.heap.size := hBe.size
  clear hp
  go_wp2
  go_loopw [7, 9] (fun vs j wr => ∃ (i : Nat) (sm : Int), i ≤ pl.length ∧ vs = .int .i64 sm ∧ j = .int .i64 (i : Int) ∧ Below we.heap.size we wr ∧ sm = sumP (pl.take i) ∧ 0 ≤ sm ∧ sm ≤ 281474976702484 * (i : Int)) (fun _ j _ => pl.length - (intOf j).toNat)
  case atStart => exact ⟨0, 0, by omega, rfl, rfl, Below.refl _ _, rfl, by omega, by omega⟩
  case round =>
    obtain ⟨i, sm, hi, rfl, rfl, hb, hsm, hs0, hs1⟩ := hrel
    have HSM := Lib.hid hsm
    clear hsm
    by_cases hlt : i < pl.length
    · obtain ⟨b1, off1, c1', cs1, hv1, _, ⟨va, vb, rfl, ha1, ha2, hn64⟩, hcell1⟩ := (hp0.below hb).at_ hlt
      simp only [Value.slice.injEq, true_and] at hv1
      obtain ⟨rfl, rfl⟩ := hv1
      have x0 := hcell1 0 _ rfl
      have x1 := hcell1 1 _ rfl
      simp only [Nat.add_zero, show rPair.sz = 3 from rfl] at x0 x1
      clear hcell1
      obtain ⟨B1, d1, rfl, _, hq1⟩ := ha1.form
      obtain ⟨B2, d2, rfl, _, hq2⟩ := ha2.form
      have hq1' : pl[i].k.length ≤ 140737488351232 := by have : pl[i].k.length * 1 ≤ 140737488351232 := hq1; omega
      have hq2' : pl[i].v.length ≤ 140737488351232 := by have : pl[i].v.length * 1 ≤ 140737488351232 := hq2; omega
      have HT : Hid (sumP (pl.take (i + 1)) = sm + ((pl[i].k.length : Int) + (pl[i].v.length : Int) + 20)) := by
        have : sumP (pl.take (i + 1)) = sm + ((pl[i].k.length : Int) + (pl[i].v.length : Int) + 20) := by
          rw [List.take_succ_eq_append_getElem hlt, sumP_app, HSM.out]
        exact Lib.hid this
      obtain ⟨p, hp⟩ : ∃ p, p = pl[i] := ⟨_, rfl⟩
      rw [← hp] at x0 x1 ha1 ha2 hn64 hq1' hq2' HT
      clear hp hq1 hq2
      have hi1000 : (i : Int) ≤ 1000 := by omega
      have W1 : IntKind.i64.wrap (sm + (p.k.length : Int)) = sm + (p.k.length : Int) := IntWalk.i64_in _ (by omega)
      have W2 : IntKind.i64.wrap (sm + (p.k.length : Int) + (p.v.length : Int)) = sm + (p.k.length : Int) + (p.v.length : Int) := IntWalk.i64_in _ (by omega)
      have W3 : IntKind.i64.wrap (sm + (p.k.length : Int) + (p.v.length : Int) + 20) = sm + (p.k.length : Int) + (p.v.length : Int) + 20 := IntWalk.i64_in _ (by omega)
      have y0 := Later.cell x0
      have y1 := Later.cell x1
      go_wp2
      refine wp_seqL [] (by as_aux_lemma => kernel_rfl) (by as_aux_lemma => kernel_rfl) fun wx hbx => ?_
      refine seqL_pre 17 (by kernel_rfl) ?_
      simp only [List.take_succ_cons, List.take_zero, List.drop_succ_cons, List.drop_zero]
      repeat (go_big_quiet_step (fail))
      refine wpQuiet_nil ?_
      refine seqL_nil ?_
      clear W1 W2 W3 y0 y1 x0 x1
      go_wp2
      go_roundw
      case rel => exact ⟨i + 1, sm + ((p.k.length : Int) + (p.v.length : Int) + 20), by omega, by go_num, by go_num, hb.trans (hbx.mono hb.size), HT.out.symm, by omega, by omega⟩
      case measure => simp [intOf]; omega
    · have hsm2 : sm = sumP pl := by rw [HSM.out, List.take_of_length_le (by omega)]
      have HSS := Lib.hid hsm2
      clear hsm2
      have hBg := hBe.trans (hb.mono hBe.size)
      have k1g := k1e.below hb k1e.lt
      have k4 := k4.below hb k4.lt
      have kgx := kgx.below hb kgx.lt
      have kbg := kbe.below hb kbe.lt
      have rg1 := re1.below hb
      have rg2 := re2.below hb
      have hpg := hp0.below hb
      by_cases hbig : sm > 20000
      · have hd : decide (20000 < sm) = true := decide_eq_true (by omega)
        have HE : Hid (giveE lf lu k h ls = 10) := by
          have : giveE lf lu k h ls = 10 := by
            unfold giveE
            rw [HO.out, HF.out, HTB.out, if_neg (by decide), if_neg (by decide), if_neg (by decide), ← HPL.out, ← HSS.out, if_pos (by omega)]
          exact Lib.hid this
        go_upto_region 14 with fail
        refine wp_region_split 1 ?_
        simp only [List.take_succ_cons, List.take_zero, List.drop_succ_cons, List.drop_zero]
        go_wp2
        show wpList _ _ _ _ _ _
        refine wpList_storeB rfl rfl (repCs 10 nl) rfl rfl k4 rfl Try.infoRep (repCs_one rfl) ?_
        intro k4r
        have lv := Blk.loadVar k4r Try.underlying70 rfl Try.infoRep
        have hBr := below_setCells (B := w.heap.size) (a := w) (b := w.heap.size + 1) (by omega) (repCs 10 nl).toList 0 hBg
        have kgr := far_setCells (b := w.heap.size + 1) (by omega) (repCs 10 nl).toList 0 kgx
        generalize hwr : World.setCells wr (w.heap.size + 1) 0 (repCs 10 nl).toList = wr at k4r lv hBr kgr ⊢
        clear hwr
        go_wp2
        refine bodyPost_ret (v := .agg (repCs 10 nl)) ?_ rfl ?_
        · simp [results, Try.results90, Act.put, Sem.run_bind, Sem.run_pure, asAddr_ok, lv]
        · exact by
            unfold GivePost
            rw [HE.out]
            exact ⟨⟨_, rfl, repCs_one rfl, rfl, rfl, _, rfl, RSl.nil_ _ _ _⟩, Kp.of_below hBr, ShGave.no (by decide) kgr⟩
      have hd : decide (20000 < sm) = false := decide_eq_false (by omega)
      have HE : Hid (giveE lf lu k h ls = 0) := by
        have : giveE lf lu k h ls = 0 := by
          unfold giveE
          rw [HO.out, HF.out, HTB.out, if_neg (by decide), if_neg (by decide), if_neg (by decide), ← HPL.out, ← HSS.out, if_neg hbig]
        exact Lib.hid this
      obtain ⟨wg, rfl⟩ : ∃ x, x = wr := ⟨_, rfl⟩
      clear hbig hs0 hs1 HSM HSS hb k1e kbe re1 re2 hp0 hBe hbe hbe' hBd hbd k1c kbc rc1 rc2 hbc hbc' hBc
      have hbs : wg.heap.size = wg.heap.size := rfl
      clear hbs
      go_wp2
      go_loopw [8, 10] (fun v j wr => ∃ i : Nat, i ≤ ls.length ∧ j = .int .i64 (i : Int) ∧ Below wg.heap.size wg wr ∧ OwnL rPair (fun b => ok b ∧ b < w.heap.size) wg.heap.size 98 wr v (leftL (ls.take i) k lu)) (fun _ j _ => ls.length - (intOf j).toNat)
      case atStart => exact ⟨0, by omega, rfl, Below.refl _ _, OwnL.nil_ _ _ _ _ _⟩
      case round =>
        obtain ⟨i, hi, rfl, hb, hown⟩ := hrel
        have kbr := kbg.below hb kbg.lt
        have kgr := kgx.below hb kgx.lt
        have mg2 : wr.cell? ⟨g, 2, none⟩ = some (.slice A3 ls.length a3) := kgr.cell 2
        by_cases hlt : i < ls.length
        · obtain ⟨b1, off1, c1', cs1, hv1, _, ⟨va, vb, rfl, ha1, ha2, hn64⟩, hcell1⟩ := (hl0.below (hBg.trans (hb.mono hBg.size))).at_ hlt
          simp only [Value.slice.injEq, true_and] at hv1
          obtain ⟨rfl, rfl⟩ := hv1
          have x0 := hcell1 0 _ rfl
          have x1 := hcell1 1 _ rfl
          have x2 := hcell1 2 _ rfl
          simp only [Nat.add_zero, show rPair.sz = 3 from rfl] at x0 x1 x2
          clear hcell1
          obtain ⟨B1, d1, rfl, _, _⟩ := ha1.form
          obtain ⟨B2, d2, rfl, _, _⟩ := ha2.form
          have HT := Lib.hid (leftL_take (f := k) (t := lu) hlt)
          obtain ⟨p, hp⟩ : ∃ p, p = ls[i] := ⟨_, rfl⟩
          rw [← hp] at x0 x1 x2 ha1 ha2 hn64
          rw [← hp] at HT
          clear hp
          have y0 := Later.cell x0
          have mg2l := Later.cell mg2
          have s0 : ∀ s : Later wr, s.val.cell? ⟨gb, 0, none⟩ = some (.slice P1 k.length p1) := kbr.later rfl
          have s1 : ∀ s : Later wr, s.val.cell? ⟨gb, 1, none⟩ = some (.slice P2 lu.length p2) := kbr.later rfl
          go_wp2
          refine wp_seqL [9] (by as_aux_lemma => kernel_rfl) (by as_aux_lemma => kernel_rfl) fun wx hbx => ?_
          refine seqL_pre 9 (by kernel_rfl) ?_
          simp only [List.take_succ_cons, List.take_zero, List.drop_succ_cons, List.drop_zero]
          repeat (go_big_quiet_step (fail))
          refine wpQuiet_nil ?_
          refine seqL_wild hbx rfl rfl fun K hK => ?_
          unfold Gives
          go_simp
          refine (within_any _ _ _ k lu p.k _ ((rg1.below hb).below hbx) ((rg2.below hb).below hbx) (ha1.below hbx)).mono ?_
          rintro e wy ⟨rfl, hby⟩
          refine ⟨_, rfl, hK _ _ (hby) fun hby' => ?_⟩
          clear hK
          clear K
          simp only [Act.put, List.setIfInBounds_toArray, List.set_cons_succ, List.set_cons_zero]
          refine seqL_pre 1 (by kernel_rfl) ?_
          simp only [List.take_succ_cons, List.take_zero, List.drop_succ_cons, List.drop_zero]
          repeat (go_big_quiet_step (fail))
          refine wpQuiet_nil ?_
          refine seqL_nil ?_
          have own2 := hown.below hby'
          have hbs := hb.trans (hby'.mono hb.size)
          have z0 := (hby'.cell (p := ⟨b1, off1 + i * 3, none⟩) (World.block_lt_of_cell? _ _ x0)).trans x0
          have z1 := (hby'.cell (p := ⟨b1, off1 + i * 3 + 1, none⟩) (World.block_lt_of_cell? _ _ x1)).trans x1
          have z2 := (hby'.cell (p := ⟨b1, off1 + i * 3 + 2, none⟩) (World.block_lt_of_cell? _ _ x2)).trans x2
          have mg2y : wy.cell? ⟨g, 2, none⟩ = some (.slice (some ⟨b1, off1, none⟩) ls.length a3) := (kgr.below hby' kgr.lt).cell 2
          have hle := leftL_len (ls.take i) k lu
          have hlk : (ls.take i).length = i := by rw [List.length_take]; omega
          obtain ⟨PL, hPL⟩ : ∃ q, q = leftL (ls.take i) k lu := ⟨_, rfl⟩
          rw [← hPL] at own2 hle HT
          have hzs : wg.heap.size ≤ wy.heap.size := hbs.size
          have hle2 : PL.length ≤ i := by omega
          clear mg2 mg2l s0 s1 y0 x0 x1 x2 hPL hown hle hlk
          cases hW : withinB k lu p.k
          case true =>
            have HW := Lib.hid hW
            clear hW
            go_wp2
            go_roundw
            case rel => exact ⟨i + 1, by omega, by go_num, hbs, by rw [HT.out, HW.out, if_pos rfl]; exact own2⟩
            case measure => simp [intOf]; omega
          have HW := Lib.hid hW
          clear hW
          have hne : ∀ b, (ok b ∧ b < w.heap.size) → b < wy.heap.size → (ok b ∧ b < w.heap.size) ∧ some b ≠ u8.ownBlock := fun b h _ => ⟨h, fun e => by have := (own2.lt b e.symm).1; have := h.2; have := hBg.size; omega⟩
          have y1 := (ha1.below hby').mono (by decide) hne
          have y2 := (ha2.below hby').mono (by decide) hne
          go_wp2_with (at_builtin; go_loud (refine wp_app1 (E := rPair) (okd := fun b => ok b ∧ b < w.heap.size) Try.rowPair (by decide) rfl _ _ rfl u8 PL wy _ p rfl own2 rfl ⟨_, _, rfl, y1, y2, hn64⟩ (by show (_ + 1) * 56 ≤ _; omega) (by omega) hzs ?_); intro v' w2 hown2 hk2 _)
          have hbel := own2.bel hk2 hzs
          go_wp2
          go_roundw
          case rel => exact ⟨i + 1, by omega, by go_num, hbs.trans (hbel.mono (by omega)), by rw [HT.out, HW.out, if_neg (by decide)]; exact hown2⟩
          case measure => simp [intOf]; omega
        · rw [List.take_of_length_le (by omega)] at hown
          have hle := leftL_len ls k lu
          have hleft := hown.rsl (ok := fun b => (ok b ∧ b < w.heap.size) ∨ wg.heap.size ≤ b) (by decide) (by show (leftL ls k lu).length * 56 ≤ _; omega) (fun b h => .inr (by omega)) (fun b h => .inl h)
          obtain ⟨ll, hll⟩ : ∃ q, q = leftL ls k lu := ⟨_, rfl⟩
          have HLL := Lib.hid hll
          rw [← hll] at hleft
          clear hll hle hown
          obtain ⟨A8, a8, rfl, _, _⟩ := hleft.form
          have hBh := hBg.trans (hb.mono hBg.size)
          obtain ⟨wh, rfl⟩ : ∃ x, x = wr := ⟨_, rfl⟩
          have k1h := k1g.below hb k1g.lt
          have q7 : wh.cell? ⟨w.heap.size, 7, none⟩ = some (.slice A7 k.length a7) := (k1h.cell 7).trans c7
          go_wp2_with fail
          refine (copy_rb _ k _ (hk.below hBh)).mono ?_
          rintro e wi ⟨⟨y, rfl, hy⟩, hbi⟩
          obtain ⟨A9, a9, rfl, _, _⟩ := hy.form
          have hBi := hBh.trans (hbi.mono hBh.size)
          have kgi := kgr.below hbi kgr.lt
          have kbi := kbr.below hbi kbr.lt
          have k4i := (k4.below hb k4.lt).below hbi (k4.below hb k4.lt).lt
          have hpi := (hpg.below hb).below hbi
          have hlefti := hleft.below hbi
          clear q7 mg2
          have fg := fun i => kgi.frozen i
          obtain ⟨t0, t1⟩ := And.intro (kbi.cell 0) (kbi.cell 1)
          simp at t0 t1
          have v1 : wi.cell? ⟨g, 1, none⟩ = some (.slice A2 lu.length a2) := kgi.cell 1
          have v2 : wi.cell? ⟨g, 2, none⟩ = some (.slice A3 ls.length a3) := kgi.cell 2
          have v6 : wi.cell? ⟨g, 6, none⟩ = some f1 := kgi.cell 6
          have v7 : wi.cell? ⟨g, 7, none⟩ = some f2 := kgi.cell 7
          have v8 : wi.cell? ⟨g, 8, none⟩ = some gone := kgi.cell 8
          have hne : w.heap.size + 1 ≠ g := by omega
          have hgbg : gb ≠ g := by omega
          have kgf := ((((kgi.set_ 2 (.slice A8 ll.length a8)).set_ 1 (.slice A9 k.length a9)).set_ 6 (.slice P1 k.length p1)).set_ 7 (.slice P2 lu.length p2)).set_ 8 (.slice A5 pl.length a5)
          have hkf : Kp (fun b => b ≠ g) wi (((((wi.setCell ⟨g, 2, none⟩ (.slice A8 ll.length a8)).setCell ⟨g, 1, none⟩ (.slice A9 k.length a9)).setCell ⟨g, 6, none⟩ (.slice P1 k.length p1)).setCell ⟨g, 7, none⟩ (.slice P2 lu.length p2)).setCell ⟨g, 8, none⟩ (.slice A5 pl.length a5)) :=
            (((((Kp.refl _ _).setCell (fun _ h => h rfl) _).setCell (fun _ h => h rfl) _).setCell (fun _ h => h rfl) _).setCell (fun _ h => h rfl) _).setCell (fun _ h => h rfl) _
          have hKf := (Kp.of_below hBi (ok := fun b => b ≠ g)).trans hkf
          have hpi2 := hpi.kp (hkf.mono fun b h => h.elim (fun h => hok b h.1) fun h => by have := hBi.size; omega)
          have hli2 := hlefti.kp (hkf.mono fun b h => h.elim (fun h => hok b h.1) fun h => by have := hBg.size; omega)
          have hy2 := (hy.mono (ok' := fun b => w.heap.size + 2 ≤ b) (by decide) fun b h _ => by have := (k4.below hb k4.lt).lt; omega).kp (hkf.mono fun b h => by intro e; omega)
          have k4f := k4i.kp hkf hne
          go_upto_region 22 with fail
          refine name_world (fun wj => Kp (fun b => b ≠ g) w wj ∧ Blk wj g 90 (shCs (.slice A1 lf.length a1) (.slice A9 k.length a9) (.slice A8 ll.length a8) vT n over (.slice P1 k.length p1) (.slice P2 lu.length p2) (.slice A5 pl.length a5)) ∧ Blk wj (w.heap.size + 1) 70 (repCs 0 nl) ∧ RB (fun b => w.heap.size + 2 ≤ b) wj (.slice A9 k.length a9) k ∧
            RSl rPair (fun b => (ok b ∧ b < w.heap.size) ∨ wg.heap.size ≤ b) wj (.slice A8 ll.length a8) ll ∧ RSl rPair (fun b => b < wj.heap.size) wj (.slice A5 pl.length a5) pl) ⟨hKf, by simpa using kgf, k4f, hy2, hli2, hpi2.mono (by decide) fun b _ h => h⟩ ?_
          clear hKf kgf k4f hy2 hli2 hpi2 hkf v1 v2 v6 v7 v8 t0 t1 fg hlefti hpi k4i kbi kgi hBi hbi hy hleft hpg rg1 rg2 kbg kgx k1g hb kbr kgr
          rintro wj ⟨hKj, kgj, k4j, hyj, hlj, hpj⟩
          have hzj : w.heap.size + 2 ≤ wj.heap.size := by have := hKj.size; have := k4j.lt; omega
          have hzg : w.heap.size + 2 ≤ wg.heap.size := k4.lt
          go_wp2
          go_loopw [11, 12] (fun v j wr => ∃ i : Nat, i ≤ pl.length ∧ j = .int .i64 (i : Int) ∧ Below wj.heap.size wj wr ∧ OwnL rPair (fun b => wj.heap.size ≤ b) wj.heap.size 98 wr v (pl.take i)) (fun _ j _ => pl.length - (intOf j).toNat)
          case atStart => exact ⟨0, by omega, rfl, Below.refl _ _, OwnL.nil_ _ _ _ _ _⟩
          case round =>
            obtain ⟨i, hi, rfl, hb, hown⟩ := hrel
            by_cases hlt : i < pl.length
            · obtain ⟨b1, off1, c1', cs1, hv1, _, ⟨va, vb, rfl, ha1, ha2, hn64⟩, hcell1⟩ := (hpj.below hb).at_ hlt
              simp only [Value.slice.injEq, true_and] at hv1
              obtain ⟨rfl, rfl⟩ := hv1
              have x0 := hcell1 0 _ rfl
              have x1 := hcell1 1 _ rfl
              have x2 := hcell1 2 _ rfl
              simp only [Nat.add_zero, show rPair.sz = 3 from rfl] at x0 x1 x2
              clear hcell1
              obtain ⟨B1, d1, rfl, _, _⟩ := ha1.form
              obtain ⟨B2, d2, rfl, _, _⟩ := ha2.form
              have HT := Lib.hid (List.take_succ_eq_append_getElem hlt)
              obtain ⟨p, hp⟩ : ∃ p, p = pl[i] := ⟨_, rfl⟩
              rw [← hp] at x0 x1 x2 ha1 ha2 hn64
              rw [← hp] at HT
              clear hp
              have hlk : (pl.take i).length = i := by rw [List.length_take]; omega
              obtain ⟨PL, hPL⟩ : ∃ q, q = pl.take i := ⟨_, rfl⟩
              rw [← hPL] at hown hlk HT
              have hle2 : PL.length ≤ i := by omega
              clear hPL hlk
              go_wp2_with fail
              refine (copyPair_any _ _ p _ ha1 ha2).mono ?_
              rintro e w9 ⟨⟨E1, e3, E2, e4, rfl, g1, g2⟩, hb9⟩
              have own2 := hown.below hb9
              have hbs := hb.trans (hb9.mono hb.size)
              have hzr : wj.heap.size ≤ wr.heap.size := hb.size
              have hzs : wj.heap.size ≤ w9.heap.size := hbs.size
              have hlt2 : ∀ b, u11.ownBlock = some b → b < wr.heap.size := fun b h => (hown.lt b h).2
              have y1 := g1.mono (ok' := fun b => wj.heap.size ≤ b ∧ some b ≠ u11.ownBlock) (by decide) fun b h _ => ⟨Nat.le_trans hzr h, fun e => by have := hlt2 b e.symm; have : wr.heap.size ≤ b := h; omega⟩
              have y2 := g2.mono (ok' := fun b => wj.heap.size ≤ b ∧ some b ≠ u11.ownBlock) (by decide) fun b h _ => ⟨Nat.le_trans hzr h, fun e => by have := hlt2 b e.symm; have : wr.heap.size ≤ b := h; omega⟩
              clear x0 x1 x2 hown hlt2
              go_wp2_with (at_builtin; go_loud (refine wp_app1 (E := rPair) (okd := fun b => wj.heap.size ≤ b) Try.rowPair (by decide) rfl _ _ rfl u11 PL w9 _ p rfl own2 rfl ⟨_, _, rfl, y1, y2, hn64⟩ (by show (_ + 1) * 56 ≤ _; omega) (by omega) hzs ?_); intro v' w2 hown2 hk2 _)
              have hbel := own2.bel hk2 hzs
              go_wp2
              go_roundw
              case rel => exact ⟨i + 1, by omega, by go_num, hbs.trans (hbel.mono (by omega)), by rw [HT.out]; exact hown2⟩
              case measure => simp [intOf]; omega
            · rw [List.take_of_length_le (by omega)] at hown
              have hout := hown.rsl (ok := fun b => wj.heap.size ≤ b) (by decide) (by show pl.length * 56 ≤ _; omega) (fun b h => h) (fun b h => h)
              have k4k := k4j.below hb k4j.lt
              have kgk := kgj.below hb kgj.lt
              obtain ⟨AO, ao, rfl, _, _⟩ := hout.form
              have hyk := hyj.below hb
              have hlk := hlj.below hb
              have hKk := hKj.trans (Kp.of_below hb (ok := fun b => b ≠ g))
              obtain ⟨wk, rfl⟩ : ∃ x, x = wr := ⟨_, rfl⟩
              clear hown
              go_upto_region 27 with fail
              refine wp_region_split 2 ?_
              simp only [List.take_succ_cons, List.take_zero, List.drop_succ_cons, List.drop_zero]
              go_wp2
              show wpList _ _ _ _ _ _
              refine wpList_storeB rfl rfl (repCs 0 (.slice AO pl.length ao)) rfl rfl k4k rfl Try.infoRep (repCs_one rfl) ?_
              intro k4r
              have lv := Blk.loadVar k4r Try.underlying70 rfl Try.infoRep
              have hKr := Kp.setCells (ok := fun b => b ≠ g) (a := w) (b := w.heap.size + 1) (fun h => by omega) (repCs 0 (.slice AO pl.length ao)).toList 0 hKk
              have hKz := Kp.setCells (ok := fun b => b ≠ w.heap.size + 1) (a := wk) (b := w.heap.size + 1) (fun _ h => h rfl) (repCs 0 (.slice AO pl.length ao)).toList 0 (Kp.refl _ _)
              have kgr := far_setCells (b := w.heap.size + 1) (by omega) (repCs 0 (.slice AO pl.length ao)).toList 0 kgk
              generalize hwr : World.setCells wk (w.heap.size + 1) 0 (repCs 0 (.slice AO pl.length ao)).toList = wz at k4r lv hKr kgr hKz ⊢
              clear hwr
              have hyz : RB (fun b => w.heap.size ≤ b) wz (.slice A9 k.length a9) k := (hyk.kp (hKz.mono fun b h => by intro e; omega)).mono (by decide) fun b h _ => by omega
              go_wp2
              refine bodyPost_ret (v := .agg (repCs 0 (.slice AO pl.length ao))) ?_ rfl ?_
              · simp [results, Try.results90, Act.put, Sem.run_bind, Sem.run_pure, asAddr_ok, lv]
              · unfold GivePost ShGave
                rw [HE.out, if_pos rfl, if_pos rfl, ← HPL.out, ← HLL.out]
                exact ⟨⟨_, rfl, repCs_one rfl, rfl, rfl, _, rfl, (hout.mono (ok' := fun b => w.heap.size + 2 ≤ b) (by decide) fun b h _ => Nat.le_trans hzj h).kp (hKz.mono fun b h => by intro e; omega) |>.mono (by decide) fun b h _ => by omega⟩, hKr, _, _, _, _, _, kgr, hyz, (hlk.kp (hKz.mono fun b h => by intro e; exact h.elim (fun h => by omega) fun h => by omega)).mono (by decide) fun b h _ => h.elim (fun h => .inl h.1) fun h => .inr (by omega)⟩
end Go.Proofs.Ytikkknaofiafhaa
