/- A region that draws its order, whose operations that touch memory wait for one another in their text's order, but for some that lay out blocks of their own and may come earlier: walked as its text stands. No program in sight. -/
import Derived.Test.YtnlhjhpikjmoaaaGreatDoorSeq
namespace Go.Proofs.YtnlhjhpikjmoaaaGreatDoor
open Go.RowKit
section
variable (P : Program) (ops : Array Oper) (C0 C1 : World → Prop) (f : Nat) (wild fl : List Nat) (w0 : World) (bad : Nat → Prop)
def keepB (M : Nat → Prop) (b : Nat) : Prop := (b < w0.heap.size ∧ ¬ bad b) ∨ (w0.heap.size ≤ b ∧ ¬ M b)
def Lays (o : Oper) (a : Act) (mk : Nat → Value) (obj : Obj) : Prop := ∀ w', C1 w' → (execOp a.eval o).run P w' = .ok (.value (mk w'.heap.size)) (w'.alloc obj)
def wpSeqG (Q : Act → World → Prop) : Nat → List Oper → Act → (Nat → Prop) → World → Prop
  | _, [], a, _, w => Q a w
  | k, o :: rest, a, M, w =>
    if Region.wanted o (yielded ops a.tmps) = true then
      (if k ∈ wild then ∀ w', Below w.heap.size w w' → (fl.all (fun j => decide (j < k)) = true → w' = w) →
          Gives P o a w' fun x w'' => (if k < f then C0 w'' else C1 w'') ∧ Kp (keepB w0 bad M) w' w'' ∧ wpSeqG Q (k + 1) rest (a.put o.dst x) (fun b => M b ∨ (w'.heap.size ≤ b ∧ b < w''.heap.size)) w''
       else if k ∈ fl then ∃ mk obj, Lays P C1 o a mk obj ∧
          ∀ g w', w0.heap.size ≤ g → ¬ M g → w'.heap[g]? = some obj → Below w.heap.size w w' → wpSeqG Q (k + 1) rest (a.put o.dst (mk g)) (fun b => M b ∨ b = g) w'
       else ∃ u, (∀ w', seqK ops C0 C1 f k w' → StillAt P o a w' u) ∧ wpSeqG Q (k + 1) rest (a.put o.dst u) M w)
    else wpSeqG Q (k + 1) rest (a.put o.dst undef) M w
structure FlRec where
  W : Bool
  Wd : World
  O : Obj
def FlRec.g (r : FlRec) : Nat := r.Wd.heap.size
structure FlOK (a0 : Act) (L : Nat → Bool) (e : Nat → Value) (R : Nat → FlRec) (M : Nat → Prop) (wa : World) (i : Nat) : Prop where
  run : ∀ o, ops[i]? = some o → ∀ e' : Nat → Value, (∀ k, L k = true → e' k = e k) → wantedAt ops a0 e' i o = (R i).W ∧ ((R i).W = true → (execOp (fr ops a0 (fun _ => true) e' i).eval o).run P (R i).Wd = .ok (.value (e i)) ((R i).Wd.alloc (R i).O))
  off : (R i).W = false → e i = undef
  cls : (R i).W = true → C1 (R i).Wd
  low : (R i).W = true → w0.heap.size ≤ (R i).g
  mine : (R i).W = true → ¬ M (R i).g
  blk : (R i).W = true → wa.heap[(R i).g]? = some (R i).O
structure Fls (a0 : Act) (L : Nat → Bool) (e : Nat → Value) (R : Nat → FlRec) (M : Nat → Prop) (wa : World) (k : Nat) : Prop where
  ok : ∀ i ∈ fl, k ≤ i → L i = true → FlOK P ops C1 w0 a0 L e R M wa i
  apart : ∀ i ∈ fl, ∀ j ∈ fl, k ≤ i → k ≤ j → i ≠ j → L i = true → L j = true → (R i).W = true → (R j).W = true → (R i).g ≠ (R j).g
def FF (a0 : Act) (e : Nat → Value) (i : Nat) : Prop := ∀ o, ops[i]? = some o → wantedAt ops a0 e i o = true → ∃ mk obj, Lays P C1 o (fr ops a0 (fun _ => true) e i) mk obj
end
section
variable {P : Program} {ops : Array Oper} {C0 C1 : World → Prop} {f : Nat} {wild fl : List Nat} {Q : Act → World → Prop} {a0 : Act} {w0 : World} {bad : Nat → Prop}
theorem alloc_inj {w : World} {o o' : Obj} (h : w.alloc o = w.alloc o') : o = o' := by
  have h1 := heap_alloc_new w o
  have h2 := heap_alloc_new w o'
  rw [h, h2] at h1
  exact (Option.some.inj h1).symm
theorem get_lt {w : World} {g : Nat} {o : Obj} (h : w.heap[g]? = some o) : g < w.heap.size := (Array.getElem?_eq_some_iff.1 h).1
theorem Fls.step {L : Nat → Bool} {e : Nat → Value} {R : Nat → FlRec} {M : Nat → Prop} {wa : World} {k : Nat} (h : Fls P ops C1 fl w0 a0 L e R M wa k) : Fls P ops C1 fl w0 a0 L e R M wa (k + 1) :=
  ⟨fun i hi hk => h.ok i hi (by omega), fun i hi j hj h1 h2 => h.apart i hi j hj (by omega) (by omega)⟩
theorem Fls.visit {L : Nat → Bool} {e : Nat → Value} {R : Nat → FlRec} {M : Nat → Prop} {wa : World} {k : Nat} (h : Fls P ops C1 fl w0 a0 L e R M wa k) (hk : k ∈ fl) (hL : L k = true) (hW : (R k).W = true) : Fls P ops C1 fl w0 a0 L e R (fun b => M b ∨ b = (R k).g) wa (k + 1) := by
  refine ⟨fun i hi hik hLi => ?_, h.step.apart⟩
  have hf := h.ok i hi (by omega) hLi
  have hm : (R i).W = true → ¬ (M (R i).g ∨ (R i).g = (R k).g) := fun hw hm => by
    rcases hm with hm | hm
    · exact hf.mine hw hm
    · exact h.apart i hi k hk (by omega) (Nat.le_refl _) (by omega) hLi hL hw hW hm
  exact { hf with mine := hm }
theorem Fls.chain {L : Nat → Bool} {e : Nat → Value} {R : Nat → FlRec} {M : Nat → Prop} {wa wb : World} {k : Nat} (h : Fls P ops C1 fl w0 a0 L e R M wa k) (hK : Kp (keepB w0 bad M) wa wb) : Fls P ops C1 fl w0 a0 L e R (fun b => M b ∨ (wa.heap.size ≤ b ∧ b < wb.heap.size)) wb (k + 1) := by
  refine ⟨fun i hi hik hLi => ?_, h.step.apart⟩
  have hf := h.ok i hi (by omega) hLi
  have hm : (R i).W = true → ¬ (M (R i).g ∨ (wa.heap.size ≤ (R i).g ∧ (R i).g < wb.heap.size)) := fun hw hm => by
    rcases hm with hm | hm
    · exact hf.mine hw hm
    · have := get_lt (hf.blk hw); omega
  have hb : (R i).W = true → wb.heap[(R i).g]? = some (R i).O := fun hw => by
    rw [hK.block _ (get_lt (hf.blk hw)) (.inr ⟨hf.low hw, hf.mine hw⟩)]
    exact hf.blk hw
  exact { hf with mine := hm, blk := hb }
theorem Fls.none {L : Nat → Bool} {e : Nat → Value} {R : Nat → FlRec} {M : Nat → Prop} {wa : World} {k : Nat} (h : ∀ i ∈ fl, k ≤ i → L i = false) : Fls P ops C1 fl w0 a0 L e R M wa k :=
  ⟨(fun i hi hk hL => by rw [h i hi hk] at hL; cases hL), (fun i hi j hj h1 h2 _ hL => by rw [h i hi h1] at hL; cases hL)⟩
variable {L : Nat → Bool} {e : Nat → Value} {R : Nat → FlRec}
theorem agree_upd {e1 : Nat → Value} {k : Nat} {u : Value} (he : ∀ i, i < k → L i = true → e1 i = e i) (hu : L k = true → u = e k) : ∀ i, i < k + 1 → L i = true → upd e1 k u i = e i := fun i hi hL => by
  by_cases hik : i = k
  · subst hik; simpa [upd] using hu hL
  · simp only [upd, hik, if_false]; exact he i (by omega) hL
theorem agree_ext {e1 : Nat → Value} {k : Nat} (he : ∀ i, i < k → L i = true → e1 i = e i) : ∀ i, L i = true → (fun j => if j < k then e1 j else e j) i = e i := fun i hL => by
  by_cases h : i < k
  · simp only [h, if_true]; exact he i h hL
  · simp only [h, if_false]
theorem FlOK.at_ {M : Nat → Prop} {wa : World} {i : Nat} {o : Oper} {e1 : Nat → Value} (h : FlOK P ops C1 w0 a0 L e R M wa i) (ho : ops[i]? = some o) (he : ∀ k, k < i → L k = true → e1 k = e k) :
    wantedAt ops a0 e1 i o = (R i).W ∧ ((R i).W = true → (execOp (fr ops a0 (fun _ => true) e1 i).eval o).run P (R i).Wd = .ok (.value (e i)) ((R i).Wd.alloc (R i).O)) := by
  have := h.run o ho _ (agree_ext he)
  rw [wanted_congr (e' := e1) (fun k hk => by simp [hk]), fr_all_congr i (e' := e1) (fun k hk => by simp [hk])] at this
  exact this
theorem FlOK.lays {M : Nat → Prop} {wa : World} {i : Nat} {o : Oper} {e1 : Nat → Value} {mk : Nat → Value} {obj : Obj} (h : FlOK P ops C1 w0 a0 L e R M wa i) (ho : ops[i]? = some o) (he : ∀ k, k < i → L k = true → e1 k = e k) (hW : (R i).W = true) (hl : Lays P C1 o (fr ops a0 (fun _ => true) e1 i) mk obj) : mk (R i).g = e i ∧ obj = (R i).O := by
  have h1 := (h.at_ ho he).2 hW
  rw [hl _ (h.cls hW)] at h1
  simp only [Result.ok.injEq, Next.value.injEq] at h1
  exact ⟨h1.1, alloc_inj h1.2⟩
theorem seqG_roll : ∀ (l : List Oper) (k : Nat) (e1 : Nat → Value) (M : Nat → Prop) (w wa : World), ops.toList.drop k = l → k ≤ ops.size → (∀ i, i < k → L i = true → e1 i = e i) → (∀ i, k ≤ i → i ∉ wild → i ∉ fl → L i = true → EF P ops C0 C1 f a0 L e i) →
    (∀ i ∈ wild, k ≤ i → L i = false) → Fls P ops C1 fl w0 a0 L e R M wa k → Below w.heap.size w wa → ((∀ i ∈ fl, k ≤ i → L i = true → (R i).W = false) → w = wa) → (∀ b, M b → b < w.heap.size) →
    wpSeqG P ops C0 C1 f wild fl w0 bad Q k l (fr ops a0 (fun _ => true) e1 k) M w →
    ∃ s e2 M2 w2, k ≤ s ∧ s ≤ ops.size ∧ (s < ops.size → (s ∈ wild ∨ s ∈ fl) ∧ L s = false) ∧ (∀ i, i < k → e2 i = e1 i) ∧ (∀ i, k ≤ i → i < s → i ∉ wild ∧ (i ∈ fl → L i = true) ∧ (i ∉ fl → QF P ops C0 C1 f a0 e2 i) ∧ (L i = true → e2 i = e i)) ∧
      Fls P ops C1 fl w0 a0 L e R M2 wa s ∧ Below w2.heap.size w2 wa ∧ ((∀ i ∈ fl, s ≤ i → L i = true → (R i).W = false) → w2 = wa) ∧ (∀ b, M2 b → b < w2.heap.size) ∧ w.heap.size ≤ w2.heap.size ∧
      wpSeqG P ops C0 C1 f wild fl w0 bad Q s (ops.toList.drop s) (fr ops a0 (fun _ => true) e2 s) M2 w2
  | [], k, e1, M, w, wa, hl, hk, _, _, _, hF, hB, hX, hM, h => by
    have : ops.size ≤ k := by simpa using List.drop_eq_nil_iff.1 hl
    exact ⟨k, e1, M, w, Nat.le_refl _, hk, fun h => by omega, fun _ _ => rfl, fun i h1 h2 => by omega, hF, hB, hX, hM, Nat.le_refl _, by rw [hl]; exact h⟩
  | o :: l, k, e1, M, w, wa, hl, hk, he, hE, hW, hF, hB, hX, hM, h => by
    by_cases hst : (k ∈ wild ∨ k ∈ fl) ∧ L k = false
    · exact ⟨k, e1, M, w, Nat.le_refl _, hk, fun _ => hst, fun _ _ => rfl, fun i h1 h2 => by omega, hF, hB, hX, hM, Nat.le_refl _, by rw [hl]; exact h⟩
    obtain ⟨ho, hl', hlt⟩ := drop_cons hl
    have hkw : k ∉ wild := fun hn => hst ⟨.inl hn, hW k hn (Nat.le_refl _)⟩
    have hkL : k ∈ fl → L k = true := fun hn => by
      cases hc : L k with
      | true => rfl
      | false => exact absurd ⟨.inr hn, hc⟩ hst
    have key : ∃ u M1 w1, (k ∉ fl → ((wantedAt ops a0 e1 k o = true ∧ ∀ w', seqK ops C0 C1 f k w' → StillAt P o (fr ops a0 (fun _ => true) e1 k) w' u) ∨ (wantedAt ops a0 e1 k o = false ∧ u = undef))) ∧ (L k = true → u = e k) ∧
        Fls P ops C1 fl w0 a0 L e R M1 wa (k + 1) ∧ Below w1.heap.size w1 wa ∧ ((∀ i ∈ fl, k + 1 ≤ i → L i = true → (R i).W = false) → w1 = wa) ∧ (∀ b, M1 b → b < w1.heap.size) ∧ w.heap.size ≤ w1.heap.size ∧ wpSeqG P ops C0 C1 f wild fl w0 bad Q (k + 1) l ((fr ops a0 (fun _ => true) e1 k).put o.dst u) M1 w1 := by
      unfold wpSeqG at h
      rw [show Region.wanted o (yielded ops (fr ops a0 (fun _ => true) e1 k).tmps) = wantedAt ops a0 e1 k o from rfl] at h
      by_cases hf : k ∈ fl
      · have hfo := hF.ok k hf (Nat.le_refl _) (hkL hf)
        have hat := hfo.at_ ho he
        cases hwt : (R k).W with
        | true =>
          rw [hat.1, hwt, if_pos rfl, if_neg hkw, if_pos hf] at h
          obtain ⟨mk, obj, h1, h2⟩ := h
          obtain ⟨g1, g2⟩ := hfo.lays ho he hwt h1
          have hb := hfo.blk hwt
          rw [← g2] at hb
          have h3 := h2 (R k).g wa (hfo.low hwt) (hfo.mine hwt) hb hB
          rw [g1] at h3
          refine ⟨e k, _, wa, fun hn => absurd hf hn, fun _ => rfl, hF.visit hf (hkL hf) hwt, Below.refl _ _, fun _ => rfl, fun b hb' => ?_, hB.size, h3⟩
          rcases hb' with hb' | rfl
          · exact Nat.lt_of_lt_of_le (hM b hb') hB.size
          · exact get_lt hb
        | false =>
          rw [hat.1, hwt, if_neg (by decide)] at h
          exact ⟨undef, M, w, fun hn => absurd hf hn, fun _ => (hfo.off hwt).symm, hF.step, hB, fun hno => hX fun i hi hik hLi => by
            by_cases hik' : i = k
            · subst hik'; exact hwt
            · exact hno i hi (by omega) hLi, hM, Nat.le_refl _, h⟩
      · have next : ∀ u, ((wantedAt ops a0 e1 k o = true ∧ ∀ w', seqK ops C0 C1 f k w' → StillAt P o (fr ops a0 (fun _ => true) e1 k) w' u) ∨ (wantedAt ops a0 e1 k o = false ∧ u = undef)) → wpSeqG P ops C0 C1 f wild fl w0 bad Q (k + 1) l ((fr ops a0 (fun _ => true) e1 k).put o.dst u) M w → _ := fun u hq h2 =>
          (⟨u, M, w, fun _ => hq, fun hL => (hE k (Nat.le_refl _) hkw hf hL).val ho he hq, hF.step, hB, fun hno => hX fun i hi hik => hno i hi (by
            rcases Nat.eq_or_lt_of_le hik with h | h
            · subst h; exact absurd hi hf
            · exact h), hM, Nat.le_refl _, h2⟩ : ∃ u M1 w1, (k ∉ fl → ((wantedAt ops a0 e1 k o = true ∧ ∀ w', seqK ops C0 C1 f k w' → StillAt P o (fr ops a0 (fun _ => true) e1 k) w' u) ∨ (wantedAt ops a0 e1 k o = false ∧ u = undef))) ∧ (L k = true → u = e k) ∧
        Fls P ops C1 fl w0 a0 L e R M1 wa (k + 1) ∧ Below w1.heap.size w1 wa ∧ ((∀ i ∈ fl, k + 1 ≤ i → L i = true → (R i).W = false) → w1 = wa) ∧ (∀ b, M1 b → b < w1.heap.size) ∧ w.heap.size ≤ w1.heap.size ∧ wpSeqG P ops C0 C1 f wild fl w0 bad Q (k + 1) l ((fr ops a0 (fun _ => true) e1 k).put o.dst u) M1 w1)
        rcases Bool.eq_false_or_eq_true (wantedAt ops a0 e1 k o) with hwt | hwt
        · rw [hwt, if_pos rfl, if_neg hkw, if_neg hf] at h
          obtain ⟨u, h1, h2⟩ := h
          exact next u (.inl ⟨hwt, h1⟩) h2
        · rw [hwt, if_neg (by decide)] at h
          exact next undef (.inr ⟨hwt, rfl⟩) h
    obtain ⟨u, M1, w1, hq, hu, hF1, hB1, hX1, hM1, hz1, h2⟩ := key
    rw [← fr_step ho u] at h2
    obtain ⟨s, e2, M2, w2, s1, s2, s3, s4, s5, s6, s7, s8, s9, s10, s11⟩ := seqG_roll l (k + 1) (upd e1 k u) M1 w1 wa hl' hlt (agree_upd he hu) (fun i hi => hE i (by omega)) (fun i hi h => hW i hi (by omega)) hF1 hB1 hX1 hM1 h2
    have hbel : ∀ i, i < k → e2 i = e1 i := fun i hi => by rw [s4 i (by omega)]; simp [upd]; omega
    have hk2 : e2 k = u := by rw [s4 k (by omega)]; simp [upd]
    refine ⟨s, e2, M2, w2, by omega, s2, s3, hbel, fun i h3 h4 => ?_, s6, s7, s8, s9, Nat.le_trans hz1 s10, s11⟩
    by_cases hik : i = k
    · subst hik
      refine ⟨hkw, hkL, fun hf o' ho' => ?_, fun hL => by rw [hk2]; exact hu hL⟩
      rw [ho] at ho'
      cases ho'
      rw [wanted_congr (e' := e1) hbel, fr_all_congr i (e' := e1) hbel, hk2]
      rcases hq hf with ⟨q1, q2⟩ | ⟨q1, q2⟩
      · exact ⟨fun _ => q2, fun h => by rw [q1] at h; cases h⟩
      · exact ⟨(fun h => by rw [q1] at h; cases h), fun _ => q2⟩
    · exact s5 i (by omega) h4
theorem seqG_find (hC1 : ∀ w w', C1 w → Below w.heap.size w w' → C1 w') (j : Nat) (hjw : j ∉ wild) (hjs : j < ops.size) : ∀ (l : List Oper) (k : Nat) (e1 : Nat → Value) (M : Nat → Prop) (w wx : World), ops.toList.drop k = l → k ≤ j → (∀ i, i < k → L i = true → e1 i = e i) →
    (∀ i, k ≤ i → i ∉ wild → i ∉ fl → L i = true → EF P ops C0 C1 f a0 L e i) → (∀ i ∈ wild, k ≤ i → L i = false) → (j ∈ fl → L j = false) → Fls P ops C1 fl w0 a0 L e R M wx k → Below w.heap.size w wx → ((∀ i ∈ fl, k ≤ i → L i = true → (R i).W = false) → w = wx) → (∀ b, M b → b < w.heap.size) → w0.heap.size ≤ w.heap.size → C1 wx → (∀ w', C0 w' → C1 w') →
    wpSeqG P ops C0 C1 f wild fl w0 bad Q k l (fr ops a0 (fun _ => true) e1 k) M w →
    ∃ e2, (∀ i, i < k → e2 i = e1 i) ∧ (∀ i, i < j → L i = true → e2 i = e i) ∧ (j ∉ fl → QF P ops C0 C1 f a0 e2 j) ∧ (j ∈ fl → FF P ops C1 a0 e2 j)
  | [], k, e1, M, w, wx, hl, hk, _, _, _, _, _, _, _, _, _, _, _, h => by
    have : ops.size ≤ k := by simpa using List.drop_eq_nil_iff.1 hl
    omega
  | o :: l, k, e1, M, w, wx, hl, hk, he, hE, hW, hjf, hF, hB, hX, hM, hlo, hC, h01, h => by
    obtain ⟨ho, hl', hlt⟩ := drop_cons hl
    unfold wpSeqG at h
    rw [show Region.wanted o (yielded ops (fr ops a0 (fun _ => true) e1 k).tmps) = wantedAt ops a0 e1 k o from rfl] at h
    by_cases hjk : j = k
    · subst hjk
      by_cases hf : j ∈ fl
      · refine ⟨e1, fun _ _ => rfl, fun i hi hL => he i hi hL, fun hn => absurd hf hn, fun _ o' ho' hwt => ?_⟩
        rw [ho] at ho'
        cases ho'
        rw [hwt, if_pos rfl, if_neg hjw, if_pos hf] at h
        obtain ⟨mk, obj, h1, _⟩ := h
        exact ⟨mk, obj, h1⟩
      · cases hwt : wantedAt ops a0 e1 j o with
        | true =>
          rw [hwt, if_pos rfl, if_neg hjw, if_neg hf] at h
          obtain ⟨u, h1, _⟩ := h
          have hbel : ∀ i, i < j → upd e1 j u i = e1 i := fun i hi => by simp [upd]; omega
          refine ⟨upd e1 j u, hbel, fun i hi hL => by rw [hbel i hi]; exact he i hi hL, fun _ o' ho' => ?_, fun hn => absurd hn hf⟩
          rw [ho] at ho'
          cases ho'
          rw [wanted_congr (e' := e1) hbel, fr_all_congr j (e' := e1) hbel, show upd e1 j u j = u by simp [upd]]
          exact ⟨fun _ => h1, fun h => by rw [hwt] at h; cases h⟩
        | false =>
          have hbel : ∀ i, i < j → upd e1 j undef i = e1 i := fun i hi => by simp [upd]; omega
          refine ⟨upd e1 j undef, hbel, fun i hi hL => by rw [hbel i hi]; exact he i hi hL, fun _ o' ho' => ?_, fun hn => absurd hn hf⟩
          rw [ho] at ho'
          cases ho'
          rw [wanted_congr (e' := e1) hbel, show upd e1 j undef j = undef by simp [upd]]
          exact ⟨(fun h => by rw [hwt] at h; cases h), fun _ => rfl⟩
    have more : ∀ (u : Value) (M1 : Nat → Prop) (w1 w2 : World), (L k = true → u = e k) → Fls P ops C1 fl w0 a0 L e R M1 w2 (k + 1) → Below w1.heap.size w1 w2 → ((∀ i ∈ fl, k + 1 ≤ i → L i = true → (R i).W = false) → w1 = w2) → (∀ b, M1 b → b < w1.heap.size) → w0.heap.size ≤ w1.heap.size → C1 w2 →
        wpSeqG P ops C0 C1 f wild fl w0 bad Q (k + 1) l ((fr ops a0 (fun _ => true) e1 k).put o.dst u) M1 w1 →
        ∃ e2, (∀ i, i < k → e2 i = e1 i) ∧ (∀ i, i < j → L i = true → e2 i = e i) ∧ (j ∉ fl → QF P ops C0 C1 f a0 e2 j) ∧ (j ∈ fl → FF P ops C1 a0 e2 j) := by
      intro u M1 w1 w2 hu g1 g2 g3 g4 g5 g6 g7
      rw [← fr_step ho u] at g7
      obtain ⟨e2, r1, r2⟩ := seqG_find hC1 j hjw hjs l (k + 1) (upd e1 k u) M1 w1 w2 hl' (by omega) (agree_upd he hu) (fun i hi => hE i (by omega)) (fun i hi h => hW i hi (by omega)) hjf g1 g2 g3 g4 g5 g6 h01 g7
      exact ⟨e2, fun i hi => by rw [r1 i (by omega)]; simp [upd]; omega, r2⟩
    have hX1 : (k ∈ fl → L k = true → (R k).W = false) → (∀ i ∈ fl, k + 1 ≤ i → L i = true → (R i).W = false) → w = wx := fun hkf hno => hX fun i hi hik hLi => by
      rcases Nat.eq_or_lt_of_le hik with h | h
      · subst h; exact hkf hi hLi
      · exact hno i hi h hLi
    cases hwt : wantedAt ops a0 e1 k o with
    | true =>
      rw [hwt, if_pos rfl] at h
      by_cases hw : k ∈ wild
      · rw [if_pos hw] at h
        obtain ⟨x, w2, h1, h2, h3⟩ := (h wx hB (fun hall => (hX fun i hi hik _ => by
          have := List.all_eq_true.1 hall i hi
          simp at this; omega).symm)).exists_
        refine more x _ w2 w2 (fun hL => by rw [hW k hw (Nat.le_refl _)] at hL; cases hL) (hF.chain h2) (Below.refl _ _) (fun _ => rfl) (fun b hb => ?_) (Nat.le_trans hlo (Nat.le_trans hB.size h2.size)) ?_ h3
        · rcases hb with hb | hb
          · exact Nat.lt_of_lt_of_le (hM b hb) (Nat.le_trans hB.size h2.size)
          · exact hb.2
        · split at h1
          · exact h01 _ h1
          · exact h1
      · rw [if_neg hw] at h
        by_cases hf : k ∈ fl
        · rw [if_pos hf] at h
          obtain ⟨mk, obj, h1, h2⟩ := h
          cases hLk : L k with
          | true =>
            have hfo := hF.ok k hf (Nat.le_refl _) hLk
            have hWk : (R k).W = true := by rw [← (hfo.at_ ho he).1]; exact hwt
            obtain ⟨g1, g2⟩ := hfo.lays ho he hWk h1
            have hb := hfo.blk hWk
            rw [← g2] at hb
            have h3 := h2 (R k).g wx (hfo.low hWk) (hfo.mine hWk) hb hB
            rw [g1] at h3
            refine more (e k) _ wx wx (fun _ => rfl) (hF.visit hf hLk hWk) (Below.refl _ _) (fun _ => rfl) (fun b hb' => ?_) (Nat.le_trans hlo hB.size) hC h3
            rcases hb' with hb' | rfl
            · exact Nat.lt_of_lt_of_le (hM b hb') hB.size
            · exact get_lt hb
          | false =>
            have hal : Below wx.heap.size wx (wx.alloc obj) := (Below.refl _ _).alloc (Nat.le_refl _) _
            have hbl : (wx.alloc obj).heap[wx.heap.size]? = some obj := heap_alloc_new _ _
            have h3 := h2 wx.heap.size (wx.alloc obj) (Nat.le_trans hlo hB.size) (fun hm => by have := hM _ hm; have := hB.size; omega) hbl (hB.trans (hal.mono hB.size))
            refine more (mk wx.heap.size) _ (wx.alloc obj) (wx.alloc obj) (fun h => by rw [hLk] at h; cases h) ?_ (Below.refl _ _) (fun _ => rfl) (fun b hb' => ?_) (Nat.le_trans hlo (Nat.le_trans hB.size hal.size)) (hC1 _ _ hC hal) h3
            · refine ⟨fun i hi hik hLi => ?_, hF.step.apart⟩
              have hfo := hF.ok i hi (by omega) hLi
              have hm : (R i).W = true → ¬ (M (R i).g ∨ (R i).g = wx.heap.size) := fun hw hm => by
                rcases hm with hm | hm
                · exact hfo.mine hw hm
                · have := get_lt (hfo.blk hw); omega
              have hb : (R i).W = true → (wx.alloc obj).heap[(R i).g]? = some (R i).O := fun hw => by
                rw [hal.block _ (get_lt (hfo.blk hw))]; exact hfo.blk hw
              exact { hfo with mine := hm, blk := hb }
            · rcases hb' with hb' | rfl
              · exact Nat.lt_of_lt_of_le (hM b hb') (Nat.le_trans hB.size hal.size)
              · exact get_lt hbl
        · rw [if_neg hf] at h
          obtain ⟨u, h1, h2⟩ := h
          exact more u M w wx (fun hL => (hE k (Nat.le_refl _) hw hf hL).val ho he (.inl ⟨hwt, h1⟩)) hF.step hB (hX1 fun h => absurd h hf) hM hlo hC h2
    | false =>
      rw [hwt, if_neg (by decide)] at h
      refine more undef M w wx (fun hL => ?_) hF.step hB (hX1 fun hf hL => by rw [← ((hF.ok k hf (Nat.le_refl _) hL).at_ ho he).1]; exact hwt) hM hlo hC h
      by_cases hw : k ∈ wild
      · rw [hW k hw (Nat.le_refl _)] at hL; cases hL
      · by_cases hf : k ∈ fl
        · have hfo := hF.ok k hf (Nat.le_refl _) hL
          exact (hfo.off (by rw [← (hfo.at_ ho he).1]; exact hwt)).symm
        · exact (hE k (Nat.le_refl _) hw hf hL).val ho he (.inr ⟨hwt, rfl⟩)
def updR (R : Nat → FlRec) (j : Nat) (r : FlRec) : Nat → FlRec := fun i => if i = j then r else R i
theorem updR_self (R : Nat → FlRec) (j : Nat) (r : FlRec) : updR R j r j = r := by simp [updR]
theorem updR_ne (R : Nat → FlRec) {j i : Nat} (r : FlRec) (h : i ≠ j) : updR R j r i = R i := by simp [updR, h]
structure SeqInvG (P : Program) (ops : Array Oper) (C0 C1 : World → Prop) (f : Nat) (wild fl : List Nat) (w0 : World) (bad : Nat → Prop) (Q : Act → World → Prop) (a0 : Act) (L : Nat → Bool) (e : Nat → Value) (wa : World) (s : Nat) (e' : Nat → Value) (R : Nat → FlRec) (M : Nat → Prop) (w : World) : Prop where
  le : s ≤ ops.size
  at_ : s < ops.size → (s ∈ wild ∨ s ∈ fl) ∧ L s = false
  old : ∀ k, k < s → k ∈ wild ∨ k ∈ fl → L k = true
  late : ∀ i ∈ wild, s ≤ i → L i = false
  body : wpSeqG P ops C0 C1 f wild fl w0 bad Q s (ops.toList.drop s) (fr ops a0 (fun _ => true) e' s) M w
  same : ∀ i, i < s → L i = true → e' i = e i
  quiet : ∀ i, i < s → i ∉ wild → i ∉ fl → QF P ops C0 C1 f a0 e' i
  early : ∀ i, s ≤ i → i ∉ wild → i ∉ fl → L i = true → EF P ops C0 C1 f a0 L e i
  fls : Fls P ops C1 fl w0 a0 L e R M wa s
  bel : Below w.heap.size w wa
  exact_ : (∀ i ∈ fl, s ≤ i → L i = true → (R i).W = false) → w = wa
  mine : ∀ b, M b → b < w.heap.size
  low : w0.heap.size ≤ w.heap.size
  c0 : s ≤ f → C0 wa
  c1 : C1 wa
theorem SeqInvG.build {wa w : World} {M : Nat → Prop} {e1 : Nat → Value} (k : Nat) (hk : k ≤ ops.size) (h1 : ∀ i, i < k → i ∈ wild ∨ i ∈ fl → L i = true) (h2 : ∀ i ∈ wild, k ≤ i → L i = false) (h3 : ∀ i, i < k → L i = true → e1 i = e i)
    (h4 : ∀ i, i < k → i ∉ wild → i ∉ fl → QF P ops C0 C1 f a0 e1 i) (h5 : ∀ i, k ≤ i → i ∉ wild → i ∉ fl → L i = true → EF P ops C0 C1 f a0 L e i) (h6 : Fls P ops C1 fl w0 a0 L e R M wa k) (h7 : Below w.heap.size w wa) (h8 : (∀ i ∈ fl, k ≤ i → L i = true → (R i).W = false) → w = wa)
    (h9 : ∀ b, M b → b < w.heap.size) (h10 : w0.heap.size ≤ w.heap.size) (h11 : k ≤ f → C0 wa) (h12 : C1 wa)
    (hb : wpSeqG P ops C0 C1 f wild fl w0 bad Q k (ops.toList.drop k) (fr ops a0 (fun _ => true) e1 k) M w) :
    ∃ s e' R M w, SeqInvG P ops C0 C1 f wild fl w0 bad Q a0 L e wa s e' R M w := by
  obtain ⟨s, e2, M2, w2, s1, s2, s3, s4, s5, s6, s7, s8, s9, s11, s10⟩ := seqG_roll _ k e1 M w wa rfl hk h3 h5 h2 h6 h7 h8 h9 hb
  have hlow : w0.heap.size ≤ w2.heap.size := Nat.le_trans h10 s11
  refine ⟨s, e2, R, M2, w2, s2, s3, fun i hi hs => ?_, fun i hi hs => h2 i hi (by omega), s10, fun i hi hL => ?_, fun i hi hw hf => ?_, fun i hi => h5 i (by omega), s6, s7, s8, s9, hlow, fun h => h11 (by omega), h12⟩
  · rcases Nat.lt_or_ge i k with h | h
    · exact h1 i h hs
    · rcases hs with hs | hs
      · exact absurd hs (s5 i h hi).1
      · exact (s5 i h hi).2.1 hs
  · rcases Nat.lt_or_ge i k with h | h
    · rw [s4 i h]; exact h3 i h hL
    · exact (s5 i h hi).2.2.2 hL
  · rcases Nat.lt_or_ge i k with h | h
    · exact (h4 i h hw hf).congr (s4 i h).symm fun j hj => (s4 j (by omega)).symm
    · exact (s5 i h hi).2.2.1 hf
theorem seqG_any {wildA : List Nat} (hm : ManyOk .any ops ops.size wildA) (hch : ∀ i, i ∈ wild ∨ i ∈ fl → ∀ j ∈ wild, i < j → Dep ops i j) (hws : ∀ j, j ∈ wild ∨ j ∈ fl → j < ops.size) (hdis : ∀ j ∈ fl, j ∉ wild) (hf : f ∈ wild ∨ f = ops.size) (h01 : ∀ w, C0 w → C1 w)
    (hC0 : ∀ w w', C0 w → Below w.heap.size w w' → C0 w') (hC1 : ∀ w w', C1 w → Below w.heap.size w w' → C1 w') {Q' : Exit → Act → World → Prop} (hQ : ∀ a w, Q a w → Q' .normal a w) :
    ∀ (m : Nat) (La : Array Bool) (wa : World) (e : Nat → Value), HeadInv .any ops ops.size La → (List.range ops.size).countP (fun i => !La.getD i false) = m →
      (∃ s e' R M w, SeqInvG P ops C0 C1 f wild fl w0 bad Q a0 (La.getD · false) e wa s e' R M w) → wpAny P .any ops Q' m La (fr ops a0 (La.getD · false) e ops.size) wa := by
  intro m
  induction m with
  | zero =>
    intro La wa e inv hcnt ⟨s, e', R, M, w, hs⟩
    have hall : ∀ i, i < ops.size → La.getD i false = true := fun i hi => by
      have h := List.countP_eq_zero.1 hcnt i (List.mem_range.2 hi)
      simpa using h
    have hsn : s = ops.size := by
      rcases Nat.lt_or_ge s ops.size with h | h
      · have := (hs.at_ h).2
        rw [hall s h] at this
        cases this
      · have := hs.le; omega
    subst hsn
    have hb := hs.body
    rw [List.drop_of_length_le (by simp), hs.exact_ fun i hi hk _ => absurd (hws i (.inr hi)) (by omega)] at hb
    rw [fr_congr ops.size (S' := fun _ => true) (e' := e') fun i hi => ⟨hall i hi, fun h => (hs.same i hi h).symm⟩]
    refine ⟨?_, hQ _ _ hb⟩
    cases hr : Region.ready .any ops La with
    | nil => rfl
    | cons j r =>
      have hj : j ∈ Region.ready .any ops La := by rw [hr]; simp
      obtain ⟨h0, o, ho, _⟩ := mem_ready.1 hj
      have := hall j (Array.getElem?_eq_some_iff.1 ho).1
      rw [getD_both h0] at this
      cases this
  | succ m ih =>
    intro La wa e inv hcnt ⟨s, e', R, M, w, hs⟩
    refine ⟨fun hr => ?_, fun j hj => ?_⟩
    · exfalso
      obtain ⟨i, hi, hp⟩ := List.countP_pos_iff.1 (show 0 < (List.range ops.size).countP (fun i => !La.getD i false) by omega)
      have := all_listed hm inv.size hr i (List.mem_range.1 hi)
      rw [this] at hp
      cases hp
    obtain ⟨hun, oj, hoj, hdeps⟩ := mem_ready.1 hj
    have hjn : j < ops.size := (Array.getElem?_eq_some_iff.1 hoj).1
    have hLj := getD_both hun
    have hc : Closed .any ops La := inv.closed
    have hdj : dstOf ops j = oj.dst := by unfold dstOf; rw [hoj]; rfl
    have hset := setL_at (L := La) (n := ops.size) inv.size hjn
    have hLe : (on (fun i => La.getD i false) j) = ((La.setIfInBounds j true).getD · false) := funext fun i => (hset i).symm
    have next : ∀ (x : Value) (w' : World), (∃ s e' R M w, SeqInvG P ops C0 C1 f wild fl w0 bad Q a0 (on (La.getD · false) j) (upd e j x) w' s e' R M w) → wpAny P .any ops Q' m (La.setIfInBounds j true) ((fr ops a0 (La.getD · false) e ops.size).put oj.dst x) w' := by
      intro x w' h
      rw [← hdj, ← fr_set hm (S := (La.getD · false)) (e := e) (k := j) (x := x) hLj ops.size hjn (Nat.le_refl _), hLe]
      refine ih _ w' _ (inv.set hj hjn) ?_ (by rw [← hLe]; exact h)
      have := countP_one (p := fun i => !La.getD i false) (q := fun i => !(La.setIfInBounds j true).getD i false) (j := j) (by simp [hLj]) (by rw [hset]; simp [on]) (fun i hi => by rw [hset]; simp [on, hi]) ops.size hjn
      omega
    have hKw : seqK ops C0 C1 f j wa := by
      unfold seqK
      split
      · rename_i hwt
        have hLf : La.getD f false = false := by
          cases h : La.getD f false with
          | false => rfl
          | true => have := waits_closed hc h hwt; rw [hLj] at this; cases this
        refine hs.c0 ?_
        rcases Nat.lt_or_ge f s with h | h
        · rcases hf with hf | hf
          · have := hs.old f h (.inl hf); rw [hLf] at this; cases this
          · have := hs.le; omega
        · exact h
      · exact hs.c1
    have hon : ∀ k, La.getD k false = true → on (La.getD · false) j k = true := fun k hk => by unfold on; simp only [hk, Bool.or_true]
    have honj : ∀ k, k ≠ j → on (La.getD · false) j k = La.getD k false := fun k hk => by simp [on, hk]
    have hupd : ∀ (x : Value) k, k ≠ j → upd e j x k = e k := fun x k hk => by simp [upd, hk]
    have hag : ∀ (x : Value) (e2 : Nat → Value), (∀ k, on (La.getD · false) j k = true → e2 k = upd e j x k) → ∀ k, La.getD k false = true → e2 k = e k := fun x e2 he2 k hk => by
      have hkj : k ≠ j := fun h => by subst h; simp only [hLj] at hk; cases hk
      rw [he2 k (hon k hk), hupd x k hkj]
    have hEarly : ∀ (x : Value) i, i ≠ j → EF P ops C0 C1 f a0 (La.getD · false) e i → EF P ops C0 C1 f a0 (on (La.getD · false) j) (upd e j x) i := by
      intro x i hij hE o ho e2 he2
      rw [hupd x i hij]
      exact hE o ho e2 (hag x e2 he2)
    -- blocks laid out early, seen again
    have hFl : ∀ (x : Value) {R2 : Nat → FlRec} {M2 : Nat → Prop} {wb : World} {i : Nat}, i ≠ j → R2 i = R i → FlOK P ops C1 w0 a0 (La.getD · false) e R M2 wb i → FlOK P ops C1 w0 a0 (on (La.getD · false) j) (upd e j x) R2 M2 wb i := by
      intro x R2 M2 wb i hij hR h
      refine ⟨fun o ho e2 he2 => ?_, fun hw => ?_, fun hw => ?_, fun hw => ?_, fun hw => ?_, fun hw => ?_⟩
      · rw [hR, hupd x i hij]; exact h.run o ho e2 (hag x e2 he2)
      · rw [hupd x i hij]; exact h.off (by rw [← hR]; exact hw)
      · rw [hR]; exact h.cls (by rw [← hR]; exact hw)
      · rw [hR]; exact h.low (by rw [← hR]; exact hw)
      · rw [hR]; exact h.mine (by rw [← hR]; exact hw)
      · rw [hR]; exact h.blk (by rw [← hR]; exact hw)
    have hFs : ∀ (x : Value) {M2 : Nat → Prop} {wb : World} {k : Nat}, j ∉ fl → Fls P ops C1 fl w0 a0 (La.getD · false) e R M2 wb k → Fls P ops C1 fl w0 a0 (on (La.getD · false) j) (upd e j x) R M2 wb k := by
      intro x M2 wb k hjf h
      have hij : ∀ i ∈ fl, i ≠ j := fun i hi h => by subst h; exact hjf hi
      exact ⟨fun i hi hk hL => hFl x (hij i hi) rfl (h.ok i hi hk (by rw [honj i (hij i hi)] at hL; exact hL)), fun i hi i2 hi2 h1 h2 h3 hL hL2 =>
        h.apart i hi i2 hi2 h1 h2 h3 (by rw [honj i (hij i hi)] at hL; exact hL) (by rw [honj i2 (hij i2 hi2)] at hL2; exact hL2)⟩
    have hAl := fun (e2 : Nat → Value) (h : ∀ k, La.getD k false = true → e2 k = e k) => alike (a0 := a0) hm inv hj hoj hjn h
    -- an operation that comes where the text has it not yet: what it gives
    have hfind : s ≤ j → j ∉ wild → ∃ e2, (∀ i, i < j → La.getD i false = true → e2 i = e i) ∧ (j ∉ fl → QF P ops C0 C1 f a0 e2 j) ∧ (j ∈ fl → FF P ops C1 a0 e2 j) := fun hsj hjw => by
      obtain ⟨e2, _, g2, g3⟩ := seqG_find (L := (La.getD · false)) (e := e) hC1 j hjw hjn _ s e' M w wa rfl hsj (fun i hi hL => hs.same i hi hL) (fun i hi hiw hif hL => hs.early i hi hiw hif hL) hs.late (fun _ => hLj) hs.fls hs.bel hs.exact_ hs.mine hs.low hs.c1 h01 hs.body
      exact ⟨e2, g2, g3⟩
    have hAg2 : ∀ e2 : Nat → Value, (∀ i, i < j → La.getD i false = true → e2 i = e i) → Ag ops oj (fr ops a0 (La.getD · false) e ops.size) (fr ops a0 (fun _ => true) e2 j) := fun e2 he2 => by
      have hAg := hAl (fun k => if k < j then e2 k else e k) (agree_ext he2)
      rwa [fr_all_congr j (e' := e2) (fun i hi => by simp only [hi, if_true])] at hAg
    unfold wpOp
    simp only [hoj]
    by_cases hjf : j ∈ fl
    · -- a block is laid out
      have hjw : j ∉ wild := hdis j hjf
      have hsj : s ≤ j := by
        rcases Nat.lt_or_ge j s with h | h
        · have := hs.old j h (.inr hjf); simp only [hLj] at this; cases this
        · exact h
      obtain ⟨e2, g2, _, g3⟩ := hfind hsj hjw
      have hAg := hAg2 e2 g2
      have hwt : Region.wanted oj (yielded ops (fr ops a0 (La.getD · false) e ops.size).tmps) = wantedAt ops a0 e2 j oj := hAg.wanted
      have nxt : ∀ (x : Value) (wb : World) (r : FlRec), Below wa.heap.size wa wb → (wantedAt ops a0 e2 j oj = r.W) → (r.W = true → (execOp (fr ops a0 (La.getD · false) e ops.size).eval oj).run P r.Wd = .ok (.value x) (r.Wd.alloc r.O)) → (r.W = false → x = undef) → (r.W = true → r.Wd = wa ∧ wb = wa.alloc r.O) → (r.W = false → wb = wa) →
          wpAny P .any ops Q' m (La.setIfInBounds j true) ((fr ops a0 (La.getD · false) e ops.size).put oj.dst x) wb := by
        intro x wb r hbb q1 q2 q3 q4 q5
        have hRi : ∀ i, i ≠ j → updR R j r i = R i := fun i hi => updR_ne R r hi
        have hRj : updR R j r j = r := updR_self R j r
        refine next x wb (SeqInvG.build (R := updR R j r) (M := M) (w := w) (e1 := e') s hs.le (fun i hi h => hon i (hs.old i hi h)) (fun i hi hk => by rw [honj i (fun h => by subst h; exact hjw hi)]; exact hs.late i hi hk) (fun i hi hL => ?_) hs.quiet (fun i hi hiw hif hL => ?_) ?_ (hs.bel.trans (hbb.mono hs.bel.size)) (fun hx => ?_) hs.mine hs.low (fun h => hC0 _ _ (hs.c0 h) hbb) (hC1 _ _ hs.c1 hbb) hs.body)
        · have hij : i ≠ j := by omega
          rw [hupd x i hij]; exact hs.same i hi (by rw [← honj i hij]; exact hL)
        · have hij : i ≠ j := fun h => by subst h; exact hif hjf
          exact hEarly x i hij (hs.early i hi hiw hif (by rw [← honj i hij]; exact hL))
        · -- the blocks
          have old : ∀ i ∈ fl, i ≠ j → s ≤ i → on (La.getD · false) j i = true → FlOK P ops C1 w0 a0 (La.getD · false) e R M wb i := fun i hi hij hk hL => by
            have h := hs.fls.ok i hi hk (by rw [← honj i hij]; exact hL)
            exact { h with blk := fun hw => by rw [hbb.block _ (get_lt (h.blk hw))]; exact h.blk hw }
          have oldlt : ∀ i ∈ fl, i ≠ j → s ≤ i → on (La.getD · false) j i = true → (R i).W = true → (R i).g < wa.heap.size := fun i hi hij hk hL hw => get_lt ((hs.fls.ok i hi hk (by rw [← honj i hij]; exact hL)).blk hw)
          refine ⟨fun i hi hk hL => ?_, fun i hi i2 hi2 h1 h2 h3 hL hL2 hw hw2 => ?_⟩
          · by_cases hij : i = j
            · subst hij
              refine ⟨fun o ho e3 he3 => ?_, fun hw => ?_, fun hw => ?_, fun hw => ?_, fun hw => ?_, fun hw => ?_⟩
              · rw [hoj] at ho
                cases ho
                have hAg3 := hAl e3 (hag x e3 he3)
                have hw3 : wantedAt ops a0 e3 i oj = wantedAt ops a0 e2 i oj := by rw [← hwt]; exact (hAg3.wanted).symm
                rw [hRj, hw3, show upd e i x i = x by simp [upd], ← hAg3.exec (hm.sel i oj · · hoj)]
                exact ⟨q1, q2⟩
              · rw [show upd e i x i = x by simp [upd]]; exact q3 (by rw [hRj] at hw; exact hw)
              · rw [hRj] at hw ⊢; rw [(q4 hw).1]; exact hs.c1
              · rw [hRj] at hw ⊢; show w0.heap.size ≤ r.Wd.heap.size; rw [(q4 hw).1]; exact Nat.le_trans hs.low hs.bel.size
              · rw [hRj] at hw ⊢
                intro hM
                have := hs.mine _ hM
                have h2 : r.g = wa.heap.size := by show r.Wd.heap.size = _; rw [(q4 hw).1]
                have := hs.bel.size
                omega
              · rw [hRj] at hw ⊢
                have h2 : r.g = wa.heap.size := by show r.Wd.heap.size = _; rw [(q4 hw).1]
                rw [h2, (q4 hw).2]
                exact heap_alloc_new _ _
            · exact hFl x hij (hRi i hij) (old i hi hij hk hL)
          · by_cases hij : i = j
            · have hij2 : i2 ≠ j := by omega
              rw [hij, hRj] at hw ⊢
              rw [hRi i2 hij2] at hw2 ⊢
              have := oldlt i2 hi2 hij2 h2 hL2 hw2
              have h2 : r.g = wa.heap.size := by show r.Wd.heap.size = _; rw [(q4 hw).1]
              omega
            · rw [hRi i hij] at hw ⊢
              by_cases hij2 : i2 = j
              · rw [hij2, hRj] at hw2 ⊢
                have := oldlt i hi hij h1 hL hw
                have h2 : r.g = wa.heap.size := by show r.Wd.heap.size = _; rw [(q4 hw2).1]
                omega
              · rw [hRi i2 hij2] at hw2 ⊢
                exact hs.fls.apart i hi i2 hi2 h1 h2 h3 (by rw [← honj i hij]; exact hL) (by rw [← honj i2 hij2]; exact hL2) hw hw2
        · cases hrw : r.W with
          | true =>
            have := hx j hjf hsj (by simp [on])
            rw [hRj, hrw] at this
            cases this
          | false =>
            rw [q5 hrw]
            refine hs.exact_ fun i hi hk hL => ?_
            have hij : i ≠ j := fun h => by subst h; simp only [hLj] at hL; cases hL
            have := hx i hi hk (hon i hL)
            rwa [hRi i hij] at this
      cases hw : wantedAt ops a0 e2 j oj with
      | true =>
        rw [if_pos (by rw [hwt, hw])]
        obtain ⟨mk, obj, hl⟩ := g3 hjf oj hoj hw
        have hrun := hl wa hs.c1
        rw [← hAg.exec (hm.sel j oj · · hoj)] at hrun
        refine .inl ?_
        unfold Oper.wp
        rw [hrun]
        exact nxt _ _ ⟨true, wa, obj⟩ ((Below.refl _ _).alloc (Nat.le_refl _) _) hw (fun _ => hrun) (fun h => by cases h) (fun _ => ⟨rfl, rfl⟩) (fun h => by cases h)
      | false =>
        rw [if_neg (by rw [hwt, hw]; decide)]
        exact nxt undef wa ⟨false, wa, .cells #[] 0⟩ (Below.refl _ _) hw (fun h => by cases h) (fun _ => rfl) (fun h => by cases h) (fun _ => rfl)
    · by_cases hjw : j ∈ wild
      · -- an operation of the chain
        have hsj : j = s := by
          rcases Nat.lt_trichotomy j s with h | h | h
          · have := hs.old j h (.inl hjw); simp only [hLj] at this; cases this
          · exact h
          · obtain ⟨h1, h2⟩ := hs.at_ (by omega)
            have := hch s h1 j hjw h La hc fun oj' hoj' => by rw [hoj] at hoj'; cases hoj'; exact hdeps
            simp only [this] at h2; cases h2
        subst hsj
        have hAg := hAg2 e' fun i hi hL => hs.same i hi hL
        have hdr : ops.toList.drop j = oj :: ops.toList.drop (j + 1) := by
          rw [List.drop_eq_getElem_cons (by simpa using hjn)]
          congr 1
          have := (Array.getElem?_eq_some_iff.1 hoj).2
          simpa using this
        have hb := hs.body
        rw [hdr] at hb
        unfold wpSeqG at hb
        have hwt : Region.wanted oj (yielded ops (fr ops a0 (La.getD · false) e ops.size).tmps) = wantedAt ops a0 e' j oj := hAg.wanted
        rw [show Region.wanted oj (yielded ops (fr ops a0 (fun _ => true) e' j).tmps) = wantedAt ops a0 e' j oj from rfl] at hb
        have nxt : ∀ (x : Value) (wb w1 : World) (M1 : Nat → Prop), (j + 1 ≤ f → C0 wb) → C1 wb → Fls P ops C1 fl w0 a0 (La.getD · false) e R M1 wb (j + 1) → Below w1.heap.size w1 wb → ((∀ i ∈ fl, j + 1 ≤ i → La.getD i false = true → (R i).W = false) → w1 = wb) → (∀ b, M1 b → b < w1.heap.size) → w0.heap.size ≤ w1.heap.size →
            wpSeqG P ops C0 C1 f wild fl w0 bad Q (j + 1) (ops.toList.drop (j + 1)) ((fr ops a0 (fun _ => true) e' j).put oj.dst x) M1 w1 →
            wpAny P .any ops Q' m (La.setIfInBounds j true) ((fr ops a0 (La.getD · false) e ops.size).put oj.dst x) wb := by
          intro x wb w1 M1 k0 k1 k2 k3 k4 k5 k6 k7
          rw [← fr_step hoj x] at k7
          have hb2 : ∀ i, i < j → upd e' j x i = e' i := fun i hi => by simp [upd]; omega
          refine next x wb (SeqInvG.build (j + 1) hjn (fun i hi h => ?_) (fun i hi hk => by rw [honj i (by omega)]; exact hs.late i hi (by omega)) (fun i hi hL => ?_) (fun i hi hiw hif => ?_) (fun i hi hiw hif hL => ?_) (hFs x hjf k2) k3 (fun hx => k4 fun i hi hk hL => hx i hi hk (hon i hL)) k5 k6 k0 k1 k7)
          · rcases Nat.lt_or_ge i j with h1 | h1
            · exact hon i (hs.old i h1 h)
            · rw [show i = j by omega]; simp [on]
          · rcases Nat.lt_or_ge i j with h1 | h1
            · rw [hb2 i h1, hupd x i (by omega)]; exact hs.same i h1 (by rw [← honj i (by omega)]; exact hL)
            · rw [show i = j by omega]; simp [upd]
          · have h1 : i < j := by
              rcases Nat.lt_or_ge i j with h1 | h1
              · exact h1
              · exact absurd (show j ∈ wild from hjw) (by rw [← show i = j by omega]; exact hiw)
            exact (hs.quiet i h1 hiw hif).congr (hb2 i h1).symm fun k hk => (hb2 k (by omega)).symm
          · have hij : i ≠ j := by omega
            exact hEarly x i hij (hs.early i (by omega) hiw hif (by rw [← honj i hij]; exact hL))
        cases hw : wantedAt ops a0 e' j oj with
        | true =>
          rw [if_pos (by rw [hwt, hw])]
          rw [hw, if_pos rfl, if_pos hjw] at hb
          have hb3 := hb wa hs.bel fun hall => (hs.exact_ fun i hi hk _ => by
            have := List.all_eq_true.1 hall i hi
            simp at this; omega).symm
          have hcl : ∀ wb, (if j < f then C0 wb else C1 wb) → C1 wb := fun wb h1 => by
            split at h1
            · exact h01 _ h1
            · exact h1
          refine .inl ((hb3.congr (hAg.exec (hm.sel j oj · · hoj))).wp fun x wb ⟨h1, h2, h3⟩ => nxt x wb wb _ (fun h => by rw [if_pos (by omega)] at h1; exact h1) (hcl wb h1) (hs.fls.chain h2) (Below.refl _ _) (fun _ => rfl) (fun b hb => ?_) (Nat.le_trans hs.low (Nat.le_trans hs.bel.size h2.size)) h3)
          rcases hb with hb | hb
          · exact Nat.lt_of_lt_of_le (hs.mine b hb) (Nat.le_trans hs.bel.size h2.size)
          · exact hb.2
        | false =>
          rw [if_neg (by rw [hwt, hw]; decide)]
          rw [hw, if_neg (by decide)] at hb
          exact nxt undef wa w M (fun h => hs.c0 (by omega)) hs.c1 hs.fls.step hs.bel (fun hx => hs.exact_ fun i hi hk hL => by
            have hij : i ≠ j := fun h => by subst h; exact hjf hi
            exact hx i hi (by omega) hL) hs.mine hs.low hb
      · -- one that leaves memory
        have nxt : ∀ (x : Value), (j < s → x = e' j) → (s ≤ j → EF P ops C0 C1 f a0 (on (La.getD · false) j) (upd e j x) j) → wpAny P .any ops Q' m (La.setIfInBounds j true) ((fr ops a0 (La.getD · false) e ops.size).put oj.dst x) wa := fun x hx1 hx2 =>
          next x wa ⟨s, e', R, M, w, hs.le, fun h => by
            obtain ⟨h1, h2⟩ := hs.at_ h
            refine ⟨h1, ?_⟩
            have hsj : s ≠ j := fun h => by
              subst h
              exact h1.elim hjw hjf
            rw [honj s hsj]; exact h2, fun i hi h => hon i (hs.old i hi h), fun i hi hk => by rw [honj i (fun h => by subst h; exact hjw hi)]; exact hs.late i hi hk, hs.body, fun i hi hL => by
            by_cases hij : i = j
            · subst hij; rw [← hx1 hi]; simp [upd]
            · rw [hupd x i hij]; exact hs.same i hi (by rw [← honj i hij]; exact hL), hs.quiet, fun i hi hiw hif hL => by
            by_cases hij : i = j
            · subst hij; exact hx2 hi
            · exact hEarly x i hij (hs.early i hi hiw hif (by rw [← honj i hij]; exact hL)), hFs x hjf hs.fls, hs.bel, fun hx => hs.exact_ fun i hi hk hL => hx i hi hk (hon i hL), hs.mine, hs.low, hs.c0, hs.c1⟩
        rcases Nat.lt_or_ge j s with hjs | hjs
        · have hAg := hAg2 e' fun i hi hL => hs.same i (by omega) hL
          have hq := hs.quiet j hjs hjw hjf oj hoj
          have hwt : Region.wanted oj (yielded ops (fr ops a0 (La.getD · false) e ops.size).tmps) = wantedAt ops a0 e' j oj := hAg.wanted
          have nx := nxt (e' j) (fun _ => rfl) fun h => by omega
          cases hw : wantedAt ops a0 e' j oj with
          | true =>
            rw [if_pos (by rw [hwt, hw])]
            exact .inl (((hq.1 hw wa hKw).congr (hAg.exec (hm.sel j oj · · hoj))).wp nx)
          | false =>
            rw [if_neg (by rw [hwt, hw]; decide)]
            rw [hq.2 hw] at nx
            exact nx
        · obtain ⟨e2, g2, g3, _⟩ := hfind hjs hjw
          have hAg := hAg2 e2 g2
          have hq := g3 hjf oj hoj
          have hwt : Region.wanted oj (yielded ops (fr ops a0 (La.getD · false) e ops.size).tmps) = wantedAt ops a0 e2 j oj := hAg.wanted
          have nx : ((wantedAt ops a0 e2 j oj = true → StillAt P oj (fr ops a0 (La.getD · false) e ops.size) wa (e2 j)) ∧ (wantedAt ops a0 e2 j oj = false → e2 j = undef)) →
              wpAny P .any ops Q' m (La.setIfInBounds j true) ((fr ops a0 (La.getD · false) e ops.size).put oj.dst (e2 j)) wa := fun hv => nxt (e2 j) (fun h => by omega) fun _ o ho e3 he3 => by
            rw [hoj] at ho
            cases ho
            have hAg3 := hAl e3 (hag _ e3 he3)
            have hw3 : wantedAt ops a0 e3 j oj = wantedAt ops a0 e2 j oj := by rw [← hwt]; exact (hAg3.wanted).symm
            rw [hw3, show upd e j (e2 j) j = e2 j by simp [upd]]
            exact ⟨fun h => ⟨wa, hKw, (hv.1 h).congr (hAg3.exec (hm.sel j oj · · hoj)).symm⟩, hv.2⟩
          cases hw : wantedAt ops a0 e2 j oj with
          | true =>
            rw [if_pos (by rw [hwt, hw])]
            have hst := (hq.1 hw wa hKw).congr (hAg.exec (hm.sel j oj · · hoj))
            exact .inl (hst.wp (nx ⟨fun _ => hst, fun h => by rw [hw] at h; cases h⟩))
          | false =>
            rw [if_neg (by rw [hwt, hw]; decide)]
            have := nx ⟨(fun h => by rw [hw] at h; cases h), hq.2⟩
            rw [hq.2 hw] at this
            exact this
def seqGB (ops : Array Oper) (f : Nat) (wild fl : List Nat) : Bool :=
  manyB .any ops ops.size (wildAll ops) && (chainW ops wild && ((wild.contains f || f == ops.size) && ((wild.all fun j => decide (j < ops.size)) && ((fl.all fun j => decide (j < ops.size) && !wild.contains j) && wild.all fun j => fl.all fun i => !decide (i < j) || waitsB .any ops ops.size j i))))
theorem wp_seqG {id : Nat} {Q : Exit → Act → World → Prop} {a : Act} {w : World} {l : List Oper} (C0 C1 : World → Prop) (f : Nat) (wild fl : List Nat) (bad : Nat → Prop) (hmx : P.follows .mixedOrders = true) (hB : seqGB l.toArray f wild fl = true) (h01 : ∀ w, C0 w → C1 w)
    (hC0 : ∀ w w', C0 w → Below w.heap.size w w' → C0 w') (hC1 : ∀ w w', C1 w → Below w.heap.size w w' → C1 w') (hc : C0 w.drew)
    (h : wpSeqG P l.toArray C0 C1 f wild fl w bad (fun a' w' => Q .normal a' w') 0 l a (fun _ => False) w.drew) : (Code.region id l.toArray true).wp P Q a w := by
  refine wp_region_any hmx ?_
  simp only [seqGB, Bool.and_eq_true, List.all_eq_true, decide_eq_true_eq, Bool.or_eq_true, beq_iff_eq, Bool.not_eq_true'] at hB
  obtain ⟨hB1, hB2, hB3, hB4, hB5, hB6⟩ := hB
  have hm := many_ok hB1
  have hch := chain_all (l := wild) hB2
  have hfr : ∀ n, fr l.toArray a ((Array.replicate l.toArray.size false).getD · false) (fun _ => undef) n = a := by
    intro n
    induction n with
    | zero => rfl
    | succ n ih => unfold fr; rw [ih, getD_replicate_false, if_neg (by simp)]
  have hfw : f ∈ wild ∨ f = l.toArray.size := by
    rcases hB3 with h | h
    · exact .inl (by simpa using h)
    · exact .inr h
  have hno : ∀ {p : Prop} (i : Nat), (Array.replicate l.toArray.size false).getD i false = true → p := fun i h => by rw [getD_replicate_false] at h; cases h
  have hdep : ∀ i, i ∈ wild ∨ i ∈ fl → ∀ j ∈ wild, i < j → Dep l.toArray i j := fun i hi j hj hij => by
    rcases hi with hi | hi
    · exact hch i hi j hj hij
    · have h1 := hB6 j hj i hi
      rcases h1 with h1 | h1
      · simp at h1; omega
      · exact fun L hcl hjd => waits_of hcl _ j i hjd h1
  have := seqG_any (a0 := a) (Q' := Q) (C0 := C0) (C1 := C1) (w0 := w) (bad := bad) (Q := fun a' w' => Q .normal a' w') hm hdep (fun j hj => hj.elim (hB4 j) fun h => (hB5 j h).1) (fun j hj hw => by
      have := (hB5 j hj).2
      rw [show wild.contains j = true by simpa using hw] at this
      cases this) hfw h01 hC0 hC1 (fun _ _ h => h) l.length (Array.replicate l.toArray.size false) w.drew (fun _ => undef)
    ⟨by simp, fun j oj _ hl => hno j hl, fun t h1 h2 => (by omega)⟩ (by
      have : (fun i => !(Array.replicate l.toArray.size false).getD i false) = fun _ => true := funext fun i => by rw [getD_replicate_false]; rfl
      rw [this]; simp)
    (SeqInvG.build (R := fun _ => ⟨false, w, .cells #[] 0⟩) (w := w.drew) (M := fun _ => False) (e1 := fun _ => undef) 0 (Nat.zero_le _) (fun i hi _ => absurd hi (by omega)) (fun i _ _ => getD_replicate_false _ _) (fun i hi _ => absurd hi (by omega)) (fun i hi _ _ => absurd hi (by omega)) (fun i _ _ _ h => hno i h) (Fls.none fun i _ _ => getD_replicate_false _ _) (Below.refl _ _) (fun _ => rfl) (fun _ h => h.elim) (Nat.le_refl _) (fun _ => hc) (h01 _ hc) h)
  rw [hfr] at this
  simpa using this
end
def wpSeqV (P : Program) (w0 : World) (bad : Nat → Prop) (ops : Array Oper) (f : Nat) (wild fl : List Nat) (Q : Act → World → Prop) : Nat → List Oper → Act → (Nat → Prop) → World → Prop :=
  wpSeqG P ops (laterC w0) (fun w' => ∃ s : LaterB w0 bad, w' = s.val) f wild fl w0 bad Q
theorem keep_not {w0 : World} {bad M : Nat → Prop} {b : Nat} (h : w0.heap.size ≤ b) (hM : M b) : ¬ keepB w0 bad M b := fun hk => hk.elim (fun h1 => by omega) fun h1 => h1.2 hM
theorem keep_bad {w0 : World} {bad M : Nat → Prop} {b : Nat} (h : b < w0.heap.size) (hb : bad b) : ¬ keepB w0 bad M b := fun hk => hk.elim (fun h1 => h1.2 hb) fun h1 => by omega
section
variable {P : Program} {ops : Array Oper} {w w0 : World} {bad : Nat → Prop} {f : Nat} {wild fl : List Nat} {Q : Act → World → Prop} {M : Nat → Prop}
theorem laterB_below {w0 w w' : World} {bad : Nat → Prop} (h : ∃ s : LaterB w0 bad, w = s.val) (hb : Below w.heap.size w w') : ∃ s : LaterB w0 bad, w' = s.val := by
  obtain ⟨s, rfl⟩ := h
  exact ⟨⟨w', s.kp.trans (.of_below hb)⟩, rfl⟩
theorem laterC_below {w0 w w' : World} (h : laterC w0 w) (hb : Below w.heap.size w w') : laterC w0 w' := by
  obtain ⟨s, rfl⟩ := h
  exact .of (s.below.trans (hb.mono s.below.size))
theorem wp_seqV {id : Nat} {Q : Exit → Act → World → Prop} {a : Act} {l : List Oper} (bad : Nat → Prop) (f : Nat) (wild fl : List Nat) (hmx : P.follows .mixedOrders = true) (hB : seqGB l.toArray f wild fl = true)
    (h : ∀ w1, Below w.heap.size w w1 → wpSeqV P w bad l.toArray f wild fl (fun a' w' => Q .normal a' w') 0 l a (fun _ => False) w1) : (Code.region id l.toArray true).wp P Q a w :=
  wp_seqG (laterC w) (fun w' => ∃ s : LaterB w bad, w' = s.val) f wild fl bad hmx hB (fun _ h => later_laterB h) (fun _ _ => laterC_below) (fun _ _ => laterB_below) (.of (Below.refl _ _).drew) (h _ (Below.refl _ _).drew)
theorem seqG_pre {C0 C1 : World → Prop} (n : Nat) {C : World → Prop} {k : Nat} {l : List Oper} {a : Act} (hC : ∀ i, i < n → ∀ w', seqK ops C0 C1 f (k + i) w' → C w')
    (hno : ((List.range n).all (fun i => !wild.contains (k + i) && !fl.contains (k + i)) && (l.take n).all (fun o => plainOp2 o.op)) = true)
    (h : wpQuiet P ops C (fun a' => wpSeqG P ops C0 C1 f wild fl w0 bad Q (k + n) (l.drop n) a' M w) (l.take n) a) : wpSeqG P ops C0 C1 f wild fl w0 bad Q k l a M w := by
  induction n generalizing k l a with
  | zero => simpa [wpQuiet] using h
  | succ n ih =>
    cases l with
    | nil => simpa [wpQuiet, wpSeqG] using h
    | cons o l =>
      simp only [Bool.and_eq_true, List.all_eq_true, List.mem_range] at hno
      obtain ⟨hno1, hno2⟩ := hno
      have h0 : k ∉ wild := by have := (hno1 0 (by omega)).1; simpa using this
      have h0' : k ∉ fl := by have := (hno1 0 (by omega)).2; simpa using this
      have hpl : plainOp2 o.op = true := hno2 o (by simp)
      have next : ∀ a', wpQuiet P ops C (fun a' => wpSeqG P ops C0 C1 f wild fl w0 bad Q (k + (n + 1)) ((o :: l).drop (n + 1)) a' M w) (l.take n) a' → wpSeqG P ops C0 C1 f wild fl w0 bad Q (k + 1) l a' M w := fun a' h' =>
        ih (fun i hi w' hw => hC (i + 1) (by omega) w' (by rw [show k + (i + 1) = k + 1 + i by omega]; exact hw)) (by
          simp only [Bool.and_eq_true, List.all_eq_true, List.mem_range]
          refine ⟨fun i hi => ?_, fun o' ho' => hno2 o' (by rw [List.take_succ_cons]; exact List.mem_cons_of_mem _ ho')⟩
          have := hno1 (i + 1) (by omega)
          rw [show k + 1 + i = k + (i + 1) by omega]; exact this) (by
          have e : k + 1 + n = k + (n + 1) := by omega
          rw [e]; simpa using h')
      rw [List.take_succ_cons] at h
      unfold wpQuiet at h
      unfold wpSeqG
      split at h
      · rename_i hw
        rw [if_pos hw, if_neg h0, if_neg h0']
        obtain ⟨u, h1, h2⟩ := h
        refine ⟨u, fun w' hw' => ?_, next _ h2⟩
        have h3 := h1 w' (hC 0 (by omega) w' (by simpa using hw'))
        have hn := plain_no2 (P := P) hpl a.eval w'
        unfold Oper.quietAt at h3
        unfold StillAt
        generalize (execOp a.eval o).run P w' = r at *
        cases r with
        | ok n' w2 =>
          cases n' <;> simp only [Oper.quietUpon] at h3
          case value u' => exact .inl (by rw [h3.1, h3.2])
          case skip => exact .inr ⟨by rw [h3.1], h3.2⟩
          case enter g args => exact absurd rfl (hn w2 g args)
        | halt x w2 => simp only [Oper.quietUpon] at h3
      · rename_i hw
        rw [if_neg hw]
        exact next _ h
theorem seqV_pre (n : Nat) {k : Nat} {l : List Oper} {a : Act} (hno : ((List.range n).all (fun i => !wild.contains (k + i) && !fl.contains (k + i)) && (l.take n).all (fun o => plainOp2 o.op)) = true)
    (h : wpQuiet P ops (fun w' => ∃ s : LaterB w0 bad, w' = s.val) (fun a' => wpSeqV P w0 bad ops f wild fl Q (k + n) (l.drop n) a' M w) (l.take n) a) : wpSeqV P w0 bad ops f wild fl Q k l a M w :=
  seqG_pre n (fun i _ w' hw => by
    unfold seqK at hw
    split at hw
    · exact later_laterB hw
    · exact hw) hno h
abbrev mineV (M : Nat → Prop) (w' w'' : World) : Nat → Prop := fun b => M b ∨ (w'.heap.size ≤ b ∧ b < w''.heap.size)
theorem seqV_new {k : Nat} {o : Oper} {rest : List Oper} {a : Act} (hB : Below w0.heap.size w0 w) (hk : (wild.contains k && decide (k < f)) = true) (hw : Region.wanted o (yielded ops a.tmps) = true)
    (h : ∀ w', Below w.heap.size w w' → Below w0.heap.size w0 w' → ∀ K : Value → World → Prop, (∀ x w'', Below w'.heap.size w' w'' → (Below w0.heap.size w0 w'' → wpSeqV P w0 bad ops f wild fl Q (k + 1) rest (a.put o.dst x) (mineV M w' w'') w'') → K x w'') → Gives P o a w' K) : wpSeqV P w0 bad ops f wild fl Q k (o :: rest) a M w := by
  simp only [Bool.and_eq_true, decide_eq_true_eq] at hk
  show wpSeqG _ _ _ _ _ _ _ _ _ _ _ _ _ _ _
  unfold wpSeqG
  rw [if_pos hw, if_pos (by simpa using hk.1)]
  intro w' hb _
  have hB' := hB.trans (hb.mono hB.size)
  refine (h w' hb hB' (fun x w'' => Below w'.heap.size w' w'' ∧ wpSeqV P w0 bad ops f wild fl Q (k + 1) rest (a.put o.dst x) (mineV M w' w'') w'') fun x w'' h1 h2 => ?_).mono fun x w'' ⟨h1, h2⟩ => ?_
  · exact ⟨h1, h2 (hB'.trans (h1.mono hB'.size))⟩
  · rw [if_pos hk.2]
    exact ⟨.of (hB'.trans (h1.mono hB'.size)), .of_below h1, h2⟩
theorem seqV_chg {k : Nat} {o : Oper} {rest : List Oper} {a : Act} (hB : Kp (fun b => ¬ bad b) w0 w) (hk : (wild.contains k && (decide (f ≤ k) && fl.all (fun j => decide (j < k)))) = true) (hw : Region.wanted o (yielded ops a.tmps) = true)
    (h : ∀ K : Value → World → Prop, (∀ x w'', Kp (keepB w0 bad M) w w'' → (Kp (fun b => ¬ bad b) w0 w'' → wpSeqV P w0 bad ops f wild fl Q (k + 1) rest (a.put o.dst x) (mineV M w w'') w'') → K x w'') → Gives P o a w K) : wpSeqV P w0 bad ops f wild fl Q k (o :: rest) a M w := by
  simp only [Bool.and_eq_true, decide_eq_true_eq] at hk
  show wpSeqG _ _ _ _ _ _ _ _ _ _ _ _ _ _ _
  unfold wpSeqG
  rw [if_pos hw, if_pos (by simpa using hk.1)]
  intro w' hb hx
  rw [hx hk.2.2]
  have hcl : ∀ w'', Kp (keepB w0 bad M) w w'' → Kp (fun b => ¬ bad b) w0 w'' := fun w'' h1 =>
    ⟨h1.os.trans hB.os, h1.tape.trans hB.tape, h1.output.trans hB.output, Nat.le_trans hB.size h1.size, fun b hb hn => (h1.block b (Nat.lt_of_lt_of_le hb hB.size) (.inl ⟨hb, hn⟩)).trans (hB.block b hb hn)⟩
  refine (h (fun x w'' => Kp (keepB w0 bad M) w w'' ∧ wpSeqV P w0 bad ops f wild fl Q (k + 1) rest (a.put o.dst x) (mineV M w w'') w'') fun x w'' h1 h2 => ?_).mono fun x w'' ⟨h1, h2⟩ => ?_
  · exact ⟨h1, h2 (hcl w'' h1)⟩
  · rw [if_neg (by omega)]
    exact ⟨⟨⟨w'', hcl w'' h1⟩, rfl⟩, h1, h2⟩
theorem seqV_chg1 {k : Nat} {o : Oper} {rest : List Oper} {a : Act} (hB : Kp (fun b => ¬ bad b) w0 w) (hk : (wild.contains k && decide (f ≤ k)) = true) (hw : Region.wanted o (yielded ops a.tmps) = true)
    (h : ∀ w', Below w.heap.size w w' → Kp (fun b => ¬ bad b) w0 w' → ∀ K : Value → World → Prop, (∀ x w'', Kp (keepB w0 bad M) w' w'' → (Kp (fun b => ¬ bad b) w0 w'' → wpSeqV P w0 bad ops f wild fl Q (k + 1) rest (a.put o.dst x) (mineV M w' w'') w'') → K x w'') → Gives P o a w' K) : wpSeqV P w0 bad ops f wild fl Q k (o :: rest) a M w := by
  simp only [Bool.and_eq_true, decide_eq_true_eq] at hk
  show wpSeqG _ _ _ _ _ _ _ _ _ _ _ _ _ _ _
  unfold wpSeqG
  rw [if_pos hw, if_pos (by simpa using hk.1)]
  intro w' hb _
  have hB' : Kp (fun b => ¬ bad b) w0 w' := hB.trans (.of_below hb)
  have hcl : ∀ w'', Kp (keepB w0 bad M) w' w'' → Kp (fun b => ¬ bad b) w0 w'' := fun w'' h1 =>
    ⟨h1.os.trans hB'.os, h1.tape.trans hB'.tape, h1.output.trans hB'.output, Nat.le_trans hB'.size h1.size, fun b hb hn => (h1.block b (Nat.lt_of_lt_of_le hb hB'.size) (.inl ⟨hb, hn⟩)).trans (hB'.block b hb hn)⟩
  refine (h w' hb hB' (fun x w'' => Kp (keepB w0 bad M) w' w'' ∧ wpSeqV P w0 bad ops f wild fl Q (k + 1) rest (a.put o.dst x) (mineV M w' w'') w'') fun x w'' h1 h2 => ?_).mono fun x w'' ⟨h1, h2⟩ => ?_
  · exact ⟨h1, h2 (hcl w'' h1)⟩
  · rw [if_neg (by omega)]
    exact ⟨⟨⟨w'', hcl w'' h1⟩, rfl⟩, h1, h2⟩
theorem seqV_lay {k : Nat} {o : Oper} {rest : List Oper} {a : Act} (mk : Nat → Value) (T : TypeId) (cs : Array Value) (hk : (fl.contains k && !wild.contains k) = true) (hw : Region.wanted o (yielded ops a.tmps) = true)
    (hl : ∀ s : LaterB w0 bad, (execOp a.eval o).run P s.val = .ok (.value (mk s.val.heap.size)) (s.val.alloc (.cells cs T)))
    (h : ∀ g w', w0.heap.size ≤ g → ¬ M g → Blk w' g T cs → Below w.heap.size w w' → wpSeqV P w0 bad ops f wild fl Q (k + 1) rest (a.put o.dst (mk g)) (fun b => M b ∨ b = g) w') : wpSeqV P w0 bad ops f wild fl Q k (o :: rest) a M w := by
  simp only [Bool.and_eq_true, Bool.not_eq_true'] at hk
  show wpSeqG _ _ _ _ _ _ _ _ _ _ _ _ _ _ _
  unfold wpSeqG
  have h1 : k ∈ fl := by simpa using hk.1
  have h2 : k ∉ wild := by have := hk.2; simpa using this
  rw [if_pos hw, if_neg h2, if_pos h1]
  refine ⟨mk, .cells cs T, fun w' hw' => ?_, fun g w' hg hM hb hbl => h g w' hg hM hb hbl⟩
  obtain ⟨s, rfl⟩ := hw'
  exact hl s
theorem seqV_nil {k : Nat} {a : Act} (h : Q a w) : wpSeqV P w0 bad ops f wild fl Q k [] a M w := h
end
theorem Kp.toBelow {w w' : World} (h : Kp (fun b => ¬ (fun _ : Nat => False) b) w w') : Below w.heap.size w w' := h.below (Nat.le_refl _) fun _ _ h => h
theorem Kp.ofBelow {w w' : World} (h : Below w.heap.size w w') : Kp (fun b => ¬ (fun _ : Nat => False) b) w w' := .of_below h
end Go.Proofs.YtnlhjhpikjmoaaaGreatDoor
