/- A region that draws its order, whose operations that touch memory wait for one another in their text's order: walked as its text stands. No program in sight.
A region that draws its order, whose operations that touch memory wait for one another in their text's order, but for some that lay out blocks of their own and may come earlier: walked as its text stands. No program in sight.
The operations of a plain region walked in two parts; blocks stored in their middle; whole structs read and stored at an operation. No program in sight. -/
import Derived.Test.YtmiceacjpadllaaGreatDoorK1
namespace Go.Proofs.YtmiceacjpadllaaGreatDoor
open Go.RowKit
section
variable {P : Program} {ops : Array Oper} {md : Region.Mode}
def plainOp2 (o : Op) : Bool := plainOp o || match o with
  | .nilCheck _ => true
  | .call c => match c.callee with
    | .builtin .len => true
    | .builtin .cap => true
    | .builtin .max => true
    | .builtin .min => true
    | _ => false
  | _ => false
theorem no_bind {α : Type} {s : Sem α} {k : α → Sem Next} {w w' : World} {f : FuncId} {args : Array Value} (h : ∀ x w1, (k x).run P w1 ≠ .ok (.enter f args) w') : (s >>= k).run P w ≠ .ok (.enter f args) w' := by
  rw [Sem.run_bind]
  cases s.run P w with
  | ok x w1 => simpa using h x w1
  | halt x w1 => intro h; cases h
theorem plain_no2 {o : Oper} (h : plainOp2 o.op = true) (ρ : Operand → Value) (w w' : World) (f : FuncId) (args : Array Value) : (execOp ρ o).run P w ≠ .ok (.enter f args) w' := by
  unfold plainOp2 at h
  rw [Bool.or_eq_true] at h
  rcases h with h | h
  · exact plain_no h ρ w w' f args
  · split at h
    · rename_i x hx
      unfold execOp
      simp only [hx]
      split
      · simp [runtimePanic, go_sem]
      · simp [runtimePanic, go_sem]
      · simp [runtimePanic, go_sem]
      · split
        · simp [runtimePanic, go_sem]
        · refine no_bind fun x w1 => no_bind fun y w2 => ?_
          split
          · refine no_bind fun z w3 => ?_
            simp [go_sem]
          · simp [go_sem]
        · simp [go_sem]
      · simp [go_sem]
    · rename_i c hc
      unfold execOp
      simp only [hc]
      split at h <;> first
        | (cases h; done)
        | (rename_i hb
           rw [Sem.run_bind]
           simp only [resolve, hb, Sem.run_pure, Result.andThen_ok, invoke, builtin]
           exact run_v_no _ _ _ _ _)
    · cases h
def StillAt (P : Program) (o : Oper) (a : Act) (w : World) (u : Value) : Prop := (execOp a.eval o).run P w = .ok (.value u) w ∨ ((execOp a.eval o).run P w = .ok .skip w ∧ u = undef)
theorem StillAt.eq {o : Oper} {a : Act} {w : World} {u u' : Value} (h : StillAt P o a w u) (h' : StillAt P o a w u') : u = u' := by
  rcases h with h | ⟨h, rfl⟩ <;> rcases h' with h' | ⟨h', rfl⟩ <;> rw [h] at h' <;> simp at h' ⊢
  exact h'
theorem StillAt.wp {o : Oper} {a : Act} {w : World} {u : Value} (h : StillAt P o a w u) {K : Act → World → Prop} {Q : Exit → Act → World → Prop} (hK : K (a.put o.dst u) w) : o.wp P a w K Q := by
  unfold Oper.wp
  rcases h with h | ⟨h, rfl⟩ <;> rw [h] <;> exact hK
theorem StillAt.congr {o : Oper} {a a' : Act} {w : World} {u : Value} (he : execOp a.eval o = execOp a'.eval o) (h : StillAt P o a' w u) : StillAt P o a w u := by
  unfold StillAt at *
  rw [he]; exact h
theorem Gives.exists_ {o : Oper} {a : Act} {w : World} {Φ : Value → World → Prop} (h : Gives P o a w Φ) : ∃ x w', Φ x w' := by
  unfold Gives at h
  generalize (execOp a.eval o).run P w = r at *
  cases r with
  | ok n w' =>
    cases n <;> simp only [giv] at h
    case value u => exact ⟨_, _, h⟩
    case skip => exact ⟨_, _, h⟩
    case enter f args =>
      obtain ⟨e, w2, _, ⟨x, _, hx⟩, _⟩ := h []
      exact ⟨x, w2, hx⟩
  | halt x w' => simp only [giv] at h
end
section
variable (P : Program) (ops : Array Oper) (C0 C1 : World → Prop) (f : Nat) (wild : List Nat)
def seqK (k : Nat) (w : World) : Prop := if waitsB .any ops ops.size f k = true then C0 w else C1 w
def wpSeq (Q : Act → World → Prop) : Nat → List Oper → Act → World → Prop
  | _, [], a, w => Q a w
  | k, o :: rest, a, w =>
    if Region.wanted o (yielded ops a.tmps) = true then
      (if k ∈ wild then Gives P o a w fun x w' => (if k < f then C0 w' else C1 w') ∧ wpSeq Q (k + 1) rest (a.put o.dst x) w'
       else ∃ u, (∀ w', seqK ops C0 C1 f k w' → StillAt P o a w' u) ∧ wpSeq Q (k + 1) rest (a.put o.dst u) w)
    else wpSeq Q (k + 1) rest (a.put o.dst undef) w
def Dep (i j : Nat) : Prop := ∀ L : Array Bool, Closed .any ops L → (∀ oj, ops[j]? = some oj → ∀ e ∈ oj.after, Region.binds .any e = true → L.getD e.on false = true) → L.getD i false = true
def chainW : List Nat → Bool
  | i :: j :: r => decide (i < j) && (waitsB .any ops ops.size j i && chainW (j :: r))
  | _ => true
def QF (a0 : Act) (e : Nat → Value) (i : Nat) : Prop := ∀ o, ops[i]? = some o →
  (wantedAt ops a0 e i o = true → ∀ w', seqK ops C0 C1 f i w' → StillAt P o (fr ops a0 (fun _ => true) e i) w' (e i)) ∧ (wantedAt ops a0 e i o = false → e i = undef)
def EF (a0 : Act) (L : Nat → Bool) (e : Nat → Value) (i : Nat) : Prop := ∀ o, ops[i]? = some o → ∀ e' : Nat → Value, (∀ k, L k = true → e' k = e k) →
  (wantedAt ops a0 e' i o = true → ∃ w', seqK ops C0 C1 f i w' ∧ StillAt P o (fr ops a0 (fun _ => true) e' i) w' (e i)) ∧ (wantedAt ops a0 e' i o = false → e i = undef)
end
section
variable {P : Program} {ops : Array Oper} {C0 C1 : World → Prop} {f : Nat} {wild : List Nat} {Q : Act → World → Prop} {a0 : Act}
theorem Dep.trans {i j k : Nat} (h : Dep ops i j) (h2 : Dep ops j k) : Dep ops i k := fun L hc hk => by
  have hj := h2 L hc hk
  exact h L hc fun oj hoj e he hb => hc j oj hoj hj e he hb
theorem chain_dep : ∀ {l : List Nat} {i : Nat}, chainW ops (i :: l) = true → (∀ j ∈ l, i < j ∧ Dep ops i j) ∧ chainW ops l = true
  | [], i, _ => ⟨by simp, rfl⟩
  | j :: r, i, h => by
    simp only [chainW, Bool.and_eq_true, decide_eq_true_eq] at h
    obtain ⟨h1, h2, h3⟩ := h
    have hij : Dep ops i j := fun L hc hj => waits_of hc _ j i hj h2
    refine ⟨fun k hk => ?_, h3⟩
    rcases List.mem_cons.1 hk with rfl | hk
    · exact ⟨h1, hij⟩
    · obtain ⟨h4, h5⟩ := (chain_dep h3).1 k hk
      exact ⟨by omega, hij.trans h5⟩
theorem chain_all : ∀ {l : List Nat}, chainW ops l = true → ∀ i ∈ l, ∀ j ∈ l, i < j → Dep ops i j
  | [], _, i, hi, _, _, _ => by cases hi
  | k :: l, h, i, hi, j, hj, hij => by
    obtain ⟨h1, h2⟩ := chain_dep h
    rcases List.mem_cons.1 hi with h3 | h3
    · rcases List.mem_cons.1 hj with h4 | h4
      · omega
      · exact h3 ▸ (h1 j h4).2
    · rcases List.mem_cons.1 hj with h4 | h4
      · have := (h1 i h3).1; omega
      · exact chain_all h2 i h3 j h4 hij
theorem fr_all_congr {e e' : Nat → Value} (k : Nat) (h : ∀ i, i < k → e i = e' i) : fr ops a0 (fun _ => true) e k = fr ops a0 (fun _ => true) e' k := fr_congr k fun i hi => ⟨rfl, fun _ => h i hi⟩
theorem wanted_congr {e e' : Nat → Value} {k : Nat} {o : Oper} (h : ∀ i, i < k → e i = e' i) : wantedAt ops a0 e k o = wantedAt ops a0 e' k o := by
  unfold wantedAt; rw [fr_all_congr k h]
theorem QF.congr {e e' : Nat → Value} {i : Nat} (hi : e i = e' i) (h : ∀ k, k < i → e k = e' k) (hq : QF P ops C0 C1 f a0 e i) : QF P ops C0 C1 f a0 e' i := by
  intro o ho
  have := hq o ho
  rw [wanted_congr h, fr_all_congr i h, hi] at this
  exact this
theorem fr_step {e : Nat → Value} {k : Nat} {o : Oper} (ho : ops[k]? = some o) (x : Value) : fr ops a0 (fun _ => true) (upd e k x) (k + 1) = (fr ops a0 (fun _ => true) e k).put o.dst x := by
  have hd0 : dstOf ops k = o.dst := by unfold dstOf; rw [ho]; rfl
  show (fr ops a0 (fun _ => true) (upd e k x) k).put (dstOf ops k) (upd e k x k) = _
  rw [hd0, fr_all_congr k (e' := e) fun i hi => by simp [upd]; omega]
  simp [upd]
theorem drop_cons {l : List Oper} {o : Oper} {k : Nat} (h : ops.toList.drop k = o :: l) : ops[k]? = some o ∧ ops.toList.drop (k + 1) = l ∧ k < ops.size := by
  have h1 : (ops.toList.drop k)[0]? = some o := by rw [h]; rfl
  rw [List.getElem?_drop] at h1
  have h2 : ops[k]? = some o := by simpa using h1
  refine ⟨h2, ?_, (Array.getElem?_eq_some_iff.1 h2).1⟩
  rw [← List.drop_drop, h]
  rfl
variable {L : Nat → Bool} {e : Nat → Value}
theorem EF.val {i : Nat} {o : Oper} {e1 : Nat → Value} {u : Value} (ho : ops[i]? = some o) (hE : EF P ops C0 C1 f a0 L e i) (hL : ∀ k, k < i → L k = true → e1 k = e k)
    (hq : (wantedAt ops a0 e1 i o = true ∧ ∀ w', seqK ops C0 C1 f i w' → StillAt P o (fr ops a0 (fun _ => true) e1 i) w' u) ∨ (wantedAt ops a0 e1 i o = false ∧ u = undef)) : u = e i := by
  have h := hE o ho (fun k => if k < i then e1 k else e k) fun k hk => by
    by_cases h : k < i
    · simp only [h, if_true]; exact hL k h hk
    · simp only [h, if_false]
  rw [wanted_congr (e' := e1) (fun k hk => by simp [hk]), fr_all_congr i (e' := e1) (fun k hk => by simp [hk])] at h
  rcases hq with ⟨h1, h2⟩ | ⟨h1, rfl⟩
  · obtain ⟨w', hk, hs⟩ := h.1 h1
    exact (h2 w' hk).eq hs
  · exact (h.2 h1).symm
theorem seq_roll : ∀ (l : List Oper) (k : Nat) (e1 : Nat → Value) (w : World), ops.toList.drop k = l → k ≤ ops.size → (∀ i, i < k → L i = true → e1 i = e i) → (∀ i, k ≤ i → i ∉ wild → L i = true → EF P ops C0 C1 f a0 L e i) →
    wpSeq P ops C0 C1 f wild Q k l (fr ops a0 (fun _ => true) e1 k) w →
    ∃ s e2, k ≤ s ∧ s ≤ ops.size ∧ (s < ops.size → s ∈ wild) ∧ (∀ i, i < k → e2 i = e1 i) ∧ (∀ i, k ≤ i → i < s → i ∉ wild ∧ QF P ops C0 C1 f a0 e2 i ∧ (L i = true → e2 i = e i)) ∧
      wpSeq P ops C0 C1 f wild Q s (ops.toList.drop s) (fr ops a0 (fun _ => true) e2 s) w
  | [], k, e1, w, hl, hk, _, _, h => by
    have : ops.size ≤ k := by simpa using List.drop_eq_nil_iff.1 hl
    exact ⟨k, e1, Nat.le_refl _, hk, fun h => by omega, fun _ _ => rfl, fun i h1 h2 => by omega, by rw [hl]; exact h⟩
  | o :: l, k, e1, w, hl, hk, he, hE, h => by
    by_cases hw : k ∈ wild
    · exact ⟨k, e1, Nat.le_refl _, hk, fun _ => hw, fun _ _ => rfl, fun i h1 h2 => by omega, by rw [hl]; exact h⟩
    obtain ⟨ho, hl', hlt⟩ := drop_cons hl
    have key : ∃ u, ((wantedAt ops a0 e1 k o = true ∧ ∀ w', seqK ops C0 C1 f k w' → StillAt P o (fr ops a0 (fun _ => true) e1 k) w' u) ∨ (wantedAt ops a0 e1 k o = false ∧ u = undef)) ∧ wpSeq P ops C0 C1 f wild Q (k + 1) l ((fr ops a0 (fun _ => true) e1 k).put o.dst u) w := by
      unfold wpSeq at h
      rw [show Region.wanted o (yielded ops (fr ops a0 (fun _ => true) e1 k).tmps) = wantedAt ops a0 e1 k o from rfl] at h
      cases hwt : wantedAt ops a0 e1 k o with
      | true =>
        rw [hwt, if_pos rfl, if_neg hw] at h
        obtain ⟨u, h1, h2⟩ := h
        exact ⟨u, .inl ⟨rfl, h1⟩, h2⟩
      | false =>
        rw [hwt, if_neg (by decide)] at h
        exact ⟨undef, .inr ⟨rfl, rfl⟩, h⟩
    obtain ⟨u, hq, h2⟩ := key
    rw [← fr_step ho u] at h2
    have hu : L k = true → u = e k := fun hL => (hE k (Nat.le_refl _) hw hL).val ho he hq
    obtain ⟨s, e2, s1, s2, s3, s4, s5, s6⟩ := seq_roll l (k + 1) (upd e1 k u) w hl' hlt (fun i hi hL => by
      by_cases hik : i = k
      · subst hik; simpa [upd] using hu hL
      · simp only [upd, hik, if_false]; exact he i (by omega) hL) (fun i hi => hE i (by omega)) h2
    have hbel : ∀ i, i < k → e2 i = e1 i := fun i hi => by rw [s4 i (by omega)]; simp [upd]; omega
    have hk2 : e2 k = u := by rw [s4 k (by omega)]; simp [upd]
    refine ⟨s, e2, by omega, s2, s3, hbel, fun i h3 h4 => ?_, s6⟩
    by_cases hik : i = k
    · subst hik
      refine ⟨hw, fun o' ho' => ?_, fun hL => by rw [hk2]; exact hu hL⟩
      rw [ho] at ho'
      cases ho'
      rw [wanted_congr (e' := e1) hbel, fr_all_congr i (e' := e1) hbel, hk2]
      rcases hq with ⟨q1, q2⟩ | ⟨q1, q2⟩
      · exact ⟨fun _ => q2, fun h => by rw [q1] at h; cases h⟩
      · exact ⟨(fun h => by rw [q1] at h; cases h), fun _ => q2⟩
    · exact s5 i (by omega) h4
theorem seq_find (j : Nat) (hjw : j ∉ wild) (hjs : j < ops.size) : ∀ (l : List Oper) (k : Nat) (e1 : Nat → Value) (w : World), ops.toList.drop k = l → k ≤ j → (∀ i, i < k → L i = true → e1 i = e i) → (∀ i, k ≤ i → i ∉ wild → L i = true → EF P ops C0 C1 f a0 L e i) → (∀ i, k ≤ i → i ∈ wild → L i = false) →
    wpSeq P ops C0 C1 f wild Q k l (fr ops a0 (fun _ => true) e1 k) w →
    ∃ e2, (∀ i, i < k → e2 i = e1 i) ∧ (∀ i, i < j → L i = true → e2 i = e i) ∧ QF P ops C0 C1 f a0 e2 j
  | [], k, e1, w, hl, hk, _, _, _, h => by
    have : ops.size ≤ k := by simpa using List.drop_eq_nil_iff.1 hl
    omega
  | o :: l, k, e1, w, hl, hk, he, hE, hW, h => by
    obtain ⟨ho, hl', hlt⟩ := drop_cons hl
    have key : ∃ u w2, (k ∉ wild → ((wantedAt ops a0 e1 k o = true ∧ ∀ w', seqK ops C0 C1 f k w' → StillAt P o (fr ops a0 (fun _ => true) e1 k) w' u) ∨ (wantedAt ops a0 e1 k o = false ∧ u = undef))) ∧ wpSeq P ops C0 C1 f wild Q (k + 1) l ((fr ops a0 (fun _ => true) e1 k).put o.dst u) w2 := by
      unfold wpSeq at h
      rw [show Region.wanted o (yielded ops (fr ops a0 (fun _ => true) e1 k).tmps) = wantedAt ops a0 e1 k o from rfl] at h
      cases hwt : wantedAt ops a0 e1 k o with
      | true =>
        rw [hwt, if_pos rfl] at h
        by_cases hw : k ∈ wild
        · rw [if_pos hw] at h
          obtain ⟨x, w2, _, h2⟩ := h.exists_
          exact ⟨x, w2, fun hn => absurd hw hn, h2⟩
        · rw [if_neg hw] at h
          obtain ⟨u, h1, h2⟩ := h
          exact ⟨u, w, fun _ => .inl ⟨rfl, h1⟩, h2⟩
      | false =>
        rw [hwt, if_neg (by decide)] at h
        exact ⟨undef, w, fun _ => .inr ⟨rfl, rfl⟩, h⟩
    obtain ⟨u, w2, hq, h2⟩ := key
    rw [← fr_step ho u] at h2
    have hu : L k = true → u = e k := fun hL => by
      by_cases hw : k ∈ wild
      · rw [hW k (Nat.le_refl _) hw] at hL; cases hL
      · exact (hE k (Nat.le_refl _) hw hL).val ho he (hq hw)
    by_cases hjk : j = k
    · subst hjk
      refine ⟨upd e1 j u, fun i hi => by simp [upd]; omega, fun i hi hL => by simp only [upd, show i ≠ j by omega, if_false]; exact he i hi hL, fun o' ho' => ?_⟩
      rw [ho] at ho'
      cases ho'
      have hbel : ∀ i, i < j → upd e1 j u i = e1 i := fun i hi => by simp [upd]; omega
      rw [wanted_congr (e' := e1) hbel, fr_all_congr j (e' := e1) hbel, show upd e1 j u j = u by simp [upd]]
      rcases hq hjw with ⟨q1, q2⟩ | ⟨q1, q2⟩
      · exact ⟨fun _ => q2, fun h => by rw [q1] at h; cases h⟩
      · exact ⟨(fun h => by rw [q1] at h; cases h), fun _ => q2⟩
    · obtain ⟨e2, g1, g2, g3⟩ := seq_find j hjw hjs l (k + 1) (upd e1 k u) w2 hl' (by omega) (fun i hi hL => by
        by_cases hik : i = k
        · subst hik; simpa [upd] using hu hL
        · simp only [upd, hik, if_false]; exact he i (by omega) hL) (fun i hi => hE i (by omega)) (fun i hi => hW i (by omega)) h2
      exact ⟨e2, fun i hi => by rw [g1 i (by omega)]; simp [upd]; omega, g2, g3⟩
theorem alike {n : Nat} {wildA : List Nat} (hm : ManyOk .any ops n wildA) {La : Array Bool} (inv : HeadInv .any ops n La) {j : Nat} {oj : Oper} (hj : j ∈ Region.ready .any ops La) (hoj : ops[j]? = some oj) (hjn : j < n) {e e' : Nat → Value} (hee : ∀ k, La.getD k false = true → e' k = e k) :
    Ag ops oj (fr ops a0 (La.getD · false) e n) (fr ops a0 (fun _ => true) e' j) := by
  have hle := hm.le
  have hc : Closed .any ops La := inv.closed
  obtain ⟨hun, oj', hoj', hdeps⟩ := mem_ready.1 hj
  rw [hoj] at hoj'
  cases hoj'
  have hLj := getD_both hun
  rw [← fr_lex j n (by omega)]
  refine ag_fr _ (fun k hk h1 h4 => (hee k h1).symm) (fun k hk hne d hd => ?_)
  obtain ⟨ok, hok⟩ : ∃ o, ops[k]? = some o := ⟨_, Array.getElem?_eq_getElem (by omega)⟩
  have hdk : ok.dst = some d := by unfold dstOf at hd; rw [hok] at hd; exact hd
  rcases Nat.lt_trichotomy k j with hlt | rfl | hgt
  · have hLk : La.getD k false = false := by
      cases h : La.getD k false with
      | false => rfl
      | true => rw [h] at hne; simp [hlt] at hne
    rcases hm.free k j ok oj hlt hjn hok hoj with ⟨e', he', hb, hon⟩ | hap
    · have := hdeps e' he' hb
      rw [hon, hLk] at this
      cases this
    · exact (Oper.apart_spec hap).1 d hdk
  · rw [hLj] at hne
    simp at hne
  · have hLk : La.getD k false = true := by
      cases h : La.getD k false with
      | true => rfl
      | false => rw [h] at hne; simp at hne; omega
    rcases hm.free j k oj ok hgt hk hoj hok with ⟨e', he', hb, hon⟩ | hap
    · have := hc k ok hok hLk e' he' hb
      rw [hon, hLj] at this
      cases this
    · exact (Oper.apart_spec hap).2.2 d hdk
structure SeqInv (P : Program) (ops : Array Oper) (C0 C1 : World → Prop) (f : Nat) (wild : List Nat) (Q : Act → World → Prop) (a0 : Act) (L : Nat → Bool) (e : Nat → Value) (w : World) (s : Nat) (e' : Nat → Value) : Prop where
  le : s ≤ ops.size
  at_ : s < ops.size → s ∈ wild ∧ L s = false
  old : ∀ k ∈ wild, k < s → L k = true
  body : wpSeq P ops C0 C1 f wild Q s (ops.toList.drop s) (fr ops a0 (fun _ => true) e' s) w
  same : ∀ i, i < s → L i = true → e' i = e i
  quiet : ∀ i, i < s → i ∉ wild → QF P ops C0 C1 f a0 e' i
  early : ∀ i, s ≤ i → i < ops.size → L i = true → i ∉ wild ∧ EF P ops C0 C1 f a0 L e i
  c0 : s ≤ f → C0 w
  c1 : C1 w
theorem seq_any {wildA : List Nat} (hm : ManyOk .any ops ops.size wildA) (hch : ∀ i ∈ wild, ∀ j ∈ wild, i < j → Dep ops i j) (hws : ∀ j ∈ wild, j < ops.size) (hf : f ∈ wild ∨ f = ops.size) (h01 : ∀ w, C0 w → C1 w) {Q' : Exit → Act → World → Prop} (hQ : ∀ a w, Q a w → Q' .normal a w) :
    ∀ (m : Nat) (La : Array Bool) (w : World) (e : Nat → Value), HeadInv .any ops ops.size La → (List.range ops.size).countP (fun i => !La.getD i false) = m →
      (∃ s e', SeqInv P ops C0 C1 f wild Q a0 (La.getD · false) e w s e') → wpAny P .any ops Q' m La (fr ops a0 (La.getD · false) e ops.size) w := by
  intro m
  induction m with
  | zero =>
    intro La w e inv hcnt ⟨s, e', hs⟩
    have hall : ∀ i, i < ops.size → La.getD i false = true := fun i hi => by
      have h := List.countP_eq_zero.1 hcnt i (List.mem_range.2 hi)
      simpa using h
    have hsn : s = ops.size := by
      rcases Nat.lt_or_ge s ops.size with h | h
      · have := (hs.at_ h).2
        rw [hall s h] at this
        cases this
      · have := hs.le; omega
    subst hsn
    have hb := hs.body
    rw [List.drop_of_length_le (by simp)] at hb
    rw [fr_congr ops.size (S' := fun _ => true) (e' := e') fun i hi => ⟨hall i hi, fun h => (hs.same i hi h).symm⟩]
    refine ⟨?_, hQ _ _ hb⟩
    cases hr : Region.ready .any ops La with
    | nil => rfl
    | cons j r =>
      have hj : j ∈ Region.ready .any ops La := by rw [hr]; simp
      obtain ⟨h0, o, ho, _⟩ := mem_ready.1 hj
      have := hall j (Array.getElem?_eq_some_iff.1 ho).1
      rw [getD_both h0] at this
      cases this
  | succ m ih =>
    intro La w e inv hcnt ⟨s, e', hs⟩
    refine ⟨fun hr => ?_, fun j hj => ?_⟩
    · exfalso
      obtain ⟨i, hi, hp⟩ := List.countP_pos_iff.1 (show 0 < (List.range ops.size).countP (fun i => !La.getD i false) by omega)
      have := all_listed hm inv.size hr i (List.mem_range.1 hi)
      rw [this] at hp
      cases hp
    obtain ⟨hun, oj, hoj, hdeps⟩ := mem_ready.1 hj
    have hjn : j < ops.size := (Array.getElem?_eq_some_iff.1 hoj).1
    have hLj := getD_both hun
    have hc : Closed .any ops La := inv.closed
    have hdj : dstOf ops j = oj.dst := by unfold dstOf; rw [hoj]; rfl
    have hset := setL_at (L := La) (n := ops.size) inv.size hjn
    have hLe : (on (fun i => La.getD i false) j) = ((La.setIfInBounds j true).getD · false) := funext fun i => (hset i).symm
    -- what comes next
    have next : ∀ (x : Value) (w' : World), (∃ s e', SeqInv P ops C0 C1 f wild Q a0 (on (La.getD · false) j) (upd e j x) w' s e') → wpAny P .any ops Q' m (La.setIfInBounds j true) ((fr ops a0 (La.getD · false) e ops.size).put oj.dst x) w' := by
      intro x w' h
      rw [← hdj, ← fr_set hm (S := (La.getD · false)) (e := e) (k := j) (x := x) hLj ops.size hjn (Nat.le_refl _), hLe]
      refine ih _ w' _ (inv.set hj hjn) ?_ (by rw [← hLe]; exact h)
      have := countP_one (p := fun i => !La.getD i false) (q := fun i => !(La.setIfInBounds j true).getD i false) (j := j) (by simp [hLj]) (by rw [hset]; simp [on]) (fun i hi => by rw [hset]; simp [on, hi]) ops.size hjn
      omega
    have hfun : waitsB .any ops ops.size f j = true → s ≤ f := fun hwt => by
      have hLf : La.getD f false = false := by
        cases h : La.getD f false with
        | false => rfl
        | true => have := waits_closed hc h hwt; rw [hLj] at this; cases this
      rcases Nat.lt_or_ge f s with h | h
      · rcases hf with hf | hf
        · have := hs.old f hf h; rw [hLf] at this; cases this
        · have := hs.le; omega
      · exact h
    have hKw : seqK ops C0 C1 f j w := by
      unfold seqK
      split
      · rename_i h; exact hs.c0 (hfun h)
      · exact hs.c1
    have hlate : ∀ i, s ≤ i → i ∈ wild → La.getD i false = false := fun i hi hw => by
      cases h : La.getD i false with
      | false => rfl
      | true => exact absurd hw (hs.early i hi (hws i hw) h).1
    have hon : ∀ k, La.getD k false = true → on (La.getD · false) j k = true := fun k hk => by unfold on; simp only [hk, Bool.or_true]
    have honj : ∀ k, k ≠ j → on (La.getD · false) j k = La.getD k false := fun k hk => by simp [on, hk]
    have hupd : ∀ (x : Value) k, k ≠ j → upd e j x k = e k := fun x k hk => by simp [upd, hk]
    -- what was executed early stays
    have hEarly : ∀ (x : Value) i, i ≠ j → EF P ops C0 C1 f a0 (La.getD · false) e i → EF P ops C0 C1 f a0 (on (La.getD · false) j) (upd e j x) i := by
      intro x i hij hE o ho e2 he2
      have := hE o ho e2 fun k hk => by
        have hkj : k ≠ j := fun h => by subst h; simp only [hLj] at hk; cases hk
        rw [he2 k (hon k hk), hupd x k hkj]
      rw [hupd x i hij]
      exact this
    have hAl := fun (e2 : Nat → Value) (h : ∀ k, La.getD k false = true → e2 k = e k) => alike (a0 := a0) hm inv hj hoj hjn h
    unfold wpOp
    simp only [hoj]
    rcases Nat.lt_trichotomy j s with hjs | hjs | hjs
    · have hjw : j ∉ wild := fun h => by
        have := hs.old j h hjs
        simp only [hLj] at this; cases this
      have hAg := hAl (fun k => if k < s then e' k else e k) fun k hk => by
        by_cases h : k < s
        · simp only [h, if_true]; exact hs.same k h hk
        · simp only [h, if_false]
      rw [fr_all_congr j (e' := e') (fun i hi => by simp only [show i < s by omega, if_true])] at hAg
      have hq := hs.quiet j hjs hjw oj hoj
      have nxt := next (e' j) w ⟨s, e', hs.le, fun h => ⟨(hs.at_ h).1, by rw [honj s (by omega)]; exact (hs.at_ h).2⟩, fun k hk h => hon k (hs.old k hk h), hs.body,
        fun i hi h => by
          by_cases hij : i = j
          · subst hij; simp [upd]
          · rw [hupd _ i hij]; exact hs.same i hi (by rw [← honj i hij]; exact h),
        hs.quiet, fun i hi hin h => by
          have hij : i ≠ j := by omega
          rw [honj i hij] at h
          obtain ⟨g1, g2⟩ := hs.early i hi hin h
          exact ⟨g1, hEarly _ i hij g2⟩, hs.c0, hs.c1⟩
      have hwt : Region.wanted oj (yielded ops (fr ops a0 (La.getD · false) e ops.size).tmps) = wantedAt ops a0 e' j oj := hAg.wanted
      cases hw : wantedAt ops a0 e' j oj with
      | true =>
        rw [if_pos (by rw [hwt, hw])]
        exact .inl (((hq.1 hw w hKw).congr (hAg.exec (hm.sel j oj · · hoj))).wp nxt)
      | false =>
        rw [if_neg (by rw [hwt, hw]; decide)]
        rw [hq.2 hw] at nxt
        exact nxt
    · subst hjs
      have hjw : j ∈ wild := (hs.at_ hjn).1
      have hAg := hAl (fun k => if k < j then e' k else e k) fun k hk => by
        by_cases h : k < j
        · simp only [h, if_true]; exact hs.same k h hk
        · simp only [h, if_false]
      rw [fr_all_congr j (e' := e') (fun i hi => by simp only [hi, if_true])] at hAg
      have hdr : ops.toList.drop j = oj :: ops.toList.drop (j + 1) := by
        rw [List.drop_eq_getElem_cons (by simpa using hjn)]
        congr 1
        have := (Array.getElem?_eq_some_iff.1 hoj).2
        simpa using this
      have hb := hs.body
      rw [hdr] at hb
      unfold wpSeq at hb
      have nxt : ∀ (x : Value) (w' : World), (if j < f then C0 w' else C1 w') → wpSeq P ops C0 C1 f wild Q (j + 1) (ops.toList.drop (j + 1)) ((fr ops a0 (fun _ => true) e' j).put oj.dst x) w' →
          wpAny P .any ops Q' m (La.setIfInBounds j true) ((fr ops a0 (La.getD · false) e ops.size).put oj.dst x) w' := by
        intro x w' hcl hsq
        refine next x w' ?_
        rw [← fr_step hoj x] at hsq
        obtain ⟨s2, e2, r1, r2, r3, r4, r5, r6⟩ := seq_roll (L := (La.getD · false)) (e := e) _ (j + 1) (upd e' j x) w' rfl hjn (fun i hi hL => by
          have hij : i ≠ j := fun h => by subst h; simp only [hLj] at hL; cases hL
          rw [show upd e' j x i = e' i by simp [upd, hij]]
          exact hs.same i (by omega) hL) (fun i hi hiw hL => by
            have hin : i < ops.size := by
              rcases Nat.lt_or_ge i ops.size with h | h
              · exact h
              · simp [Array.getElem?_eq_none (show La.size ≤ i by rw [inv.size]; exact h)] at hL
            exact (hs.early i (by omega) hin hL).2) hsq
        have hb2 : ∀ i, i < j → e2 i = e' i := fun i hi => by rw [r4 i (by omega)]; simp [upd]; omega
        refine ⟨s2, e2, r2, fun h => ⟨r3 h, by rw [honj s2 (by omega)]; exact hlate s2 (by omega) (r3 h)⟩, fun k hk h => ?_, r6, fun i hi h => ?_, fun i hi hiw => ?_, fun i hi hin h => ?_, fun h => ?_, ?_⟩
        · rcases Nat.lt_trichotomy k j with h1 | h1 | h1
          · exact hon k (hs.old k hk h1)
          · simp [on, h1]
          · exact absurd hk (r5 k (by omega) h).1
        · rcases Nat.lt_trichotomy i j with h1 | h1 | h1
          · rw [hb2 i h1, hupd x i (by omega)]
            exact hs.same i h1 (by rw [← honj i (by omega)]; exact h)
          · subst h1
            rw [r4 i (by omega)]; simp [upd]
          · rw [hupd x i (by omega)]
            exact (r5 i (by omega) hi).2.2 (by rw [← honj i (by omega)]; exact h)
        · rcases Nat.lt_trichotomy i j with h1 | h1 | h1
          · exact (hs.quiet i h1 hiw).congr (hb2 i h1).symm fun k hk => (hb2 k (by omega)).symm
          · exact absurd (h1 ▸ hjw) hiw
          · exact (r5 i (by omega) hi).2.1
        · have hij : i ≠ j := by omega
          rw [honj i hij] at h
          obtain ⟨g1, g2⟩ := hs.early i (by omega) hin h
          exact ⟨g1, hEarly _ i hij g2⟩
        · rw [if_pos (by omega)] at hcl; exact hcl
        · split at hcl
          · exact h01 _ hcl
          · exact hcl
      have hwt : Region.wanted oj (yielded ops (fr ops a0 (La.getD · false) e ops.size).tmps) = wantedAt ops a0 e' j oj := hAg.wanted
      rw [show Region.wanted oj (yielded ops (fr ops a0 (fun _ => true) e' j).tmps) = wantedAt ops a0 e' j oj from rfl] at hb
      cases hw : wantedAt ops a0 e' j oj with
      | true =>
        rw [if_pos (by rw [hwt, hw])]
        rw [hw, if_pos rfl, if_pos hjw] at hb
        exact .inl ((hb.congr (hAg.exec (hm.sel j oj · · hoj))).wp fun x w' ⟨h1, h2⟩ => nxt x w' h1 h2)
      | false =>
        rw [if_neg (by rw [hwt, hw]; decide)]
        rw [hw, if_neg (by decide)] at hb
        refine nxt undef w ?_ hb
        split
        · rename_i h; exact hs.c0 (by omega)
        · exact hs.c1
    · have hsn : s < ops.size := by omega
      obtain ⟨hsw, hLs⟩ := hs.at_ hsn
      have hjw : j ∉ wild := fun h => by
        have := hch s hsw j h hjs La hc fun oj' hoj' => by rw [hoj] at hoj'; cases hoj'; exact hdeps
        simp only [this] at hLs; cases hLs
      obtain ⟨e2, g1, g2, g3⟩ := seq_find (L := (La.getD · false)) (e := e) j hjw hjn _ s e' w rfl (by omega) (fun i hi hL => hs.same i hi hL) (fun i hi hiw hL => by
        have hin : i < ops.size := by
          rcases Nat.lt_or_ge i ops.size with h | h
          · exact h
          · simp [Array.getElem?_eq_none (show La.size ≤ i by rw [inv.size]; exact h)] at hL
        exact (hs.early i hi hin hL).2) (fun i hi hiw => hlate i hi hiw) hs.body
      have hAg := hAl (fun k => if k < j then e2 k else e k) fun k hk => by
        by_cases h : k < j
        · simp only [h, if_true]; exact g2 k h hk
        · simp only [h, if_false]
      rw [fr_all_congr j (e' := e2) (fun i hi => by simp only [hi, if_true])] at hAg
      have hq := g3 oj hoj
      have hwt : Region.wanted oj (yielded ops (fr ops a0 (La.getD · false) e ops.size).tmps) = wantedAt ops a0 e2 j oj := hAg.wanted
      have nxt : ((wantedAt ops a0 e2 j oj = true → StillAt P oj (fr ops a0 (La.getD · false) e ops.size) w (e2 j)) ∧ (wantedAt ops a0 e2 j oj = false → e2 j = undef)) →
          wpAny P .any ops Q' m (La.setIfInBounds j true) ((fr ops a0 (La.getD · false) e ops.size).put oj.dst (e2 j)) w := fun hv => next (e2 j) w ⟨s, e', hs.le, fun h => ⟨hsw, by rw [honj s (by omega)]; exact hLs⟩, fun k hk h => hon k (hs.old k hk h), hs.body,
        fun i hi h => by
          have hij : i ≠ j := by omega
          rw [hupd _ i hij]; exact hs.same i hi (by rw [← honj i hij]; exact h),
        hs.quiet, fun i hi hin h => by
          by_cases hij : i = j
          · subst hij
            refine ⟨hjw, fun o ho e3 he3 => ?_⟩
            rw [hoj] at ho
            cases ho
            have hAg3 := hAl e3 fun k hk => by
              have hkj : k ≠ i := fun h => by subst h; rw [hLj] at hk; cases hk
              rw [he3 k (hon k hk), hupd _ k hkj]
            have hw3 : wantedAt ops a0 e3 i oj = wantedAt ops a0 e2 i oj := by rw [← hwt]; exact (hAg3.wanted).symm
            rw [hw3, show upd e i (e2 i) i = e2 i by simp [upd]]
            exact ⟨fun h => ⟨w, hKw, (hv.1 h).congr (hAg3.exec (hm.sel i oj · · hoj)).symm⟩, hv.2⟩
          · rw [honj i hij] at h
            obtain ⟨k1, k2⟩ := hs.early i hi hin h
            exact ⟨k1, hEarly _ i hij k2⟩, hs.c0, hs.c1⟩
      cases hw : wantedAt ops a0 e2 j oj with
      | true =>
        rw [if_pos (by rw [hwt, hw])]
        have hst := (hq.1 hw w hKw).congr (hAg.exec (hm.sel j oj · · hoj))
        exact .inl (hst.wp (nxt ⟨fun _ => hst, fun h => by rw [hw] at h; cases h⟩))
      | false =>
        rw [if_neg (by rw [hwt, hw]; decide)]
        have := nxt ⟨(fun h => by rw [hw] at h; cases h), hq.2⟩
        rw [hq.2 hw] at this
        exact this
def wildAll (ops : Array Oper) : List Nat := (List.range ops.size).filter fun j => match ops[j]? with | some o => !plainOp o.op | none => false
def seqB (ops : Array Oper) (f : Nat) (wild : List Nat) : Bool :=
  manyB .any ops ops.size (wildAll ops) && (chainW ops wild && ((wild.contains f || f == ops.size) && wild.all fun j => decide (j < ops.size)))
theorem wp_seq {id : Nat} {Q : Exit → Act → World → Prop} {a : Act} {w : World} {l : List Oper} (C0 C1 : World → Prop) (f : Nat) (wild : List Nat) (hmx : P.follows .mixedOrders = true) (hB : seqB l.toArray f wild = true) (h01 : ∀ w, C0 w → C1 w) (hc : C0 w.drew)
    (h : wpSeq P l.toArray C0 C1 f wild (fun a' w' => Q .normal a' w') 0 l a w.drew) : (Code.region id l.toArray true).wp P Q a w := by
  refine wp_region_any hmx ?_
  simp only [seqB, Bool.and_eq_true, List.all_eq_true, decide_eq_true_eq, Bool.or_eq_true, beq_iff_eq] at hB
  obtain ⟨hB1, hB2, hB3, hB4⟩ := hB
  have hm := many_ok hB1
  have hch := chain_all (l := wild) hB2
  have hfr : ∀ n, fr l.toArray a ((Array.replicate l.toArray.size false).getD · false) (fun _ => undef) n = a := by
    intro n
    induction n with
    | zero => rfl
    | succ n ih => unfold fr; rw [ih, getD_replicate_false, if_neg (by simp)]
  obtain ⟨s, e2, r1, r2, r3, r4, r5, r6⟩ := seq_roll (a0 := a) (L := fun _ => false) (e := fun _ => undef) l 0 (fun _ => undef) w.drew (by simp) (Nat.zero_le _) (fun i hi => absurd hi (by omega)) (fun i _ _ h => by cases h) h
  have hfw : f ∈ wild ∨ f = l.toArray.size := by
    rcases hB3 with h | h
    · exact .inl (by simpa using h)
    · exact .inr h
  have hno : ∀ {p : Prop} (i : Nat), (Array.replicate l.toArray.size false).getD i false = true → p := fun i h => by rw [getD_replicate_false] at h; cases h
  have := seq_any (a0 := a) (Q' := Q) (C0 := C0) (C1 := C1) (Q := fun a' w' => Q .normal a' w') hm hch hB4 hfw h01 (fun _ _ h => h) l.length (Array.replicate l.toArray.size false) w.drew (fun _ => undef)
    ⟨by simp, fun j oj _ hl => hno j hl, fun t h1 h2 => (by omega)⟩ (by
      have : (fun i => !(Array.replicate l.toArray.size false).getD i false) = fun _ => true := funext fun i => by rw [getD_replicate_false]; rfl
      rw [this]; simp)
    ⟨s, e2, r2, fun h => ⟨r3 h, getD_replicate_false _ _⟩, fun k hk h => absurd hk (r5 k (Nat.zero_le _) h).1, r6, fun i hi h => hno i h, fun i hi _ => (r5 i (Nat.zero_le _) hi).2.1, fun i _ _ h => hno i h, fun _ => hc, h01 _ hc⟩
  rw [hfr] at this
  simpa using this
theorem seq_pre {C0 C1 : World → Prop} {f : Nat} {wild : List Nat} {Q : Act → World → Prop} {w : World} (n : Nat) {C : World → Prop} {k : Nat} {l : List Oper} {a : Act} (hC : ∀ i, i < n → ∀ w', seqK ops C0 C1 f (k + i) w' → C w')
    (hno : ((List.range n).all (fun i => !wild.contains (k + i)) && (l.take n).all (fun o => plainOp2 o.op)) = true)
    (h : wpQuiet P ops C (fun a' => wpSeq P ops C0 C1 f wild Q (k + n) (l.drop n) a' w) (l.take n) a) : wpSeq P ops C0 C1 f wild Q k l a w := by
  induction n generalizing k l a with
  | zero => simpa [wpQuiet] using h
  | succ n ih =>
    cases l with
    | nil => simpa [wpQuiet, wpSeq] using h
    | cons o l =>
      simp only [Bool.and_eq_true, List.all_eq_true, List.mem_range] at hno
      obtain ⟨hno1, hno2⟩ := hno
      have h0 : k ∉ wild := by have := hno1 0 (by omega); simpa using this
      have hpl : plainOp2 o.op = true := hno2 o (by simp)
      have next : ∀ a', wpQuiet P ops C (fun a' => wpSeq P ops C0 C1 f wild Q (k + (n + 1)) ((o :: l).drop (n + 1)) a' w) (l.take n) a' → wpSeq P ops C0 C1 f wild Q (k + 1) l a' w := fun a' h' =>
        ih (fun i hi w' hw => hC (i + 1) (by omega) w' (by rw [show k + (i + 1) = k + 1 + i by omega]; exact hw)) (by
          simp only [Bool.and_eq_true, List.all_eq_true, List.mem_range]
          refine ⟨fun i hi => ?_, fun o' ho' => hno2 o' (by rw [List.take_succ_cons]; exact List.mem_cons_of_mem _ ho')⟩
          have := hno1 (i + 1) (by omega)
          rw [show k + 1 + i = k + (i + 1) by omega]; exact this) (by
          have e : k + 1 + n = k + (n + 1) := by omega
          rw [e]; simpa using h')
      rw [List.take_succ_cons] at h
      unfold wpQuiet at h
      unfold wpSeq
      split at h
      · rename_i hw
        rw [if_pos hw, if_neg h0]
        obtain ⟨u, h1, h2⟩ := h
        refine ⟨u, fun w' hw' => ?_, next _ h2⟩
        have h3 := h1 w' (hC 0 (by omega) w' (by simpa using hw'))
        have hn := plain_no2 (P := P) hpl a.eval w'
        unfold Oper.quietAt at h3
        unfold StillAt
        generalize (execOp a.eval o).run P w' = r at *
        cases r with
        | ok n' w2 =>
          cases n' <;> simp only [Oper.quietUpon] at h3
          case value u' => exact .inl (by rw [h3.1, h3.2])
          case skip => exact .inr ⟨by rw [h3.1], h3.2⟩
          case enter g args => exact absurd rfl (hn w2 g args)
        | halt x w2 => simp only [Oper.quietUpon] at h3
      · rename_i hw
        rw [if_neg hw]
        exact next _ h
end
def laterC (w : World) (w' : World) : Prop := ∃ s : Later w, w' = s.val
theorem laterC.of {w w' : World} (h : Below w.heap.size w w') : laterC w w' := ⟨⟨w', h⟩, rfl⟩
def wpSeqL (P : Program) (w : World) (ops : Array Oper) (wild : List Nat) (Q : Act → World → Prop) : Nat → List Oper → Act → World → Prop := wpSeq P ops (laterC w) (laterC w) ops.size wild Q
section
variable {P : Program} {ops : Array Oper} {w w0 : World} {wild : List Nat} {Q : Act → World → Prop}
theorem wp_seqL {id : Nat} {Q : Exit → Act → World → Prop} {a : Act} {l : List Oper} (wild : List Nat) (hmx : P.follows .mixedOrders = true) (hB : seqB l.toArray l.toArray.size wild = true)
    (h : ∀ w0, Below w.heap.size w w0 → wpSeqL P w l.toArray wild (fun a' w' => Q .normal a' w') 0 l a w0) : (Code.region id l.toArray true).wp P Q a w :=
  wp_seq (laterC w) (laterC w) l.toArray.size wild hmx hB (fun _ h => h) (.of (Below.refl _ _).drew) (h _ (Below.refl _ _).drew)
theorem seqL_pre (n : Nat) {k : Nat} {l : List Oper} {a : Act} (hno : ((List.range n).all (fun i => !wild.contains (k + i)) && (l.take n).all (fun o => plainOp2 o.op)) = true)
    (h : wpQuiet P ops (fun w' => ∃ s : Later w, w' = s.val) (fun a' => wpSeqL P w ops wild Q (k + n) (l.drop n) a' w0) (l.take n) a) : wpSeqL P w ops wild Q k l a w0 :=
  seq_pre n (fun i _ w' hw => by unfold seqK at hw; split at hw <;> exact hw) hno h
theorem seqL_wild {k : Nat} {o : Oper} {rest : List Oper} {a : Act} (hB : Below w.heap.size w w0) (hk : wild.contains k = true) (hw : Region.wanted o (yielded ops a.tmps) = true)
    (h : ∀ K : Value → World → Prop, (∀ x w', Below w0.heap.size w0 w' → (Below w.heap.size w w' → wpSeqL P w ops wild Q (k + 1) rest (a.put o.dst x) w') → K x w') → Gives P o a w0 K) : wpSeqL P w ops wild Q k (o :: rest) a w0 := by
  show wpSeq _ _ _ _ _ _ _ _ _ _ _
  unfold wpSeq
  rw [if_pos hw, if_pos (by simpa using hk)]
  refine (h (fun x w' => Below w.heap.size w w' ∧ wpSeqL P w ops wild Q (k + 1) rest (a.put o.dst x) w') fun x w' h1 h2 => ?_).mono fun x w' ⟨h1, h2⟩ => ?_
  · have h3 := hB.trans (h1.mono hB.size)
    exact ⟨h3, h2 h3⟩
  · split
    · exact ⟨.of h1, h2⟩
    · exact ⟨.of h1, h2⟩
theorem seqL_nil {k : Nat} {a : Act} (h : Q a w0) : wpSeqL P w ops wild Q k [] a w0 := h
end
def wpSeqB (P : Program) (w : World) (bad : Nat → Prop) (ops : Array Oper) (f : Nat) (wild : List Nat) (Q : Act → World → Prop) : Nat → List Oper → Act → World → Prop := wpSeq P ops (laterC w) (fun w' => ∃ s : LaterB w bad, w' = s.val) f wild Q
theorem later_laterB {bad : Nat → Prop} {w w' : World} (h : laterC w w') : ∃ s : LaterB w bad, w' = s.val := by
  obtain ⟨s, rfl⟩ := h
  exact ⟨⟨s.val, (Kp.of_below s.below)⟩, rfl⟩
section
variable {P : Program} {ops : Array Oper} {w w0 : World} {bad : Nat → Prop} {f : Nat} {wild : List Nat} {Q : Act → World → Prop}
theorem wp_seqB {id : Nat} {Q : Exit → Act → World → Prop} {a : Act} {l : List Oper} (bad : Nat → Prop) (f : Nat) (wild : List Nat) (hmx : P.follows .mixedOrders = true) (hB : seqB l.toArray f wild = true)
    (h : ∀ w0, Below w.heap.size w w0 → wpSeqB P w bad l.toArray f wild (fun a' w' => Q .normal a' w') 0 l a w0) : (Code.region id l.toArray true).wp P Q a w :=
  wp_seq (laterC w) (fun w' => ∃ s : LaterB w bad, w' = s.val) f wild hmx hB (fun _ h => later_laterB h) (.of (Below.refl _ _).drew) (h _ (Below.refl _ _).drew)
theorem seqB_pre (n : Nat) {k : Nat} {l : List Oper} {a : Act} (hno : ((List.range n).all (fun i => !wild.contains (k + i)) && (l.take n).all (fun o => plainOp2 o.op)) = true)
    (h : wpQuiet P ops (fun w' => ∃ s : LaterB w bad, w' = s.val) (fun a' => wpSeqB P w bad ops f wild Q (k + n) (l.drop n) a' w0) (l.take n) a) : wpSeqB P w bad ops f wild Q k l a w0 :=
  seq_pre n (fun i _ w' hw => by
    unfold seqK at hw
    split at hw
    · exact later_laterB hw
    · exact hw) hno h
theorem seqB_wild0 {k : Nat} {o : Oper} {rest : List Oper} {a : Act} (hB : Below w.heap.size w w0) (hk : (wild.contains k && decide (k < f)) = true) (hw : Region.wanted o (yielded ops a.tmps) = true)
    (h : ∀ K : Value → World → Prop, (∀ x w', Below w0.heap.size w0 w' → (Below w.heap.size w w' → wpSeqB P w bad ops f wild Q (k + 1) rest (a.put o.dst x) w') → K x w') → Gives P o a w0 K) : wpSeqB P w bad ops f wild Q k (o :: rest) a w0 := by
  simp only [Bool.and_eq_true, decide_eq_true_eq] at hk
  show wpSeq _ _ _ _ _ _ _ _ _ _ _
  unfold wpSeq
  rw [if_pos hw, if_pos (by simpa using hk.1)]
  refine (h (fun x w' => Below w.heap.size w w' ∧ wpSeqB P w bad ops f wild Q (k + 1) rest (a.put o.dst x) w') fun x w' h1 h2 => ?_).mono fun x w' ⟨h1, h2⟩ => ?_
  · have h3 := hB.trans (h1.mono hB.size)
    exact ⟨h3, h2 h3⟩
  · rw [if_pos hk.2]
    exact ⟨.of h1, h2⟩
theorem seqB_wild {k : Nat} {o : Oper} {rest : List Oper} {a : Act} (hB : Kp (fun b => ¬ bad b) w w0) (hk : (wild.contains k && decide (f ≤ k)) = true) (hw : Region.wanted o (yielded ops a.tmps) = true)
    (h : ∀ K : Value → World → Prop, (∀ x w', Kp (fun b => ¬ bad b) w0 w' → (Kp (fun b => ¬ bad b) w w' → wpSeqB P w bad ops f wild Q (k + 1) rest (a.put o.dst x) w') → K x w') → Gives P o a w0 K) : wpSeqB P w bad ops f wild Q k (o :: rest) a w0 := by
  simp only [Bool.and_eq_true, decide_eq_true_eq] at hk
  show wpSeq _ _ _ _ _ _ _ _ _ _ _
  unfold wpSeq
  rw [if_pos hw, if_pos (by simpa using hk.1)]
  refine (h (fun x w' => Kp (fun b => ¬ bad b) w w' ∧ wpSeqB P w bad ops f wild Q (k + 1) rest (a.put o.dst x) w') fun x w' h1 h2 => ?_).mono fun x w' ⟨h1, h2⟩ => ?_
  · have h3 := hB.trans h1
    exact ⟨h3, h2 h3⟩
  · rw [if_neg (by omega)]
    exact ⟨⟨⟨w', h1⟩, rfl⟩, h2⟩
theorem seqB_nil {k : Nat} {a : Act} (h : Q a w0) : wpSeqB P w bad ops f wild Q k [] a w0 := h
end
end Go.Proofs.YtmiceacjpadllaaGreatDoor
namespace Go.Proofs.YtmiceacjpadllaaGreatDoor
open Go.RowKit
section
variable (P : Program) (ops : Array Oper) (C0 C1 : World → Prop) (f : Nat) (wild fl : List Nat) (w0 : World) (bad : Nat → Prop)
def keepB (M : Nat → Prop) (b : Nat) : Prop := (b < w0.heap.size ∧ ¬ bad b) ∨ (w0.heap.size ≤ b ∧ ¬ M b)
def Lays (o : Oper) (a : Act) (mk : Nat → Value) (obj : Obj) : Prop := ∀ w', C1 w' → (execOp a.eval o).run P w' = .ok (.value (mk w'.heap.size)) (w'.alloc obj)
def wpSeqG (Q : Act → World → Prop) : Nat → List Oper → Act → (Nat → Prop) → World → Prop
  | _, [], a, _, w => Q a w
  | k, o :: rest, a, M, w =>
    if Region.wanted o (yielded ops a.tmps) = true then
      (if k ∈ wild then ∀ w', Below w.heap.size w w' → (fl.all (fun j => decide (j < k)) = true → w' = w) →
          Gives P o a w' fun x w'' => (if k < f then C0 w'' else C1 w'') ∧ Kp (keepB w0 bad M) w' w'' ∧ wpSeqG Q (k + 1) rest (a.put o.dst x) (fun b => M b ∨ (w'.heap.size ≤ b ∧ b < w''.heap.size)) w''
       else if k ∈ fl then ∃ mk obj, Lays P C1 o a mk obj ∧
          ∀ g w', w0.heap.size ≤ g → ¬ M g → w'.heap[g]? = some obj → Below w.heap.size w w' → wpSeqG Q (k + 1) rest (a.put o.dst (mk g)) (fun b => M b ∨ b = g) w'
       else ∃ u, (∀ w', seqK ops C0 C1 f k w' → StillAt P o a w' u) ∧ wpSeqG Q (k + 1) rest (a.put o.dst u) M w)
    else wpSeqG Q (k + 1) rest (a.put o.dst undef) M w
structure FlRec where
  W : Bool
  Wd : World
  O : Obj
def FlRec.g (r : FlRec) : Nat := r.Wd.heap.size
structure FlOK (a0 : Act) (L : Nat → Bool) (e : Nat → Value) (R : Nat → FlRec) (M : Nat → Prop) (wa : World) (i : Nat) : Prop where
  run : ∀ o, ops[i]? = some o → ∀ e' : Nat → Value, (∀ k, L k = true → e' k = e k) → wantedAt ops a0 e' i o = (R i).W ∧ ((R i).W = true → (execOp (fr ops a0 (fun _ => true) e' i).eval o).run P (R i).Wd = .ok (.value (e i)) ((R i).Wd.alloc (R i).O))
  off : (R i).W = false → e i = undef
  cls : (R i).W = true → C1 (R i).Wd
  low : (R i).W = true → w0.heap.size ≤ (R i).g
  mine : (R i).W = true → ¬ M (R i).g
  blk : (R i).W = true → wa.heap[(R i).g]? = some (R i).O
structure Fls (a0 : Act) (L : Nat → Bool) (e : Nat → Value) (R : Nat → FlRec) (M : Nat → Prop) (wa : World) (k : Nat) : Prop where
  ok : ∀ i ∈ fl, k ≤ i → L i = true → FlOK P ops C1 w0 a0 L e R M wa i
  apart : ∀ i ∈ fl, ∀ j ∈ fl, k ≤ i → k ≤ j → i ≠ j → L i = true → L j = true → (R i).W = true → (R j).W = true → (R i).g ≠ (R j).g
end
section
variable {P : Program} {ops : Array Oper} {C0 C1 : World → Prop} {f : Nat} {wild fl : List Nat} {Q : Act → World → Prop} {a0 : Act} {w0 : World} {bad : Nat → Prop}
theorem alloc_inj {w : World} {o o' : Obj} (h : w.alloc o = w.alloc o') : o = o' := by
  have h1 := heap_alloc_new w o
  have h2 := heap_alloc_new w o'
  rw [h, h2] at h1
  exact (Option.some.inj h1).symm
theorem get_lt {w : World} {g : Nat} {o : Obj} (h : w.heap[g]? = some o) : g < w.heap.size := (Array.getElem?_eq_some_iff.1 h).1
theorem Fls.step {L : Nat → Bool} {e : Nat → Value} {R : Nat → FlRec} {M : Nat → Prop} {wa : World} {k : Nat} (h : Fls P ops C1 fl w0 a0 L e R M wa k) : Fls P ops C1 fl w0 a0 L e R M wa (k + 1) :=
  ⟨fun i hi hk => h.ok i hi (by omega), fun i hi j hj h1 h2 => h.apart i hi j hj (by omega) (by omega)⟩
theorem Fls.visit {L : Nat → Bool} {e : Nat → Value} {R : Nat → FlRec} {M : Nat → Prop} {wa : World} {k : Nat} (h : Fls P ops C1 fl w0 a0 L e R M wa k) (hk : k ∈ fl) (hL : L k = true) (hW : (R k).W = true) : Fls P ops C1 fl w0 a0 L e R (fun b => M b ∨ b = (R k).g) wa (k + 1) := by
  refine ⟨fun i hi hik hLi => ?_, h.step.apart⟩
  have hf := h.ok i hi (by omega) hLi
  have hm : (R i).W = true → ¬ (M (R i).g ∨ (R i).g = (R k).g) := fun hw hm => by
    rcases hm with hm | hm
    · exact hf.mine hw hm
    · exact h.apart i hi k hk (by omega) (Nat.le_refl _) (by omega) hLi hL hw hW hm
  exact { hf with mine := hm }
theorem Fls.chain {L : Nat → Bool} {e : Nat → Value} {R : Nat → FlRec} {M : Nat → Prop} {wa wb : World} {k : Nat} (h : Fls P ops C1 fl w0 a0 L e R M wa k) (hK : Kp (keepB w0 bad M) wa wb) : Fls P ops C1 fl w0 a0 L e R (fun b => M b ∨ (wa.heap.size ≤ b ∧ b < wb.heap.size)) wb (k + 1) := by
  refine ⟨fun i hi hik hLi => ?_, h.step.apart⟩
  have hf := h.ok i hi (by omega) hLi
  have hm : (R i).W = true → ¬ (M (R i).g ∨ (wa.heap.size ≤ (R i).g ∧ (R i).g < wb.heap.size)) := fun hw hm => by
    rcases hm with hm | hm
    · exact hf.mine hw hm
    · have := get_lt (hf.blk hw); omega
  have hb : (R i).W = true → wb.heap[(R i).g]? = some (R i).O := fun hw => by
    rw [hK.block _ (get_lt (hf.blk hw)) (.inr ⟨hf.low hw, hf.mine hw⟩)]
    exact hf.blk hw
  exact { hf with mine := hm, blk := hb }
theorem Fls.none {L : Nat → Bool} {e : Nat → Value} {R : Nat → FlRec} {M : Nat → Prop} {wa : World} {k : Nat} (h : ∀ i ∈ fl, k ≤ i → L i = false) : Fls P ops C1 fl w0 a0 L e R M wa k :=
  ⟨(fun i hi hk hL => by rw [h i hi hk] at hL; cases hL), (fun i hi j hj h1 h2 _ hL => by rw [h i hi h1] at hL; cases hL)⟩
variable {L : Nat → Bool} {e : Nat → Value} {R : Nat → FlRec}
theorem agree_upd {e1 : Nat → Value} {k : Nat} {u : Value} (he : ∀ i, i < k → L i = true → e1 i = e i) (hu : L k = true → u = e k) : ∀ i, i < k + 1 → L i = true → upd e1 k u i = e i := fun i hi hL => by
  by_cases hik : i = k
  · subst hik; simpa [upd] using hu hL
  · simp only [upd, hik, if_false]; exact he i (by omega) hL
theorem agree_ext {e1 : Nat → Value} {k : Nat} (he : ∀ i, i < k → L i = true → e1 i = e i) : ∀ i, L i = true → (fun j => if j < k then e1 j else e j) i = e i := fun i hL => by
  by_cases h : i < k
  · simp only [h, if_true]; exact he i h hL
  · simp only [h, if_false]
theorem FlOK.at_ {M : Nat → Prop} {wa : World} {i : Nat} {o : Oper} {e1 : Nat → Value} (h : FlOK P ops C1 w0 a0 L e R M wa i) (ho : ops[i]? = some o) (he : ∀ k, k < i → L k = true → e1 k = e k) :
    wantedAt ops a0 e1 i o = (R i).W ∧ ((R i).W = true → (execOp (fr ops a0 (fun _ => true) e1 i).eval o).run P (R i).Wd = .ok (.value (e i)) ((R i).Wd.alloc (R i).O)) := by
  have := h.run o ho _ (agree_ext he)
  rw [wanted_congr (e' := e1) (fun k hk => by simp [hk]), fr_all_congr i (e' := e1) (fun k hk => by simp [hk])] at this
  exact this
theorem FlOK.lays {M : Nat → Prop} {wa : World} {i : Nat} {o : Oper} {e1 : Nat → Value} {mk : Nat → Value} {obj : Obj} (h : FlOK P ops C1 w0 a0 L e R M wa i) (ho : ops[i]? = some o) (he : ∀ k, k < i → L k = true → e1 k = e k) (hW : (R i).W = true) (hl : Lays P C1 o (fr ops a0 (fun _ => true) e1 i) mk obj) : mk (R i).g = e i ∧ obj = (R i).O := by
  have h1 := (h.at_ ho he).2 hW
  rw [hl _ (h.cls hW)] at h1
  simp only [Result.ok.injEq, Next.value.injEq] at h1
  exact ⟨h1.1, alloc_inj h1.2⟩
theorem seqG_roll : ∀ (l : List Oper) (k : Nat) (e1 : Nat → Value) (M : Nat → Prop) (w wa : World), ops.toList.drop k = l → k ≤ ops.size → (∀ i, i < k → L i = true → e1 i = e i) → (∀ i, k ≤ i → i ∉ wild → i ∉ fl → L i = true → EF P ops C0 C1 f a0 L e i) →
    (∀ i ∈ wild, k ≤ i → L i = false) → Fls P ops C1 fl w0 a0 L e R M wa k → Below w.heap.size w wa → ((∀ i ∈ fl, k ≤ i → L i = true → (R i).W = false) → w = wa) → (∀ b, M b → b < w.heap.size) →
    wpSeqG P ops C0 C1 f wild fl w0 bad Q k l (fr ops a0 (fun _ => true) e1 k) M w →
    ∃ s e2 M2 w2, k ≤ s ∧ s ≤ ops.size ∧ (s < ops.size → (s ∈ wild ∨ s ∈ fl) ∧ L s = false) ∧ (∀ i, i < k → e2 i = e1 i) ∧ (∀ i, k ≤ i → i < s → i ∉ wild ∧ (i ∈ fl → L i = true) ∧ (i ∉ fl → QF P ops C0 C1 f a0 e2 i) ∧ (L i = true → e2 i = e i)) ∧
      Fls P ops C1 fl w0 a0 L e R M2 wa s ∧ Below w2.heap.size w2 wa ∧ ((∀ i ∈ fl, s ≤ i → L i = true → (R i).W = false) → w2 = wa) ∧ (∀ b, M2 b → b < w2.heap.size) ∧ w.heap.size ≤ w2.heap.size ∧
      wpSeqG P ops C0 C1 f wild fl w0 bad Q s (ops.toList.drop s) (fr ops a0 (fun _ => true) e2 s) M2 w2
  | [], k, e1, M, w, wa, hl, hk, _, _, _, hF, hB, hX, hM, h => by
    have : ops.size ≤ k := by simpa using List.drop_eq_nil_iff.1 hl
    exact ⟨k, e1, M, w, Nat.le_refl _, hk, fun h => by omega, fun _ _ => rfl, fun i h1 h2 => by omega, hF, hB, hX, hM, Nat.le_refl _, by rw [hl]; exact h⟩
  | o :: l, k, e1, M, w, wa, hl, hk, he, hE, hW, hF, hB, hX, hM, h => by
    by_cases hst : (k ∈ wild ∨ k ∈ fl) ∧ L k = false
    · exact ⟨k, e1, M, w, Nat.le_refl _, hk, fun _ => hst, fun _ _ => rfl, fun i h1 h2 => by omega, hF, hB, hX, hM, Nat.le_refl _, by rw [hl]; exact h⟩
    obtain ⟨ho, hl', hlt⟩ := drop_cons hl
    have hkw : k ∉ wild := fun hn => hst ⟨.inl hn, hW k hn (Nat.le_refl _)⟩
    have hkL : k ∈ fl → L k = true := fun hn => by
      cases hc : L k with
      | true => rfl
      | false => exact absurd ⟨.inr hn, hc⟩ hst
    have key : ∃ u M1 w1, (k ∉ fl → ((wantedAt ops a0 e1 k o = true ∧ ∀ w', seqK ops C0 C1 f k w' → StillAt P o (fr ops a0 (fun _ => true) e1 k) w' u) ∨ (wantedAt ops a0 e1 k o = false ∧ u = undef))) ∧ (L k = true → u = e k) ∧
        Fls P ops C1 fl w0 a0 L e R M1 wa (k + 1) ∧ Below w1.heap.size w1 wa ∧ ((∀ i ∈ fl, k + 1 ≤ i → L i = true → (R i).W = false) → w1 = wa) ∧ (∀ b, M1 b → b < w1.heap.size) ∧ w.heap.size ≤ w1.heap.size ∧ wpSeqG P ops C0 C1 f wild fl w0 bad Q (k + 1) l ((fr ops a0 (fun _ => true) e1 k).put o.dst u) M1 w1 := by
      unfold wpSeqG at h
      rw [show Region.wanted o (yielded ops (fr ops a0 (fun _ => true) e1 k).tmps) = wantedAt ops a0 e1 k o from rfl] at h
      by_cases hf : k ∈ fl
      · have hfo := hF.ok k hf (Nat.le_refl _) (hkL hf)
        have hat := hfo.at_ ho he
        cases hwt : (R k).W with
        | true =>
          rw [hat.1, hwt, if_pos rfl, if_neg hkw, if_pos hf] at h
          obtain ⟨mk, obj, h1, h2⟩ := h
          obtain ⟨g1, g2⟩ := hfo.lays ho he hwt h1
          have hb := hfo.blk hwt
          rw [← g2] at hb
          have h3 := h2 (R k).g wa (hfo.low hwt) (hfo.mine hwt) hb hB
          rw [g1] at h3
          refine ⟨e k, _, wa, fun hn => absurd hf hn, fun _ => rfl, hF.visit hf (hkL hf) hwt, Below.refl _ _, fun _ => rfl, fun b hb' => ?_, hB.size, h3⟩
          rcases hb' with hb' | rfl
          · exact Nat.lt_of_lt_of_le (hM b hb') hB.size
          · exact get_lt hb
        | false =>
          rw [hat.1, hwt, if_neg (by decide)] at h
          exact ⟨undef, M, w, fun hn => absurd hf hn, fun _ => (hfo.off hwt).symm, hF.step, hB, fun hno => hX fun i hi hik hLi => by
            by_cases hik' : i = k
            · subst hik'; exact hwt
            · exact hno i hi (by omega) hLi, hM, Nat.le_refl _, h⟩
      · have next : ∀ u, ((wantedAt ops a0 e1 k o = true ∧ ∀ w', seqK ops C0 C1 f k w' → StillAt P o (fr ops a0 (fun _ => true) e1 k) w' u) ∨ (wantedAt ops a0 e1 k o = false ∧ u = undef)) → wpSeqG P ops C0 C1 f wild fl w0 bad Q (k + 1) l ((fr ops a0 (fun _ => true) e1 k).put o.dst u) M w → _ := fun u hq h2 =>
          (⟨u, M, w, fun _ => hq, fun hL => (hE k (Nat.le_refl _) hkw hf hL).val ho he hq, hF.step, hB, fun hno => hX fun i hi hik => hno i hi (by
            rcases Nat.eq_or_lt_of_le hik with h | h
            · subst h; exact absurd hi hf
            · exact h), hM, Nat.le_refl _, h2⟩ : ∃ u M1 w1, (k ∉ fl → ((wantedAt ops a0 e1 k o = true ∧ ∀ w', seqK ops C0 C1 f k w' → StillAt P o (fr ops a0 (fun _ => true) e1 k) w' u) ∨ (wantedAt ops a0 e1 k o = false ∧ u = undef))) ∧ (L k = true → u = e k) ∧
        Fls P ops C1 fl w0 a0 L e R M1 wa (k + 1) ∧ Below w1.heap.size w1 wa ∧ ((∀ i ∈ fl, k + 1 ≤ i → L i = true → (R i).W = false) → w1 = wa) ∧ (∀ b, M1 b → b < w1.heap.size) ∧ w.heap.size ≤ w1.heap.size ∧ wpSeqG P ops C0 C1 f wild fl w0 bad Q (k + 1) l ((fr ops a0 (fun _ => true) e1 k).put o.dst u) M1 w1)
        rcases Bool.eq_false_or_eq_true (wantedAt ops a0 e1 k o) with hwt | hwt
        · rw [hwt, if_pos rfl, if_neg hkw, if_neg hf] at h
          obtain ⟨u, h1, h2⟩ := h
          exact next u (.inl ⟨hwt, h1⟩) h2
        · rw [hwt, if_neg (by decide)] at h
          exact next undef (.inr ⟨hwt, rfl⟩) h
    obtain ⟨u, M1, w1, hq, hu, hF1, hB1, hX1, hM1, hz1, h2⟩ := key
    rw [← fr_step ho u] at h2
    obtain ⟨s, e2, M2, w2, s1, s2, s3, s4, s5, s6, s7, s8, s9, s10, s11⟩ := seqG_roll l (k + 1) (upd e1 k u) M1 w1 wa hl' hlt (agree_upd he hu) (fun i hi => hE i (by omega)) (fun i hi h => hW i hi (by omega)) hF1 hB1 hX1 hM1 h2
    have hbel : ∀ i, i < k → e2 i = e1 i := fun i hi => by rw [s4 i (by omega)]; simp [upd]; omega
    have hk2 : e2 k = u := by rw [s4 k (by omega)]; simp [upd]
    refine ⟨s, e2, M2, w2, by omega, s2, s3, hbel, fun i h3 h4 => ?_, s6, s7, s8, s9, Nat.le_trans hz1 s10, s11⟩
    by_cases hik : i = k
    · subst hik
      refine ⟨hkw, hkL, fun hf o' ho' => ?_, fun hL => by rw [hk2]; exact hu hL⟩
      rw [ho] at ho'
      cases ho'
      rw [wanted_congr (e' := e1) hbel, fr_all_congr i (e' := e1) hbel, hk2]
      rcases hq hf with ⟨q1, q2⟩ | ⟨q1, q2⟩
      · exact ⟨fun _ => q2, fun h => by rw [q1] at h; cases h⟩
      · exact ⟨(fun h => by rw [q1] at h; cases h), fun _ => q2⟩
    · exact s5 i (by omega) h4
structure SeqInvG (P : Program) (ops : Array Oper) (C0 C1 : World → Prop) (f : Nat) (wild fl : List Nat) (w0 : World) (bad : Nat → Prop) (Q : Act → World → Prop) (a0 : Act) (L : Nat → Bool) (e : Nat → Value) (wa : World) (s : Nat) (e' : Nat → Value) (R : Nat → FlRec) (M : Nat → Prop) (w : World) : Prop where
  le : s ≤ ops.size
  at_ : s < ops.size → (s ∈ wild ∨ s ∈ fl) ∧ L s = false
  old : ∀ k, k < s → k ∈ wild ∨ k ∈ fl → L k = true
  late : ∀ i ∈ wild, s ≤ i → L i = false
  body : wpSeqG P ops C0 C1 f wild fl w0 bad Q s (ops.toList.drop s) (fr ops a0 (fun _ => true) e' s) M w
  same : ∀ i, i < s → L i = true → e' i = e i
  quiet : ∀ i, i < s → i ∉ wild → i ∉ fl → QF P ops C0 C1 f a0 e' i
  early : ∀ i, s ≤ i → i ∉ wild → i ∉ fl → L i = true → EF P ops C0 C1 f a0 L e i
  fls : Fls P ops C1 fl w0 a0 L e R M wa s
  bel : Below w.heap.size w wa
  exact_ : (∀ i ∈ fl, s ≤ i → L i = true → (R i).W = false) → w = wa
  mine : ∀ b, M b → b < w.heap.size
  low : w0.heap.size ≤ w.heap.size
  c0 : s ≤ f → C0 wa
  c1 : C1 wa
theorem SeqInvG.build {wa w : World} {M : Nat → Prop} {e1 : Nat → Value} (k : Nat) (hk : k ≤ ops.size) (h1 : ∀ i, i < k → i ∈ wild ∨ i ∈ fl → L i = true) (h2 : ∀ i ∈ wild, k ≤ i → L i = false) (h3 : ∀ i, i < k → L i = true → e1 i = e i)
    (h4 : ∀ i, i < k → i ∉ wild → i ∉ fl → QF P ops C0 C1 f a0 e1 i) (h5 : ∀ i, k ≤ i → i ∉ wild → i ∉ fl → L i = true → EF P ops C0 C1 f a0 L e i) (h6 : Fls P ops C1 fl w0 a0 L e R M wa k) (h7 : Below w.heap.size w wa) (h8 : (∀ i ∈ fl, k ≤ i → L i = true → (R i).W = false) → w = wa)
    (h9 : ∀ b, M b → b < w.heap.size) (h10 : w0.heap.size ≤ w.heap.size) (h11 : k ≤ f → C0 wa) (h12 : C1 wa)
    (hb : wpSeqG P ops C0 C1 f wild fl w0 bad Q k (ops.toList.drop k) (fr ops a0 (fun _ => true) e1 k) M w) :
    ∃ s e' R M w, SeqInvG P ops C0 C1 f wild fl w0 bad Q a0 L e wa s e' R M w := by
  obtain ⟨s, e2, M2, w2, s1, s2, s3, s4, s5, s6, s7, s8, s9, s11, s10⟩ := seqG_roll _ k e1 M w wa rfl hk h3 h5 h2 h6 h7 h8 h9 hb
  have hlow : w0.heap.size ≤ w2.heap.size := Nat.le_trans h10 s11
  refine ⟨s, e2, R, M2, w2, s2, s3, fun i hi hs => ?_, fun i hi hs => h2 i hi (by omega), s10, fun i hi hL => ?_, fun i hi hw hf => ?_, fun i hi => h5 i (by omega), s6, s7, s8, s9, hlow, fun h => h11 (by omega), h12⟩
  · rcases Nat.lt_or_ge i k with h | h
    · exact h1 i h hs
    · rcases hs with hs | hs
      · exact absurd hs (s5 i h hi).1
      · exact (s5 i h hi).2.1 hs
  · rcases Nat.lt_or_ge i k with h | h
    · rw [s4 i h]; exact h3 i h hL
    · exact (s5 i h hi).2.2.2 hL
  · rcases Nat.lt_or_ge i k with h | h
    · exact (h4 i h hw hf).congr (s4 i h).symm fun j hj => (s4 j (by omega)).symm
    · exact (s5 i h hi).2.2.1 hf
end
end Go.Proofs.YtmiceacjpadllaaGreatDoor
namespace Go.Proofs.YtmiceacjpadllaaGreatDoor
open Go.RowKit
section
variable {P : Program} {ops : Array Oper} {Q : Exit → Act → World → Prop}
def thenL (P : Program) (ops : Array Oper) (Q : Exit → Act → World → Prop) (r : List Oper) : Exit → Act → World → Prop
  | .normal, a, w => wpList P ops Q r a w
  | x, a, w => Q x a w
theorem upon_thenL {o : Oper} {a : Act} {r : List Oper} {K K' : Act → World → Prop} (h : ∀ a w, K' a w → K a w) : ∀ {y : Result Next}, o.upon P a K' (thenL P ops Q r) y → o.upon P a K Q y := by
  intro y hy
  unfold Oper.upon at hy ⊢
  split at hy
  · exact h _ _ hy
  · exact h _ _ hy
  · exact h _ _ hy
  · refine Calls.mono hy fun e w' he => ?_
    cases e with
    | returned v => exact h _ _ he
    | panicked chain => exact he
    | outgrown => exact he
  · refine Rows.mono hy fun v w' he => h _ _ he
  · exact hy
  · exact hy.elim
theorem wpList_app : ∀ (l r : List Oper) {a : Act} {w : World}, wpList P ops (thenL P ops Q r) l a w → wpList P ops Q (l ++ r) a w
  | [], _, _, _, h => h
  | o :: l, r, a, w, h => by
    rw [List.cons_append]
    unfold wpList at h ⊢
    split at h
    · rename_i hw
      rw [if_pos hw]
      rcases h with h | ⟨h1, h2⟩
      · exact .inl (upon_thenL (fun a' w' => wpList_app l r) h)
      · exact .inr ⟨h1, h2⟩
    · rename_i hw
      rw [if_neg hw]
      exact wpList_app l r h
theorem wpList_split (n : Nat) {l : List Oper} {a : Act} {w : World} (h : wpList P ops (thenL P ops Q (l.drop n)) (l.take n) a w) : wpList P ops Q l a w := by
  have := wpList_app (l.take n) (l.drop n) h
  rwa [List.take_append_drop] at this
theorem wp_region_split (n : Nat) {id : Nat} {l : List Oper} {a : Act} {w : World} (h : wpList P l.toArray (thenL P l.toArray Q (l.drop n)) (l.take n) a w) : (Code.region id l.toArray false).wp P Q a w := wp_region_lit (wpList_split n h)
end
section
variable {w : World} {g : Nat} {T : TypeId}
theorem Blk.there_at {C : Array Value} (h : Blk w g T C) (o n : Nat) (hn : o + n ≤ C.size) : w.there g o n := fun j hj => by
  exact ⟨by rw [h.cell (o + j), Array.getElem?_eq_getElem (by omega)]; rfl, h.frozen (o + j)⟩
end
end Go.Proofs.YtmiceacjpadllaaGreatDoor
