/- A region that draws its order, some of whose operations make memory: as XReg has it, but the invariant may speak of the values that the operations left. No program in sight. -/
import Derived.Test.YtikkknaofiafhaaReg2
namespace Go.Proofs.Ytikkknaofiafhaa.RE
open Go.RowKit Go.Proofs.Ytikkknaofiafhaa

section
variable {P : Program} {ops : Array Oper} {md : Region.Mode}
variable (P md ops)
variable (Inv : (Nat → Bool) → (Nat → Value) → World → Prop) (V : Nat → Value → World → Prop) (wild : List Nat)

def WildStep (v : Nat → Value) (E : Nat → Prop) (k : Nat) (o : Oper) (a : Act) : Prop :=
  ∀ (M : Nat → Bool) (w : World), M k = false → (∀ st, waitsB md ops ops.size st k = true → M st = false) → (∀ d, E d → waitsB md ops ops.size k d = true → M d = true) → Inv M v w → (∀ d, M d = true → V d (v d) w) →
    Gives P o a w fun x w' => V k x w' ∧ Inv (on M k) (upd v k x) w' ∧ ∀ j x', j ≠ k → V j x' w → V j x' w'

def many (v : Nat → Value) (Q : Act → World → Prop) : List Nat → Nat → List Oper → Act → Prop
  | E, _, [], a => ∀ (M : Nat → Bool) (w : World), (∀ d ∈ E, M d = true) → Inv M v w → (∀ d ∈ E, V d (v d) w) → Q a w
  | E, k, o :: rest, a =>
    if Region.wanted o (yielded ops a.tmps) then
      (if k ∈ wild then WildStep P ops md Inv V v (· ∈ E) k o a ∧ many v Q (k :: E) (k + 1) rest (a.put o.dst (v k))
       else o.quiet P a (fun w => ∃ M e, Inv M e w) (many v Q E (k + 1) rest))
    else many v Q E (k + 1) rest (a.put o.dst undef)

structure StepAt (a : Act) (v e : Nat → Value) (k : Nat) (o : Oper) : Prop where
  wild_ : wantedAt ops a e k o = true → k ∈ wild → e k = v k ∧ WildStep P ops md Inv V v (fun d => d < k ∧ Wst ops wild a e d) k o (fr ops a (fun _ => true) e k)
  quiet : wantedAt ops a e k o = true → k ∉ wild → ∀ w, (∃ M e, Inv M e w) → o.quietAt P (fr ops a (fun _ => true) e k) (fun w => ∃ M e, Inv M e w) w (e k)
  not : wantedAt ops a e k o = false → e k = undef
variable {P md ops Inv V wild}

theorem WildStep.more {v : Nat → Value} {E E' : Nat → Prop} {k : Nat} {o : Oper} {a : Act} (h : WildStep P ops md Inv V v E k o a) (hE : ∀ d, E d → E' d) : WildStep P ops md Inv V v E' k o a :=
  fun M w h1 h2 h3 h4 h5 => h M w h1 h2 (fun d hd => h3 d (hE d hd)) h4 h5

theorem many_idx {v : Nat → Value} {Q : Act → World → Prop} {a0 : Act} : ∀ (l : List Oper) (E : List Nat) (k : Nat) (e0 : Nat → Value), (∀ j, j < l.length → l[j]? = ops[k + j]?) → (∀ d ∈ E, d < k ∧ Wst ops wild a0 e0 d) →
    many P ops md Inv V wild v Q E k l (fr ops a0 (fun _ => true) e0 k) →
    ∃ e : Nat → Value, (∀ i, i < k → e i = e0 i) ∧ (∀ i o, k ≤ i → i < k + l.length → ops[i]? = some o → StepAt P ops md Inv V wild a0 v e i o) ∧
      ∀ (M : Nat → Bool) (w : World), (∀ d, d < k + l.length → Wst ops wild a0 e d → M d = true) → Inv M v w → (∀ d, d < k + l.length → Wst ops wild a0 e d → V d (v d) w) → Q (fr ops a0 (fun _ => true) e (k + l.length)) w
  | [], E, k, e0, hl, hE, h => by
    exact ⟨e0, fun _ _ => rfl, fun i o hi hi2 => absurd hi2 (by simp; omega), fun M w h1 h2 h3 => h M w (fun d hd => h1 d (by have := (hE d hd).1; simp; omega) (hE d hd).2) h2 (fun d hd => h3 d (by have := (hE d hd).1; simp; omega) (hE d hd).2)⟩
  | o :: l, E, k, e0, hl, hE, h => by
    have h0 : ops[k]? = some o := by simpa using (hl 0 (by simp)).symm
    have hd0 : dstOf ops k = o.dst := by unfold dstOf; rw [h0]; rfl
    have hlen : k + (o :: l).length = k + 1 + l.length := by simp; omega
    have hl' : ∀ j, j < l.length → l[j]? = ops[k + 1 + j]? := fun j hj => by have := hl (j + 1) (by simp; omega); simpa [Nat.add_assoc, Nat.add_comm 1 j] using this
    -- one value more
    have next : ∀ (E' : List Nat) (x : Value), (∀ d ∈ E', d < k + 1 ∧ Wst ops wild a0 (upd e0 k x) d) → many P ops md Inv V wild v Q E' (k + 1) l ((fr ops a0 (fun _ => true) e0 k).put o.dst x) →
        ∃ e : Nat → Value, (∀ i, i < k → e i = e0 i) ∧ e k = x ∧ fr ops a0 (fun _ => true) e k = fr ops a0 (fun _ => true) e0 k ∧ (∀ i o, k + 1 ≤ i → i < k + 1 + l.length → ops[i]? = some o → StepAt P ops md Inv V wild a0 v e i o) ∧
          ∀ (M : Nat → Bool) (w : World), (∀ d, d < k + 1 + l.length → Wst ops wild a0 e d → M d = true) → Inv M v w → (∀ d, d < k + 1 + l.length → Wst ops wild a0 e d → V d (v d) w) → Q (fr ops a0 (fun _ => true) e (k + 1 + l.length)) w := by
      intro E' x hE' hm
      have hf : fr ops a0 (fun _ => true) (upd e0 k x) (k + 1) = (fr ops a0 (fun _ => true) e0 k).put o.dst x := by
        show (fr ops a0 (fun _ => true) (upd e0 k x) k).put (dstOf ops k) (upd e0 k x k) = _
        rw [hd0, fr_congr k (S' := fun _ => true) (e' := e0) fun i hi => ⟨rfl, fun _ => by simp [upd]; omega⟩]
        simp [upd]
      rw [← hf] at hm
      obtain ⟨e, h1, h2, h3⟩ := many_idx l E' (k + 1) (upd e0 k x) hl' hE' hm
      refine ⟨e, fun i hi => by rw [h1 i (by omega)]; simp [upd]; omega, by rw [h1 k (by omega)]; simp [upd], fr_congr k fun i hi => ⟨rfl, fun _ => by rw [h1 i (by omega)]; simp [upd]; omega⟩, h2, h3⟩
    -- what is known of what came before stays
    have keepW : ∀ (e : Nat → Value) (d : Nat), (∀ i, i < k → e i = e0 i) → d < k → Wst ops wild a0 e0 d → Wst ops wild a0 e d := by
      rintro e d he hd ⟨h1, o', ho', hw⟩
      refine ⟨h1, o', ho', ?_⟩
      unfold wantedAt at hw ⊢
      rw [fr_congr d (S' := fun _ => true) (e' := e0) fun i hi => ⟨rfl, fun _ => he i (by omega)⟩]
      exact hw
    have keepU : ∀ (x : Value) (d : Nat), d < k → Wst ops wild a0 e0 d → Wst ops wild a0 (upd e0 k x) d := fun x d hd hw => keepW _ d (fun i hi => by simp [upd]; omega) hd hw
    unfold many at h
    by_cases hwant : Region.wanted o (yielded ops (fr ops a0 (fun _ => true) e0 k).tmps) = true
    · rw [if_pos hwant] at h
      by_cases hwild : k ∈ wild
      · rw [if_pos hwild] at h
        obtain ⟨h1, h2⟩ := h
        obtain ⟨e, he, hek, hfr, hst, hfin⟩ := next (k :: E) (v k) (fun d hd => by
          rcases List.mem_cons.1 hd with rfl | hd
          · refine ⟨by omega, hwild, o, h0, ?_⟩
            unfold wantedAt
            rw [fr_congr d (S' := fun _ => true) (e' := e0) fun i hi => ⟨rfl, fun _ => by simp [upd]; omega⟩]
            exact hwant
          · exact ⟨by have := (hE d hd).1; omega, keepU _ d (hE d hd).1 (hE d hd).2⟩) h2
        refine ⟨e, he, fun i o' hi hi2 ho' => ?_, by rw [hlen]; exact hfin⟩
        by_cases hik : i = k
        · subst hik
          rw [h0] at ho'
          cases ho'
          have hw1 : wantedAt ops a0 e i o = true := by unfold wantedAt; rw [hfr]; exact hwant
          refine ⟨fun _ _ => ⟨hek, ?_⟩, fun _ hn => absurd hwild hn, fun hn => by rw [hw1] at hn; cases hn⟩
          rw [hfr]
          exact h1.more fun d hd => ⟨(hE d hd).1, keepW e d he (hE d hd).1 (hE d hd).2⟩
        · exact hst i o' (by omega) (by omega) ho'
      · rw [if_neg hwild] at h
        obtain ⟨u, h1, h2⟩ := h
        obtain ⟨e, he, hek, hfr, hst, hfin⟩ := next E u (fun d hd => ⟨by have := (hE d hd).1; omega, keepU _ d (hE d hd).1 (hE d hd).2⟩) h2
        refine ⟨e, he, fun i o' hi hi2 ho' => ?_, by rw [hlen]; exact hfin⟩
        by_cases hik : i = k
        · subst hik
          rw [h0] at ho'
          cases ho'
          have hw1 : wantedAt ops a0 e i o = true := by unfold wantedAt; rw [hfr]; exact hwant
          refine ⟨fun _ hn => absurd hn hwild, fun _ _ w hw => ?_, fun hn => by rw [hw1] at hn; cases hn⟩
          rw [hfr, hek]
          exact h1 w hw
        · exact hst i o' (by omega) (by omega) ho'
    · rw [if_neg hwant] at h
      obtain ⟨e, he, hek, hfr, hst, hfin⟩ := next E undef (fun d hd => ⟨by have := (hE d hd).1; omega, keepU _ d (hE d hd).1 (hE d hd).2⟩) h
      refine ⟨e, he, fun i o' hi hi2 ho' => ?_, by rw [hlen]; exact hfin⟩
      by_cases hik : i = k
      · subst hik
        rw [h0] at ho'
        cases ho'
        have hw1 : ¬ wantedAt ops a0 e i o = true := by unfold wantedAt; rw [hfr]; exact hwant
        exact ⟨fun hw => absurd hw hw1, fun hw => absurd hw hw1, fun _ => hek⟩
      · exact hst i o' (by omega) (by omega) ho'
structure Vals (P : Program) (ops : Array Oper) (md : Region.Mode) (Inv : (Nat → Bool) → (Nat → Value) → World → Prop) (V : Nat → Value → World → Prop) (wild : List Nat) (n : Nat) (Q : Act → World → Prop) (a0 : Act) (v ev : Nat → Value) : Prop where
  st : ∀ i o, i < n → ops[i]? = some o → StepAt P ops md Inv V wild a0 v ev i o
  fin : ∀ (M : Nat → Bool) (w : World), (∀ d, d < n → Wst ops wild a0 ev d → M d = true) → Inv M v w → (∀ d, d < n → Wst ops wild a0 ev d → V d (v d) w) → Q (fr ops a0 (fun _ => true) ev n) w

theorem many_any {n g : Nat} (hm : ManyOk md ops n wild) (hT : ∀ L, HeadInv md ops n L → (∃ i, i < n ∧ L.getD i false = false) → ∀ j ∈ Region.ready md ops L, j < n) {Q : Act → World → Prop} {Q' : Exit → Act → World → Prop} (hcong : ∀ M e e' w, (∀ d, M d = true → e d = e' d) → Inv M e w → Inv M e' w)
    (hQ : ∀ L a w, HeadInv md ops n L → (∀ i, i < n → L.getD i false = true) → Q a w → wpAny P md ops Q' g L a w) {a0 : Act} {Sh : Nat → Value → Prop} (hSh : ∀ k x w, V k x w → Sh k x) {v0 : Nat → Value} (hv0 : ∀ k, k ∈ wild → Sh k (v0 k))
    (H : ∀ v : Nat → Value, (∀ k, k ∈ wild → Sh k (v k)) → many P ops md Inv V wild v Q [] 0 (ops.toList.take n) a0) :
    ∀ (f : Nat) (L : Array Bool) (w : World) (e : Nat → Value) (M : Nat → Bool), HeadInv md ops n L → (List.range n).countP (fun i => !L.getD i false) = f → Inv M e w →
      (∀ d, M d = true → L.getD d false = true ∧ d ∈ wild ∧ V d (e d) w) →
      (∀ v : Nat → Value, (∀ d, M d = true → v d = e d) → ∀ ev, Vals P ops md Inv V wild n Q a0 v ev → ∀ k o, L.getD k false = true → ops[k]? = some o → ev k = e k ∧ (k ∈ wild → wantedAt ops a0 ev k o = M k)) →
      wpAny P md ops Q' (f + g) L (fr ops a0 (L.getD · false) e n) w := by
  intro f
  have hle := hm.le
  have htl : (ops.toList.take n).length = n := by simp; omega
  -- values for any v
  have vals : ∀ v : Nat → Value, (∀ k, k ∈ wild → Sh k (v k)) → ∃ ev, Vals P ops md Inv V wild n Q a0 v ev := by
    intro v hv
    obtain ⟨ev, _, h2, h3⟩ := many_idx (v := v) (Q := Q) (a0 := a0) (ops.toList.take n) [] 0 (fun _ => undef) (fun j hj => by rw [htl] at hj; simp [hj]) (by simp) (H v hv)
    rw [htl, Nat.zero_add] at h2 h3
    exact ⟨ev, fun i o hi ho => h2 i o (by omega) hi ho, h3⟩
  have shape : ∀ {e : Nat → Value} {M : Nat → Bool} {L : Array Bool} {w : World}, (∀ d, M d = true → L.getD d false = true ∧ d ∈ wild ∧ V d (e d) w) → ∀ k, k ∈ wild → Sh k (if M k = true then e k else v0 k) := by
    intro e M L w h2 k hk
    by_cases hM : M k = true
    · rw [if_pos hM]; exact hSh k _ w (h2 k hM).2.2
    · rw [if_neg hM]; exact hv0 k hk
  have ends : ∀ (L : Array Bool) (w : World) (e : Nat → Value) (M : Nat → Bool), (∀ i, i < n → L.getD i false = true) → (∀ i, n ≤ i → L.getD i false = false) → Inv M e w → (∀ d, M d = true → L.getD d false = true ∧ d ∈ wild ∧ V d (e d) w) →
      (∀ v : Nat → Value, (∀ d, M d = true → v d = e d) → ∀ ev, Vals P ops md Inv V wild n Q a0 v ev → ∀ k o, L.getD k false = true → ops[k]? = some o → ev k = e k ∧ (k ∈ wild → wantedAt ops a0 ev k o = M k)) →
      Q (fr ops a0 (L.getD · false) e n) w := by
    intro L w e M hall hno hI h2 h3
    obtain ⟨ev, hev⟩ := vals (fun k => if M k = true then e k else v0 k) (shape h2)
    have h4 := h3 _ (fun d hd => by simp [hd]) ev hev
    have hM : ∀ d, d < n → Wst ops wild a0 ev d → M d = true := by
      rintro d hd ⟨hw, o, ho, hwant⟩
      have := (h4 d o (hall d hd) ho).2 hw
      rw [← this]; exact hwant
    have h5 := hev.fin M w hM (hcong _ _ _ _ (fun d hd => by simp [hd]) hI) fun d hd hw => by
      have := hM d hd hw
      simp only [this, if_true]
      exact (h2 d this).2.2
    rw [fr_congr n (S' := fun _ => true) (e' := ev) fun i hi => ⟨hall i hi, fun _ => ((h4 i _ (hall i hi) (Array.getElem?_eq_getElem (by omega))).1).symm⟩]
    exact h5
  have tailF : ∀ {L : Array Bool}, HeadInv md ops n L → ∀ i, n ≤ i → L.getD i false = false := fun {L} inv i hi => by
    rcases Nat.lt_or_ge i ops.size with h | h
    · exact getD_both (inv.tail i hi h)
    · simp [Array.getElem?_eq_none (show L.size ≤ i by rw [inv.size]; exact h)]
  induction f with
  | zero =>
    intro L w e M inv hcnt hI h2 h3
    have hall : ∀ i, i < n → L.getD i false = true := by
      intro i hi
      have h := List.countP_eq_zero.1 hcnt i (List.mem_range.2 hi)
      simpa using h
    rw [Nat.zero_add]
    exact hQ L _ w inv hall (ends L w e M hall (tailF inv) hI h2 h3)
  | succ f ih =>
    intro L w e M inv hcnt hI h2 h3
    have hun0 : ∃ i, i < n ∧ L.getD i false = false := by
      obtain ⟨i, hi, hp⟩ := List.countP_pos_iff.1 (show 0 < (List.range n).countP (fun i => !L.getD i false) by omega)
      exact ⟨i, List.mem_range.1 hi, by simpa using hp⟩
    rw [show f + 1 + g = (f + g) + 1 by omega]
    refine ⟨fun hr => ?_, fun j hj => ?_⟩
    · obtain ⟨i, hi, hl⟩ := hun0
      rw [all_listed hm inv.size hr i hi] at hl
      cases hl
    have hc : Closed md ops L := inv.closed
    have hs := inv.size
    obtain ⟨hun, oj, hoj, hdeps⟩ := mem_ready.1 hj
    have hjn : j < n := hT L inv hun0 j hj
    have hLj := getD_both hun
    have hdj : dstOf ops j = oj.dst := by unfold dstOf; rw [hoj]; rfl
    have hMj : M j = false := by
      cases h : M j with
      | false => rfl
      | true => have := (h2 j h).1; rw [hLj] at this; cases this
    -- frames that are alike for j
    have alike : ∀ v : Nat → Value, (∀ d, M d = true → v d = e d) → ∀ ev, Vals P ops md Inv V wild n Q a0 v ev → Ag ops oj (fr ops a0 (L.getD · false) e n) (fr ops a0 (fun _ => true) ev j) := by
      intro v hv ev hev
      rw [← fr_lex j n (by omega)]
      refine ag_fr _ (fun k hk h1 h4 => ((h3 v hv ev hev k _ h1 (Array.getElem?_eq_getElem (by omega))).1).symm) (fun k hk hne d hd => ?_)
      obtain ⟨ok, hok⟩ : ∃ o, ops[k]? = some o := ⟨_, Array.getElem?_eq_getElem (by omega)⟩
      have hdk : ok.dst = some d := by unfold dstOf at hd; rw [hok] at hd; exact hd
      rcases Nat.lt_trichotomy k j with hlt | rfl | hgt
      · have hLk : L.getD k false = false := by
          cases h : L.getD k false with
          | false => rfl
          | true => rw [h] at hne; simp [hlt] at hne
        rcases hm.free k j ok oj hlt hjn hok hoj with ⟨e', he', hb, hon⟩ | hap
        · have := hdeps e' he' hb
          rw [hon, hLk] at this
          cases this
        · exact (Oper.apart_spec hap).1 d hdk
      · rw [hLj] at hne
        simp at hne
      · have hLk : L.getD k false = true := by
          cases h : L.getD k false with
          | true => rfl
          | false => rw [h] at hne; simp at hne; omega
        rcases hm.free j k oj ok hgt hk hoj hok with ⟨e', he', hb, hon⟩ | hap
        · have := hc k ok hok hLk e' he' hb
          rw [hon, hLj] at this
          cases this
        · exact (Oper.apart_spec hap).2.2 d hdk
    -- what comes next
    have next : ∀ (x : Value) (M' : Nat → Bool) (w' : World), (∀ d, d ≠ j → M' d = M d) → Inv M' (upd e j x) w' → (M' j = true → j ∈ wild ∧ V j x w') → (∀ d, M d = true → V d (e d) w') →
        (∀ v : Nat → Value, (∀ d, M' d = true → v d = upd e j x d) → ∀ ev, Vals P ops md Inv V wild n Q a0 v ev → ev j = x ∧ (j ∈ wild → wantedAt ops a0 ev j oj = M' j)) →
        wpAny P md ops Q' (f + g) (L.setIfInBounds j true) ((fr ops a0 (L.getD · false) e n).put oj.dst x) w' := by
      intro x M' w' hM' hI' hVj hVd hx
      have hset := setL_at (L := L) (n := ops.size) hs (show j < ops.size by omega)
      rw [← hdj, ← fr_set hm (S := (L.getD · false)) (e := e) (k := j) (x := x) hLj n hjn (Nat.le_refl _)]
      have e1 : (on (fun i => L.getD i false) j) = ((L.setIfInBounds j true).getD · false) := funext fun i => (hset i).symm
      rw [e1]
      refine ih _ w' _ M' (inv.set hj hjn) ?_ hI' ?_ ?_
      · have := countP_one (p := fun i => !L.getD i false) (q := fun i => !(L.setIfInBounds j true).getD i false) (j := j) (by simp [hLj]) (by rw [hset]; simp [on]) (fun i hi => by rw [hset]; simp [on, hi]) n hjn
        omega
      · intro d hd
        rw [hset]
        by_cases hdj' : d = j
        · subst hdj'
          obtain ⟨h4, h5⟩ := hVj hd
          exact ⟨by simp [on], h4, by simpa [upd] using h5⟩
        · rw [hM' d hdj'] at hd
          obtain ⟨h4, h5, _⟩ := h2 d hd
          refine ⟨by simp [on, h4], h5, ?_⟩
          have : upd e j x d = e d := by simp [upd, hdj']
          rw [this]
          exact hVd d hd
      · intro v hv ev hev k o hk hok
        rw [hset] at hk
        unfold on at hk
        by_cases hkj : k = j
        · subst hkj
          rw [hoj] at hok
          cases hok
          have := hx v hv ev hev
          exact ⟨by simpa [upd] using this.1, this.2⟩
        · have hk' : L.getD k false = true := by simpa [hkj] using hk
          have := h3 v (fun d hd => by
            have hdj' : d ≠ j := fun h => by subst h; rw [hMj] at hd; cases hd
            have := hv d (by rw [hM' d hdj']; exact hd)
            rw [this]; simp [upd, hdj']) ev hev k o hk' hok
          exact ⟨by rw [this.1]; simp [upd, hkj], fun hw => by rw [this.2 hw, hM' k hkj]⟩
    have ext : ∀ {x : Value} {M' : Nat → Bool} {v : Nat → Value}, (∀ d, d ≠ j → M' d = M d) → (∀ d, M' d = true → v d = upd e j x d) → ∀ d, M d = true → v d = e d := by
      intro x M' v hM' hv d hd
      have hdj' : d ≠ j := fun h => by subst h; rw [hMj] at hd; cases hd
      have := hv d (by rw [hM' d hdj']; exact hd)
      rw [this]; simp [upd, hdj']
    obtain ⟨ev, hev⟩ := vals (fun k => if M k = true then e k else v0 k) (shape h2)
    have hvv : ∀ d, M d = true → (fun k => if M k = true then e k else v0 k) d = e d := fun d hd => by simp [hd]
    have hAg := alike _ hvv ev hev
    have hst := hev.st j oj hjn hoj
    have hwa : Region.wanted oj (yielded ops (fr ops a0 (L.getD · false) e n).tmps) = wantedAt ops a0 ev j oj := hAg.wanted
    have hwa' : ∀ v : Nat → Value, (∀ d, M d = true → v d = e d) → ∀ ev', Vals P ops md Inv V wild n Q a0 v ev' → wantedAt ops a0 ev' j oj = wantedAt ops a0 ev j oj := fun v hv ev' hev' => by
      rw [← hwa]; exact ((alike v hv ev' hev').wanted).symm
    unfold wpOp
    simp only [hoj, hwa]
    cases hw : wantedAt ops a0 ev j oj with
    | false =>
      simp only [Bool.false_eq_true, if_false]
      refine next undef M w (fun _ _ => rfl) (hcong _ _ _ _ (fun d hd => by simp [upd]; intro h; subst h; rw [hMj] at hd; cases hd) hI) (fun h => by rw [hMj] at h; cases h) (fun d hd => (h2 d hd).2.2) fun v hv ev' hev' => ?_
      have h4 := hwa' v (ext (fun _ _ => rfl) hv) ev' hev'
      rw [hw] at h4
      exact ⟨(hev'.st j oj hjn hoj).not h4, fun _ => by rw [h4, hMj]⟩
    | true =>
      simp only [if_true]
      refine .inl ?_
      by_cases hwild : j ∈ wild
      · obtain ⟨_, hstep⟩ := hst.wild_ hw hwild
        have h4 := hstep M w hMj (fun st hst' => by
            cases h : M st with
            | false => rfl
            | true =>
              have := waits_closed hc (h2 st h).1 hst'
              rw [hLj] at this
              cases this)
          (fun d hd hwt => by
            obtain ⟨_, hdw, o, ho, hwd⟩ := hd
            have := (h3 _ hvv ev hev d o (waits_ready hc hj hwt) ho).2 hdw
            rw [← this]; exact hwd) (hcong _ _ _ _ (fun d hd => (hvv d hd).symm) hI) (fun d hd => by
              have := (h2 d hd).2.2
              simpa [hd] using this)
        have h5 := Gives.congr (hAg.exec (hm.sel j oj · · hoj)) h4
        refine h5.wp fun x w' ⟨g1, g2, g3⟩ => ?_
        refine next x (on M j) w' (fun d hd => by simp [on, hd]) (hcong _ _ _ _ (fun d hd => by by_cases hdj : d = j <;> simp [upd, hdj]; simp [on, hdj] at hd; simp [hd]) g2) (fun _ => ⟨hwild, g1⟩) (fun d hd => g3 d _ (fun h => by subst h; rw [hMj] at hd; cases hd) (h2 d hd).2.2) fun v hv ev' hev' => ?_
        have h6 := hwa' v (ext (M' := on M j) (fun d hd => by simp [on, hd]) hv) ev' hev'
        rw [hw] at h6
        refine ⟨?_, fun _ => by rw [h6]; simp [on]⟩
        rw [((hev'.st j oj hjn hoj).wild_ h6 hwild).1, hv j (by simp [on])]
        simp [upd]
      · have h4 := hst.quiet hw hwild w ⟨M, e, hI⟩
        have hplain := hm.plain j oj hjn hoj hwild
        have hex := hAg.exec (hm.sel j oj · · hoj)
        have h5 : Gives P oj (fr ops a0 (L.getD · false) e n) w (fun x w' => x = ev j ∧ w' = w) := by
          unfold Gives
          unfold Oper.quietAt at h4
          rw [hex]
          have hno := plain_no (P := P) hplain (fr ops a0 (fun _ => true) ev j).eval w
          generalize (execOp (fr ops a0 (fun _ => true) ev j).eval oj).run P w = r at *
          cases r with
          | ok n w' =>
            cases n <;> simp only [Oper.quietUpon] at h4 <;> simp only [giv]
            case value u => exact ⟨h4.2, h4.1⟩
            case skip => exact ⟨h4.2.symm, h4.1⟩
            case enter f args => exact absurd rfl (hno w' f args)
          | halt x w' => simp only [Oper.quietUpon] at h4
        refine h5.wp fun x w' ⟨g1, g2⟩ => ?_
        subst g1 g2
        refine next (ev j) M w' (fun _ _ => rfl) (hcong _ _ _ _ (fun d hd => by simp [upd]; intro h; subst h; rw [hMj] at hd; cases hd) hI) (fun h => by rw [hMj] at h; cases h) (fun d hd => (h2 d hd).2.2) fun v hv ev' hev' => ?_
        have hext := ext (fun _ _ => rfl) hv
        have h6 := hwa' v hext ev' hev'
        rw [hw] at h6
        refine ⟨?_, fun hn => absurd hn hwild⟩
        have h7 := (hev'.st j oj hjn hoj).quiet h6 hwild w' ⟨M, e, hI⟩
        have hex' := (alike v hext ev' hev').exec (hm.sel j oj · · hoj)
        unfold Oper.quietAt at h4 h7
        rw [← hex', hex] at h7
        have hno := plain_no (P := P) hplain (fr ops a0 (fun _ => true) ev j).eval w'
        generalize (execOp (fr ops a0 (fun _ => true) ev j).eval oj).run P w' = r at *
        cases r with
        | ok n w2 =>
          cases n <;> simp only [Oper.quietUpon] at h4 h7
          case value u => rw [← h7.2, h4.2]
          case skip => rw [h7.2, h4.2]
          case enter f args => exact absurd rfl (hno w2 f args)
        | halt x w2 => simp only [Oper.quietUpon] at h4

/-- A region that draws its order, walked once. -/
theorem wp_region_many {id : Nat} {Q : Exit → Act → World → Prop} {a : Act} {w : World} {l : List Oper} (Inv : (Nat → Bool) → (Nat → Value) → World → Prop) (V : Nat → Value → World → Prop) (wild : List Nat)
    (hmx : P.follows .mixedOrders = true) (hB : manyB .any l.toArray l.length wild = true) (hI : ∀ e, Inv (fun _ => false) e w.drew) (hcong : ∀ M e e' w, (∀ d, M d = true → e d = e' d) → Inv M e w → Inv M e' w) (Sh : Nat → Value → Prop) (hSh : ∀ k x w, V k x w → Sh k x) (v0 : Nat → Value) (hv0 : ∀ k, k ∈ wild → Sh k (v0 k))
    (h : ∀ v : Nat → Value, (∀ k, k ∈ wild → Sh k (v k)) → many P l.toArray .any Inv V wild v (fun a' w' => Q .normal a' w') [] 0 l a) : (Code.region id l.toArray true).wp P Q a w := by
  refine wp_region_any hmx ?_
  have hm := many_ok hB
  have hfr : fr l.toArray a ((Array.replicate l.toArray.size false).getD · false) (fun _ => undef) l.length = a := by
    have : ∀ n, fr l.toArray a ((Array.replicate l.toArray.size false).getD · false) (fun _ => undef) n = a := by
      intro n
      induction n with
      | zero => rfl
      | succ n ih => unfold fr; rw [ih, getD_replicate_false, if_neg (by simp)]
    exact this _
  have := many_any (md := .any) (g := 0) (Q' := Q) (Q := fun a' w' => Q .normal a' w') hm (hcong := hcong) (hT := fun L _ _ j hj => by
      obtain ⟨_, o, ho, _⟩ := mem_ready.1 hj
      simpa using (Array.getElem?_eq_some_iff.1 ho).1) (fun L a' w' inv hall hq => by
      refine ⟨?_, hq⟩
      cases hr : Region.ready .any l.toArray L with
      | nil => rfl
      | cons j r =>
        have hj : j ∈ Region.ready .any l.toArray L := by rw [hr]; simp
        obtain ⟨h0, o, ho, _⟩ := mem_ready.1 hj
        have := hall j (by simpa using (Array.getElem?_eq_some_iff.1 ho).1)
        rw [getD_both h0] at this
        cases this) (a0 := a) hSh hv0 (by simpa using h) l.length (Array.replicate l.toArray.size false) w.drew (fun _ => undef) (fun _ => false)
    ⟨by simp, fun j oj _ hl => (by rw [getD_replicate_false] at hl; cases hl), fun t h1 h2 => (by simp at h2; omega)⟩ (by
      have : (fun i => !(Array.replicate l.toArray.size false).getD i false) = fun _ => true := funext fun i => by rw [getD_replicate_false]; rfl
      rw [this]; simp) (hI _) (fun d hd => by cases hd) (fun v _ ev _ k o hl => by rw [getD_replicate_false] at hl; cases hl)
  rw [hfr] at this
  simpa using this

/-- The same, the last operations in one forced order. -/
theorem wp_region_many_tail {id : Nat} {Q : Exit → Act → World → Prop} {a : Act} {w : World} {l : List Oper} (n : Nat) (Inv : (Nat → Bool) → (Nat → Value) → World → Prop) (V : Nat → Value → World → Prop) (wild : List Nat)
    (hmx : P.follows .mixedOrders = true) (hB : manyB .any l.toArray n wild = true) (hB2 : (decide (n < l.length) && Region.sinkB .any l.toArray n && Region.chainB .any l.toArray n && Region.seqB .any l.toArray (l.length - n) n ((List.range l.length).map fun i => decide (i < n)).toArray) = true)
    (hI : ∀ e, Inv (fun _ => false) e w.drew) (hcong : ∀ M e e' w, (∀ d, M d = true → e d = e' d) → Inv M e w → Inv M e' w) (Sh : Nat → Value → Prop) (hSh : ∀ k x w, V k x w → Sh k x) (v0 : Nat → Value) (hv0 : ∀ k, k ∈ wild → Sh k (v0 k))
    (h : ∀ v : Nat → Value, (∀ k, k ∈ wild → Sh k (v k)) → many P l.toArray .any Inv V wild v (fun a' w' => wpList P l.toArray Q (l.drop n) a' w') [] 0 (l.take n) a) : (Code.region id l.toArray true).wp P Q a w := by
  refine wp_region_any hmx ?_
  have hm := many_ok hB
  simp only [Bool.and_eq_true, decide_eq_true_eq] at hB2
  obtain ⟨⟨⟨hn, hs⟩, hch⟩, hseq⟩ := hB2
  have hfr : fr l.toArray a ((Array.replicate l.toArray.size false).getD · false) (fun _ => undef) n = a := by
    have : ∀ n, fr l.toArray a ((Array.replicate l.toArray.size false).getD · false) (fun _ => undef) n = a := by
      intro n
      induction n with
      | zero => rfl
      | succ n ih => unfold fr; rw [ih, getD_replicate_false, if_neg (by simp)]
    exact this _
  have hdl : (l.drop n).length = l.length - n := by simp
  have := many_any (md := .any) (g := l.length - n) (Q' := Q) (Q := fun a' w' => wpList P l.toArray Q (l.drop n) a' w') hm (hcong := hcong) (hT := fun L inv hun j hj => by
      obtain ⟨i, hi, hl⟩ := hun
      rcases Nat.lt_or_ge j n with h' | h'
      · exact h'
      · exact absurd hj (tail_waits hs hch (by simpa using hn) inv _ i rfl hi (getD_in (by rw [inv.size]; simp; omega) hl) j h')) (fun L a' w' inv hall hq => by
      have hL : L = ((List.range l.length).map fun i => decide (i < n)).toArray := by
        refine Array.ext (by rw [inv.size]; simp) fun i h1 h2 => ?_
        have hil : i < l.length := by simpa using h2
        simp only [List.getElem_toArray, List.getElem_map, List.getElem_range]
        by_cases hi : i < n
        · have := hall i hi
          simp [h1] at this
          simp [this, hi]
        · have := getD_both (inv.tail i (by omega) (by simpa using hil))
          simp [h1] at this
          simp [this]; omega
      rw [← hL] at hseq
      have h5 := wpAny_of_seq (md := .any) (Q' := Q) (l.drop n) n L a' w' (fun j => by simp [List.getElem?_drop]) (by rw [hdl]; exact hseq) hq
      rwa [hdl] at h5) (a0 := a) hSh hv0 (by simpa using h) n (Array.replicate l.toArray.size false) w.drew (fun _ => undef) (fun _ => false)
    ⟨by simp, fun j oj _ hl => (by rw [getD_replicate_false] at hl; cases hl), fun t h1 h2 => getD_in (by simpa using h2) (getD_replicate_false _ _)⟩ (by
      have : (fun i => !(Array.replicate l.toArray.size false).getD i false) = fun _ => true := funext fun i => by rw [getD_replicate_false]; rfl
      rw [this]; simp) (hI _) (fun d hd => by cases hd) (fun v _ ev _ k o hl => by rw [getD_replicate_false] at hl; cases hl)
  rw [hfr, show n + (l.length - n) = l.toArray.size by simp; omega] at this
  exact this
end
end Go.Proofs.Ytikkknaofiafhaa.RE
