/- A region that draws its order, some of whose operations make memory: as XReg has it, but the invariant may speak of the values that the operations left. No program in sight.
Drawn regions walked once, with boxes that are laid in any order: the boxes lie apart. No program in sight.
Drawn regions walked once, in which one operation stores one cell of a block that is known whole. No program in sight.
Drawn regions walked once, in which one operation changes blocks of one's own (an append) behind all that makes memory. No program in sight.
Drawn regions walked once, that hold two calls, each of which works on memory of its own; what each operation leaves is known. No program in sight. -/
import Derived.Test.YtnlhjhpikjmoaaaGreatDoorReg
import Derived.Test.YtnlhjhpikjmoaaaGreatDoorDat
namespace Go.Proofs.YtnlhjhpikjmoaaaGreatDoor.RE
open Go.RowKit Go.Proofs.YtnlhjhpikjmoaaaGreatDoor

section
variable {P : Program} {ops : Array Oper} {md : Region.Mode}
variable (P md ops)
variable (Inv : (Nat → Bool) → (Nat → Value) → World → Prop) (V : Nat → Value → World → Prop) (wild : List Nat)

def WildStep (v : Nat → Value) (E : Nat → Prop) (k : Nat) (o : Oper) (a : Act) : Prop :=
  ∀ (M : Nat → Bool) (w : World), M k = false → (∀ st, waitsB md ops ops.size st k = true → M st = false) → (∀ d, E d → waitsB md ops ops.size k d = true → M d = true) → Inv M v w → (∀ d, M d = true → V d (v d) w) →
    Gives P o a w fun x w' => V k x w' ∧ Inv (on M k) (upd v k x) w' ∧ ∀ j x', j ≠ k → V j x' w → V j x' w'

def many (v : Nat → Value) (Q : Act → World → Prop) : List Nat → Nat → List Oper → Act → Prop
  | E, _, [], a => ∀ (M : Nat → Bool) (w : World), (∀ d ∈ E, M d = true) → Inv M v w → (∀ d ∈ E, V d (v d) w) → Q a w
  | E, k, o :: rest, a =>
    if Region.wanted o (yielded ops a.tmps) then
      (if k ∈ wild then WildStep P ops md Inv V v (· ∈ E) k o a ∧ many v Q (k :: E) (k + 1) rest (a.put o.dst (v k))
       else o.quiet P a (fun w => ∃ M e, Inv M e w) (many v Q E (k + 1) rest))
    else many v Q E (k + 1) rest (a.put o.dst undef)

structure StepAt (a : Act) (v e : Nat → Value) (k : Nat) (o : Oper) : Prop where
  wild_ : wantedAt ops a e k o = true → k ∈ wild → e k = v k ∧ WildStep P ops md Inv V v (fun d => d < k ∧ Wst ops wild a e d) k o (fr ops a (fun _ => true) e k)
  quiet : wantedAt ops a e k o = true → k ∉ wild → ∀ w, (∃ M e, Inv M e w) → o.quietAt P (fr ops a (fun _ => true) e k) (fun w => ∃ M e, Inv M e w) w (e k)
  not : wantedAt ops a e k o = false → e k = undef
variable {P md ops Inv V wild}

theorem WildStep.more {v : Nat → Value} {E E' : Nat → Prop} {k : Nat} {o : Oper} {a : Act} (h : WildStep P ops md Inv V v E k o a) (hE : ∀ d, E d → E' d) : WildStep P ops md Inv V v E' k o a :=
  fun M w h1 h2 h3 h4 h5 => h M w h1 h2 (fun d hd => h3 d (hE d hd)) h4 h5

theorem many_idx {v : Nat → Value} {Q : Act → World → Prop} {a0 : Act} : ∀ (l : List Oper) (E : List Nat) (k : Nat) (e0 : Nat → Value), (∀ j, j < l.length → l[j]? = ops[k + j]?) → (∀ d ∈ E, d < k ∧ Wst ops wild a0 e0 d) →
    many P ops md Inv V wild v Q E k l (fr ops a0 (fun _ => true) e0 k) →
    ∃ e : Nat → Value, (∀ i, i < k → e i = e0 i) ∧ (∀ i o, k ≤ i → i < k + l.length → ops[i]? = some o → StepAt P ops md Inv V wild a0 v e i o) ∧
      ∀ (M : Nat → Bool) (w : World), (∀ d, d < k + l.length → Wst ops wild a0 e d → M d = true) → Inv M v w → (∀ d, d < k + l.length → Wst ops wild a0 e d → V d (v d) w) → Q (fr ops a0 (fun _ => true) e (k + l.length)) w
  | [], E, k, e0, hl, hE, h => by
    exact ⟨e0, fun _ _ => rfl, fun i o hi hi2 => absurd hi2 (by simp; omega), fun M w h1 h2 h3 => h M w (fun d hd => h1 d (by have := (hE d hd).1; simp; omega) (hE d hd).2) h2 (fun d hd => h3 d (by have := (hE d hd).1; simp; omega) (hE d hd).2)⟩
  | o :: l, E, k, e0, hl, hE, h => by
    have h0 : ops[k]? = some o := by simpa using (hl 0 (by simp)).symm
    have hd0 : dstOf ops k = o.dst := by unfold dstOf; rw [h0]; rfl
    have hlen : k + (o :: l).length = k + 1 + l.length := by simp; omega
    have hl' : ∀ j, j < l.length → l[j]? = ops[k + 1 + j]? := fun j hj => by have := hl (j + 1) (by simp; omega); simpa [Nat.add_assoc, Nat.add_comm 1 j] using this
    -- one value more
    have next : ∀ (E' : List Nat) (x : Value), (∀ d ∈ E', d < k + 1 ∧ Wst ops wild a0 (upd e0 k x) d) → many P ops md Inv V wild v Q E' (k + 1) l ((fr ops a0 (fun _ => true) e0 k).put o.dst x) →
        ∃ e : Nat → Value, (∀ i, i < k → e i = e0 i) ∧ e k = x ∧ fr ops a0 (fun _ => true) e k = fr ops a0 (fun _ => true) e0 k ∧ (∀ i o, k + 1 ≤ i → i < k + 1 + l.length → ops[i]? = some o → StepAt P ops md Inv V wild a0 v e i o) ∧
          ∀ (M : Nat → Bool) (w : World), (∀ d, d < k + 1 + l.length → Wst ops wild a0 e d → M d = true) → Inv M v w → (∀ d, d < k + 1 + l.length → Wst ops wild a0 e d → V d (v d) w) → Q (fr ops a0 (fun _ => true) e (k + 1 + l.length)) w := by
      intro E' x hE' hm
      have hf : fr ops a0 (fun _ => true) (upd e0 k x) (k + 1) = (fr ops a0 (fun _ => true) e0 k).put o.dst x := by
        show (fr ops a0 (fun _ => true) (upd e0 k x) k).put (dstOf ops k) (upd e0 k x k) = _
        rw [hd0, fr_congr k (S' := fun _ => true) (e' := e0) fun i hi => ⟨rfl, fun _ => by simp [upd]; omega⟩]
        simp [upd]
      rw [← hf] at hm
      obtain ⟨e, h1, h2, h3⟩ := many_idx l E' (k + 1) (upd e0 k x) hl' hE' hm
      refine ⟨e, fun i hi => by rw [h1 i (by omega)]; simp [upd]; omega, by rw [h1 k (by omega)]; simp [upd], fr_congr k fun i hi => ⟨rfl, fun _ => by rw [h1 i (by omega)]; simp [upd]; omega⟩, h2, h3⟩
    -- what is known of what came before stays
    have keepW : ∀ (e : Nat → Value) (d : Nat), (∀ i, i < k → e i = e0 i) → d < k → Wst ops wild a0 e0 d → Wst ops wild a0 e d := by
      rintro e d he hd ⟨h1, o', ho', hw⟩
      refine ⟨h1, o', ho', ?_⟩
      unfold wantedAt at hw ⊢
      rw [fr_congr d (S' := fun _ => true) (e' := e0) fun i hi => ⟨rfl, fun _ => he i (by omega)⟩]
      exact hw
    have keepU : ∀ (x : Value) (d : Nat), d < k → Wst ops wild a0 e0 d → Wst ops wild a0 (upd e0 k x) d := fun x d hd hw => keepW _ d (fun i hi => by simp [upd]; omega) hd hw
    unfold many at h
    by_cases hwant : Region.wanted o (yielded ops (fr ops a0 (fun _ => true) e0 k).tmps) = true
    · rw [if_pos hwant] at h
      by_cases hwild : k ∈ wild
      · rw [if_pos hwild] at h
        obtain ⟨h1, h2⟩ := h
        obtain ⟨e, he, hek, hfr, hst, hfin⟩ := next (k :: E) (v k) (fun d hd => by
          rcases List.mem_cons.1 hd with rfl | hd
          · refine ⟨by omega, hwild, o, h0, ?_⟩
            unfold wantedAt
            rw [fr_congr d (S' := fun _ => true) (e' := e0) fun i hi => ⟨rfl, fun _ => by simp [upd]; omega⟩]
            exact hwant
          · exact ⟨by have := (hE d hd).1; omega, keepU _ d (hE d hd).1 (hE d hd).2⟩) h2
        refine ⟨e, he, fun i o' hi hi2 ho' => ?_, by rw [hlen]; exact hfin⟩
        by_cases hik : i = k
        · subst hik
          rw [h0] at ho'
          cases ho'
          have hw1 : wantedAt ops a0 e i o = true := by unfold wantedAt; rw [hfr]; exact hwant
          refine ⟨fun _ _ => ⟨hek, ?_⟩, fun _ hn => absurd hwild hn, fun hn => by rw [hw1] at hn; cases hn⟩
          rw [hfr]
          exact h1.more fun d hd => ⟨(hE d hd).1, keepW e d he (hE d hd).1 (hE d hd).2⟩
        · exact hst i o' (by omega) (by omega) ho'
      · rw [if_neg hwild] at h
        obtain ⟨u, h1, h2⟩ := h
        obtain ⟨e, he, hek, hfr, hst, hfin⟩ := next E u (fun d hd => ⟨by have := (hE d hd).1; omega, keepU _ d (hE d hd).1 (hE d hd).2⟩) h2
        refine ⟨e, he, fun i o' hi hi2 ho' => ?_, by rw [hlen]; exact hfin⟩
        by_cases hik : i = k
        · subst hik
          rw [h0] at ho'
          cases ho'
          have hw1 : wantedAt ops a0 e i o = true := by unfold wantedAt; rw [hfr]; exact hwant
          refine ⟨fun _ hn => absurd hn hwild, fun _ _ w hw => ?_, fun hn => by rw [hw1] at hn; cases hn⟩
          rw [hfr, hek]
          exact h1 w hw
        · exact hst i o' (by omega) (by omega) ho'
    · rw [if_neg hwant] at h
      obtain ⟨e, he, hek, hfr, hst, hfin⟩ := next E undef (fun d hd => ⟨by have := (hE d hd).1; omega, keepU _ d (hE d hd).1 (hE d hd).2⟩) h
      refine ⟨e, he, fun i o' hi hi2 ho' => ?_, by rw [hlen]; exact hfin⟩
      by_cases hik : i = k
      · subst hik
        rw [h0] at ho'
        cases ho'
        have hw1 : ¬ wantedAt ops a0 e i o = true := by unfold wantedAt; rw [hfr]; exact hwant
        exact ⟨fun hw => absurd hw hw1, fun hw => absurd hw hw1, fun _ => hek⟩
      · exact hst i o' (by omega) (by omega) ho'
structure Vals (P : Program) (ops : Array Oper) (md : Region.Mode) (Inv : (Nat → Bool) → (Nat → Value) → World → Prop) (V : Nat → Value → World → Prop) (wild : List Nat) (n : Nat) (Q : Act → World → Prop) (a0 : Act) (v ev : Nat → Value) : Prop where
  st : ∀ i o, i < n → ops[i]? = some o → StepAt P ops md Inv V wild a0 v ev i o
  fin : ∀ (M : Nat → Bool) (w : World), (∀ d, d < n → Wst ops wild a0 ev d → M d = true) → Inv M v w → (∀ d, d < n → Wst ops wild a0 ev d → V d (v d) w) → Q (fr ops a0 (fun _ => true) ev n) w

theorem many_any {n g : Nat} (hm : ManyOk md ops n wild) (hT : ∀ L, HeadInv md ops n L → (∃ i, i < n ∧ L.getD i false = false) → ∀ j ∈ Region.ready md ops L, j < n) {Q : Act → World → Prop} {Q' : Exit → Act → World → Prop} (hcong : ∀ M e e' w, (∀ d, M d = true → e d = e' d) → Inv M e w → Inv M e' w)
    (hQ : ∀ L a w, HeadInv md ops n L → (∀ i, i < n → L.getD i false = true) → Q a w → wpAny P md ops Q' g L a w) {a0 : Act} {Sh : Nat → Value → Prop} (hSh : ∀ k x w, V k x w → Sh k x) {v0 : Nat → Value} (hv0 : ∀ k, k ∈ wild → Sh k (v0 k))
    (H : ∀ v : Nat → Value, (∀ k, k ∈ wild → Sh k (v k)) → many P ops md Inv V wild v Q [] 0 (ops.toList.take n) a0) :
    ∀ (f : Nat) (L : Array Bool) (w : World) (e : Nat → Value) (M : Nat → Bool), HeadInv md ops n L → (List.range n).countP (fun i => !L.getD i false) = f → Inv M e w →
      (∀ d, M d = true → L.getD d false = true ∧ d ∈ wild ∧ V d (e d) w) →
      (∀ v : Nat → Value, (∀ d, M d = true → v d = e d) → ∀ ev, Vals P ops md Inv V wild n Q a0 v ev → ∀ k o, L.getD k false = true → ops[k]? = some o → ev k = e k ∧ (k ∈ wild → wantedAt ops a0 ev k o = M k)) →
      wpAny P md ops Q' (f + g) L (fr ops a0 (L.getD · false) e n) w := by
  intro f
  have hle := hm.le
  have htl : (ops.toList.take n).length = n := by simp; omega
  -- values for any v
  have vals : ∀ v : Nat → Value, (∀ k, k ∈ wild → Sh k (v k)) → ∃ ev, Vals P ops md Inv V wild n Q a0 v ev := by
    intro v hv
    obtain ⟨ev, _, h2, h3⟩ := many_idx (v := v) (Q := Q) (a0 := a0) (ops.toList.take n) [] 0 (fun _ => undef) (fun j hj => by rw [htl] at hj; simp [hj]) (by simp) (H v hv)
    rw [htl, Nat.zero_add] at h2 h3
    exact ⟨ev, fun i o hi ho => h2 i o (by omega) hi ho, h3⟩
  have shape : ∀ {e : Nat → Value} {M : Nat → Bool} {L : Array Bool} {w : World}, (∀ d, M d = true → L.getD d false = true ∧ d ∈ wild ∧ V d (e d) w) → ∀ k, k ∈ wild → Sh k (if M k = true then e k else v0 k) := by
    intro e M L w h2 k hk
    by_cases hM : M k = true
    · rw [if_pos hM]; exact hSh k _ w (h2 k hM).2.2
    · rw [if_neg hM]; exact hv0 k hk
  have ends : ∀ (L : Array Bool) (w : World) (e : Nat → Value) (M : Nat → Bool), (∀ i, i < n → L.getD i false = true) → (∀ i, n ≤ i → L.getD i false = false) → Inv M e w → (∀ d, M d = true → L.getD d false = true ∧ d ∈ wild ∧ V d (e d) w) →
      (∀ v : Nat → Value, (∀ d, M d = true → v d = e d) → ∀ ev, Vals P ops md Inv V wild n Q a0 v ev → ∀ k o, L.getD k false = true → ops[k]? = some o → ev k = e k ∧ (k ∈ wild → wantedAt ops a0 ev k o = M k)) →
      Q (fr ops a0 (L.getD · false) e n) w := by
    intro L w e M hall hno hI h2 h3
    obtain ⟨ev, hev⟩ := vals (fun k => if M k = true then e k else v0 k) (shape h2)
    have h4 := h3 _ (fun d hd => by simp [hd]) ev hev
    have hM : ∀ d, d < n → Wst ops wild a0 ev d → M d = true := by
      rintro d hd ⟨hw, o, ho, hwant⟩
      have := (h4 d o (hall d hd) ho).2 hw
      rw [← this]; exact hwant
    have h5 := hev.fin M w hM (hcong _ _ _ _ (fun d hd => by simp [hd]) hI) fun d hd hw => by
      have := hM d hd hw
      simp only [this, if_true]
      exact (h2 d this).2.2
    rw [fr_congr n (S' := fun _ => true) (e' := ev) fun i hi => ⟨hall i hi, fun _ => ((h4 i _ (hall i hi) (Array.getElem?_eq_getElem (by omega))).1).symm⟩]
    exact h5
  have tailF : ∀ {L : Array Bool}, HeadInv md ops n L → ∀ i, n ≤ i → L.getD i false = false := fun {L} inv i hi => by
    rcases Nat.lt_or_ge i ops.size with h | h
    · exact getD_both (inv.tail i hi h)
    · simp [Array.getElem?_eq_none (show L.size ≤ i by rw [inv.size]; exact h)]
  induction f with
  | zero =>
    intro L w e M inv hcnt hI h2 h3
    have hall : ∀ i, i < n → L.getD i false = true := by
      intro i hi
      have h := List.countP_eq_zero.1 hcnt i (List.mem_range.2 hi)
      simpa using h
    rw [Nat.zero_add]
    exact hQ L _ w inv hall (ends L w e M hall (tailF inv) hI h2 h3)
  | succ f ih =>
    intro L w e M inv hcnt hI h2 h3
    have hun0 : ∃ i, i < n ∧ L.getD i false = false := by
      obtain ⟨i, hi, hp⟩ := List.countP_pos_iff.1 (show 0 < (List.range n).countP (fun i => !L.getD i false) by omega)
      exact ⟨i, List.mem_range.1 hi, by simpa using hp⟩
    rw [show f + 1 + g = (f + g) + 1 by omega]
    refine ⟨fun hr => ?_, fun j hj => ?_⟩
    · obtain ⟨i, hi, hl⟩ := hun0
      rw [all_listed hm inv.size hr i hi] at hl
      cases hl
    have hc : Closed md ops L := inv.closed
    have hs := inv.size
    obtain ⟨hun, oj, hoj, hdeps⟩ := mem_ready.1 hj
    have hjn : j < n := hT L inv hun0 j hj
    have hLj := getD_both hun
    have hdj : dstOf ops j = oj.dst := by unfold dstOf; rw [hoj]; rfl
    have hMj : M j = false := by
      cases h : M j with
      | false => rfl
      | true => have := (h2 j h).1; rw [hLj] at this; cases this
    -- frames that are alike for j
    have alike : ∀ v : Nat → Value, (∀ d, M d = true → v d = e d) → ∀ ev, Vals P ops md Inv V wild n Q a0 v ev → Ag ops oj (fr ops a0 (L.getD · false) e n) (fr ops a0 (fun _ => true) ev j) := by
      intro v hv ev hev
      rw [← fr_lex j n (by omega)]
      refine ag_fr _ (fun k hk h1 h4 => ((h3 v hv ev hev k _ h1 (Array.getElem?_eq_getElem (by omega))).1).symm) (fun k hk hne d hd => ?_)
      obtain ⟨ok, hok⟩ : ∃ o, ops[k]? = some o := ⟨_, Array.getElem?_eq_getElem (by omega)⟩
      have hdk : ok.dst = some d := by unfold dstOf at hd; rw [hok] at hd; exact hd
      rcases Nat.lt_trichotomy k j with hlt | rfl | hgt
      · have hLk : L.getD k false = false := by
          cases h : L.getD k false with
          | false => rfl
          | true => rw [h] at hne; simp [hlt] at hne
        rcases hm.free k j ok oj hlt hjn hok hoj with ⟨e', he', hb, hon⟩ | hap
        · have := hdeps e' he' hb
          rw [hon, hLk] at this
          cases this
        · exact (Oper.apart_spec hap).1 d hdk
      · rw [hLj] at hne
        simp at hne
      · have hLk : L.getD k false = true := by
          cases h : L.getD k false with
          | true => rfl
          | false => rw [h] at hne; simp at hne; omega
        rcases hm.free j k oj ok hgt hk hoj hok with ⟨e', he', hb, hon⟩ | hap
        · have := hc k ok hok hLk e' he' hb
          rw [hon, hLj] at this
          cases this
        · exact (Oper.apart_spec hap).2.2 d hdk
    -- what comes next
    have next : ∀ (x : Value) (M' : Nat → Bool) (w' : World), (∀ d, d ≠ j → M' d = M d) → Inv M' (upd e j x) w' → (M' j = true → j ∈ wild ∧ V j x w') → (∀ d, M d = true → V d (e d) w') →
        (∀ v : Nat → Value, (∀ d, M' d = true → v d = upd e j x d) → ∀ ev, Vals P ops md Inv V wild n Q a0 v ev → ev j = x ∧ (j ∈ wild → wantedAt ops a0 ev j oj = M' j)) →
        wpAny P md ops Q' (f + g) (L.setIfInBounds j true) ((fr ops a0 (L.getD · false) e n).put oj.dst x) w' := by
      intro x M' w' hM' hI' hVj hVd hx
      have hset := setL_at (L := L) (n := ops.size) hs (show j < ops.size by omega)
      rw [← hdj, ← fr_set hm (S := (L.getD · false)) (e := e) (k := j) (x := x) hLj n hjn (Nat.le_refl _)]
      have e1 : (on (fun i => L.getD i false) j) = ((L.setIfInBounds j true).getD · false) := funext fun i => (hset i).symm
      rw [e1]
      refine ih _ w' _ M' (inv.set hj hjn) ?_ hI' ?_ ?_
      · have := countP_one (p := fun i => !L.getD i false) (q := fun i => !(L.setIfInBounds j true).getD i false) (j := j) (by simp [hLj]) (by rw [hset]; simp [on]) (fun i hi => by rw [hset]; simp [on, hi]) n hjn
        omega
      · intro d hd
        rw [hset]
        by_cases hdj' : d = j
        · subst hdj'
          obtain ⟨h4, h5⟩ := hVj hd
          exact ⟨by simp [on], h4, by simpa [upd] using h5⟩
        · rw [hM' d hdj'] at hd
          obtain ⟨h4, h5, _⟩ := h2 d hd
          refine ⟨by simp [on, h4], h5, ?_⟩
          have : upd e j x d = e d := by simp [upd, hdj']
          rw [this]
          exact hVd d hd
      · intro v hv ev hev k o hk hok
        rw [hset] at hk
        unfold on at hk
        by_cases hkj : k = j
        · subst hkj
          rw [hoj] at hok
          cases hok
          have := hx v hv ev hev
          exact ⟨by simpa [upd] using this.1, this.2⟩
        · have hk' : L.getD k false = true := by simpa [hkj] using hk
          have := h3 v (fun d hd => by
            have hdj' : d ≠ j := fun h => by subst h; rw [hMj] at hd; cases hd
            have := hv d (by rw [hM' d hdj']; exact hd)
            rw [this]; simp [upd, hdj']) ev hev k o hk' hok
          exact ⟨by rw [this.1]; simp [upd, hkj], fun hw => by rw [this.2 hw, hM' k hkj]⟩
    have ext : ∀ {x : Value} {M' : Nat → Bool} {v : Nat → Value}, (∀ d, d ≠ j → M' d = M d) → (∀ d, M' d = true → v d = upd e j x d) → ∀ d, M d = true → v d = e d := by
      intro x M' v hM' hv d hd
      have hdj' : d ≠ j := fun h => by subst h; rw [hMj] at hd; cases hd
      have := hv d (by rw [hM' d hdj']; exact hd)
      rw [this]; simp [upd, hdj']
    obtain ⟨ev, hev⟩ := vals (fun k => if M k = true then e k else v0 k) (shape h2)
    have hvv : ∀ d, M d = true → (fun k => if M k = true then e k else v0 k) d = e d := fun d hd => by simp [hd]
    have hAg := alike _ hvv ev hev
    have hst := hev.st j oj hjn hoj
    have hwa : Region.wanted oj (yielded ops (fr ops a0 (L.getD · false) e n).tmps) = wantedAt ops a0 ev j oj := hAg.wanted
    have hwa' : ∀ v : Nat → Value, (∀ d, M d = true → v d = e d) → ∀ ev', Vals P ops md Inv V wild n Q a0 v ev' → wantedAt ops a0 ev' j oj = wantedAt ops a0 ev j oj := fun v hv ev' hev' => by
      rw [← hwa]; exact ((alike v hv ev' hev').wanted).symm
    unfold wpOp
    simp only [hoj, hwa]
    cases hw : wantedAt ops a0 ev j oj with
    | false =>
      simp only [Bool.false_eq_true, if_false]
      refine next undef M w (fun _ _ => rfl) (hcong _ _ _ _ (fun d hd => by simp [upd]; intro h; subst h; rw [hMj] at hd; cases hd) hI) (fun h => by rw [hMj] at h; cases h) (fun d hd => (h2 d hd).2.2) fun v hv ev' hev' => ?_
      have h4 := hwa' v (ext (fun _ _ => rfl) hv) ev' hev'
      rw [hw] at h4
      exact ⟨(hev'.st j oj hjn hoj).not h4, fun _ => by rw [h4, hMj]⟩
    | true =>
      simp only [if_true]
      refine .inl ?_
      by_cases hwild : j ∈ wild
      · obtain ⟨_, hstep⟩ := hst.wild_ hw hwild
        have h4 := hstep M w hMj (fun st hst' => by
            cases h : M st with
            | false => rfl
            | true =>
              have := waits_closed hc (h2 st h).1 hst'
              rw [hLj] at this
              cases this)
          (fun d hd hwt => by
            obtain ⟨_, hdw, o, ho, hwd⟩ := hd
            have := (h3 _ hvv ev hev d o (waits_ready hc hj hwt) ho).2 hdw
            rw [← this]; exact hwd) (hcong _ _ _ _ (fun d hd => (hvv d hd).symm) hI) (fun d hd => by
              have := (h2 d hd).2.2
              simpa [hd] using this)
        have h5 := Gives.congr (hAg.exec (hm.sel j oj · · hoj)) h4
        refine h5.wp fun x w' ⟨g1, g2, g3⟩ => ?_
        refine next x (on M j) w' (fun d hd => by simp [on, hd]) (hcong _ _ _ _ (fun d hd => by by_cases hdj : d = j <;> simp [upd, hdj]; simp [on, hdj] at hd; simp [hd]) g2) (fun _ => ⟨hwild, g1⟩) (fun d hd => g3 d _ (fun h => by subst h; rw [hMj] at hd; cases hd) (h2 d hd).2.2) fun v hv ev' hev' => ?_
        have h6 := hwa' v (ext (M' := on M j) (fun d hd => by simp [on, hd]) hv) ev' hev'
        rw [hw] at h6
        refine ⟨?_, fun _ => by rw [h6]; simp [on]⟩
        rw [((hev'.st j oj hjn hoj).wild_ h6 hwild).1, hv j (by simp [on])]
        simp [upd]
      · have h4 := hst.quiet hw hwild w ⟨M, e, hI⟩
        have hplain := hm.plain j oj hjn hoj hwild
        have hex := hAg.exec (hm.sel j oj · · hoj)
        have h5 : Gives P oj (fr ops a0 (L.getD · false) e n) w (fun x w' => x = ev j ∧ w' = w) := by
          unfold Gives
          unfold Oper.quietAt at h4
          rw [hex]
          have hno := plain_no (P := P) hplain (fr ops a0 (fun _ => true) ev j).eval w
          generalize (execOp (fr ops a0 (fun _ => true) ev j).eval oj).run P w = r at *
          cases r with
          | ok n w' =>
            cases n <;> simp only [Oper.quietUpon] at h4 <;> simp only [giv]
            case value u => exact ⟨h4.2, h4.1⟩
            case skip => exact ⟨h4.2.symm, h4.1⟩
            case enter f args => exact absurd rfl (hno w' f args)
          | halt x w' => simp only [Oper.quietUpon] at h4
        refine h5.wp fun x w' ⟨g1, g2⟩ => ?_
        subst g1 g2
        refine next (ev j) M w' (fun _ _ => rfl) (hcong _ _ _ _ (fun d hd => by simp [upd]; intro h; subst h; rw [hMj] at hd; cases hd) hI) (fun h => by rw [hMj] at h; cases h) (fun d hd => (h2 d hd).2.2) fun v hv ev' hev' => ?_
        have hext := ext (fun _ _ => rfl) hv
        have h6 := hwa' v hext ev' hev'
        rw [hw] at h6
        refine ⟨?_, fun hn => absurd hn hwild⟩
        have h7 := (hev'.st j oj hjn hoj).quiet h6 hwild w' ⟨M, e, hI⟩
        have hex' := (alike v hext ev' hev').exec (hm.sel j oj · · hoj)
        unfold Oper.quietAt at h4 h7
        rw [← hex', hex] at h7
        have hno := plain_no (P := P) hplain (fr ops a0 (fun _ => true) ev j).eval w'
        generalize (execOp (fr ops a0 (fun _ => true) ev j).eval oj).run P w' = r at *
        cases r with
        | ok n w2 =>
          cases n <;> simp only [Oper.quietUpon] at h4 h7
          case value u => rw [← h7.2, h4.2]
          case skip => rw [h7.2, h4.2]
          case enter f args => exact absurd rfl (hno w2 f args)
        | halt x w2 => simp only [Oper.quietUpon] at h4

/-- A region that draws its order, walked once. -/
theorem wp_region_many {id : Nat} {Q : Exit → Act → World → Prop} {a : Act} {w : World} {l : List Oper} (Inv : (Nat → Bool) → (Nat → Value) → World → Prop) (V : Nat → Value → World → Prop) (wild : List Nat)
    (hmx : P.follows .mixedOrders = true) (hB : manyB .any l.toArray l.length wild = true) (hI : ∀ e, Inv (fun _ => false) e w.drew) (hcong : ∀ M e e' w, (∀ d, M d = true → e d = e' d) → Inv M e w → Inv M e' w) (Sh : Nat → Value → Prop) (hSh : ∀ k x w, V k x w → Sh k x) (v0 : Nat → Value) (hv0 : ∀ k, k ∈ wild → Sh k (v0 k))
    (h : ∀ v : Nat → Value, (∀ k, k ∈ wild → Sh k (v k)) → many P l.toArray .any Inv V wild v (fun a' w' => Q .normal a' w') [] 0 l a) : (Code.region id l.toArray true).wp P Q a w := by
  refine wp_region_any hmx ?_
  have hm := many_ok hB
  have hfr : fr l.toArray a ((Array.replicate l.toArray.size false).getD · false) (fun _ => undef) l.length = a := by
    have : ∀ n, fr l.toArray a ((Array.replicate l.toArray.size false).getD · false) (fun _ => undef) n = a := by
      intro n
      induction n with
      | zero => rfl
      | succ n ih => unfold fr; rw [ih, getD_replicate_false, if_neg (by simp)]
    exact this _
  have := many_any (md := .any) (g := 0) (Q' := Q) (Q := fun a' w' => Q .normal a' w') hm (hcong := hcong) (hT := fun L _ _ j hj => by
      obtain ⟨_, o, ho, _⟩ := mem_ready.1 hj
      simpa using (Array.getElem?_eq_some_iff.1 ho).1) (fun L a' w' inv hall hq => by
      refine ⟨?_, hq⟩
      cases hr : Region.ready .any l.toArray L with
      | nil => rfl
      | cons j r =>
        have hj : j ∈ Region.ready .any l.toArray L := by rw [hr]; simp
        obtain ⟨h0, o, ho, _⟩ := mem_ready.1 hj
        have := hall j (by simpa using (Array.getElem?_eq_some_iff.1 ho).1)
        rw [getD_both h0] at this
        cases this) (a0 := a) hSh hv0 (by simpa using h) l.length (Array.replicate l.toArray.size false) w.drew (fun _ => undef) (fun _ => false)
    ⟨by simp, fun j oj _ hl => (by rw [getD_replicate_false] at hl; cases hl), fun t h1 h2 => (by simp at h2; omega)⟩ (by
      have : (fun i => !(Array.replicate l.toArray.size false).getD i false) = fun _ => true := funext fun i => by rw [getD_replicate_false]; rfl
      rw [this]; simp) (hI _) (fun d hd => by cases hd) (fun v _ ev _ k o hl => by rw [getD_replicate_false] at hl; cases hl)
  rw [hfr] at this
  simpa using this

/-- The same, the last operations in one forced order. -/
theorem wp_region_many_tail {id : Nat} {Q : Exit → Act → World → Prop} {a : Act} {w : World} {l : List Oper} (n : Nat) (Inv : (Nat → Bool) → (Nat → Value) → World → Prop) (V : Nat → Value → World → Prop) (wild : List Nat)
    (hmx : P.follows .mixedOrders = true) (hB : manyB .any l.toArray n wild = true) (hB2 : (decide (n < l.length) && Region.sinkB .any l.toArray n && Region.chainB .any l.toArray n && Region.seqB .any l.toArray (l.length - n) n ((List.range l.length).map fun i => decide (i < n)).toArray) = true)
    (hI : ∀ e, Inv (fun _ => false) e w.drew) (hcong : ∀ M e e' w, (∀ d, M d = true → e d = e' d) → Inv M e w → Inv M e' w) (Sh : Nat → Value → Prop) (hSh : ∀ k x w, V k x w → Sh k x) (v0 : Nat → Value) (hv0 : ∀ k, k ∈ wild → Sh k (v0 k))
    (h : ∀ v : Nat → Value, (∀ k, k ∈ wild → Sh k (v k)) → many P l.toArray .any Inv V wild v (fun a' w' => wpList P l.toArray Q (l.drop n) a' w') [] 0 (l.take n) a) : (Code.region id l.toArray true).wp P Q a w := by
  refine wp_region_any hmx ?_
  have hm := many_ok hB
  simp only [Bool.and_eq_true, decide_eq_true_eq] at hB2
  obtain ⟨⟨⟨hn, hs⟩, hch⟩, hseq⟩ := hB2
  have hfr : fr l.toArray a ((Array.replicate l.toArray.size false).getD · false) (fun _ => undef) n = a := by
    have : ∀ n, fr l.toArray a ((Array.replicate l.toArray.size false).getD · false) (fun _ => undef) n = a := by
      intro n
      induction n with
      | zero => rfl
      | succ n ih => unfold fr; rw [ih, getD_replicate_false, if_neg (by simp)]
    exact this _
  have hdl : (l.drop n).length = l.length - n := by simp
  have := many_any (md := .any) (g := l.length - n) (Q' := Q) (Q := fun a' w' => wpList P l.toArray Q (l.drop n) a' w') hm (hcong := hcong) (hT := fun L inv hun j hj => by
      obtain ⟨i, hi, hl⟩ := hun
      rcases Nat.lt_or_ge j n with h' | h'
      · exact h'
      · exact absurd hj (tail_waits hs hch (by simpa using hn) inv _ i rfl hi (getD_in (by rw [inv.size]; simp; omega) hl) j h')) (fun L a' w' inv hall hq => by
      have hL : L = ((List.range l.length).map fun i => decide (i < n)).toArray := by
        refine Array.ext (by rw [inv.size]; simp) fun i h1 h2 => ?_
        have hil : i < l.length := by simpa using h2
        simp only [List.getElem_toArray, List.getElem_map, List.getElem_range]
        by_cases hi : i < n
        · have := hall i hi
          simp [h1] at this
          simp [this, hi]
        · have := getD_both (inv.tail i (by omega) (by simpa using hil))
          simp [h1] at this
          simp [this]; omega
      rw [← hL] at hseq
      have h5 := wpAny_of_seq (md := .any) (Q' := Q) (l.drop n) n L a' w' (fun j => by simp [List.getElem?_drop]) (by rw [hdl]; exact hseq) hq
      rwa [hdl] at h5) (a0 := a) hSh hv0 (by simpa using h) n (Array.replicate l.toArray.size false) w.drew (fun _ => undef) (fun _ => false)
    ⟨by simp, fun j oj _ hl => (by rw [getD_replicate_false] at hl; cases hl), fun t h1 h2 => getD_in (by simpa using h2) (getD_replicate_false _ _)⟩ (by
      have : (fun i => !(Array.replicate l.toArray.size false).getD i false) = fun _ => true := funext fun i => by rw [getD_replicate_false]; rfl
      rw [this]; simp) (hI _) (fun d hd => by cases hd) (fun v _ ev _ k o hl => by rw [getD_replicate_false] at hl; cases hl)
  rw [hfr, show n + (l.length - n) = l.toArray.size by simp; omega] at this
  exact this
end
end Go.Proofs.YtnlhjhpikjmoaaaGreatDoor.RE

namespace Go.Proofs.YtnlhjhpikjmoaaaGreatDoor
open Go.RowKit

/-- a new block, and who points at it -/
def Sp.box (base : Nat) (T : TypeId) (zs : Array Value) : Sp :=
  ⟨fun x => ∃ g, x = .pointer (some ⟨g, 0, none⟩), .pointer (some ⟨0, 0, none⟩), ⟨0, rfl⟩, fun x w => ∃ g, x = .pointer (some ⟨g, 0, none⟩) ∧ base ≤ g ∧ Blk w g T zs, fun _ _ ⟨g, h, _⟩ => ⟨g, h⟩, fun _ _ _ hb ⟨g, h, h1, h2⟩ => ⟨g, h, h1, h2.below hb h2.lt⟩⟩

section
variable {P : Program} {ops : Array Oper} {md : Region.Mode} {w : World} {L : List (Nat × Sp)} {wild bx : List Nat} {v : Nat → Value} {Q : Act → World → Prop}
abbrev boxInv (w : World) (bx : List Nat) : (Nat → Bool) → (Nat → Value) → World → Prop := fun M e w' => Below w.heap.size w w' ∧ ∀ i ∈ bx, ∀ j ∈ bx, i ≠ j → M i = true → M j = true → e i ≠ e j
abbrev manyX (P : Program) (ops : Array Oper) (w : World) (L : List (Nat × Sp)) (wild bx : List Nat) (v : Nat → Value) (Q : Act → World → Prop) (E : List Nat) (k : Nat) (l : List Oper) (a : Act) : Prop :=
  RE.many P ops .any (boxInv w bx) (spV L) wild v Q E k l a

/-- operations that are quiet -/
theorem manyx_pre (n : Nat) {E : List Nat} {k : Nat} {l : List Oper} {a : Act} (hno : (List.range n).all (fun i => !wild.contains (k + i)) = true)
    (h : wpQuiet P ops (fun w' => ∃ s : Later w, w' = s.val) (fun a' => manyX P ops w L wild bx v Q E (k + n) (l.drop n) a') (l.take n) a) : manyX P ops w L wild bx v Q E k l a := by
  induction n generalizing k l a with
  | zero => simpa [wpQuiet] using h
  | succ n ih =>
    cases l with
    | nil => simpa [wpQuiet, RE.many] using h
    | cons o l =>
      simp only [List.all_eq_true, List.mem_range] at hno
      have h0 : k ∉ wild := by have := hno 0 (by omega); simpa using this
      have hno' : (List.range n).all (fun i => !wild.contains (k + 1 + i)) = true := by
        simp only [List.all_eq_true, List.mem_range]
        intro i hi
        have := hno (i + 1) (by omega)
        rw [show k + 1 + i = k + (i + 1) by omega]
        exact this
      have next : ∀ a', wpQuiet P ops (fun w' => ∃ s : Later w, w' = s.val) (fun a' => manyX P ops w L wild bx v Q E (k + (n + 1)) ((o :: l).drop (n + 1)) a') (l.take n) a' → manyX P ops w L wild bx v Q E (k + 1) l a' := fun a' h' =>
        ih hno' (by
          have e : k + 1 + n = k + (n + 1) := by omega
          rw [e]; simpa using h')
      rw [List.take_succ_cons] at h
      unfold wpQuiet at h
      show RE.many P ops .any _ _ wild v Q E k (o :: l) a
      unfold RE.many
      split at h
      · rename_i hw
        rw [if_pos hw, if_neg h0]
        obtain ⟨u, h1, h2⟩ := h
        refine ⟨u, fun w' hw' => ?_, next _ h2⟩
        obtain ⟨M, e0, hM⟩ := hw'
        have h3 := h1 w' ⟨⟨w', hM.1⟩, rfl⟩
        unfold Oper.quietAt at h3 ⊢
        generalize (execOp a.eval o).run P w' = r at *
        cases r with
        | ok n' w2 =>
          cases n' <;> simp only [Oper.quietUpon] at h3 ⊢ <;> try exact h3
          case enter f args => exact ⟨h3.1, h3.2.mono fun e w'' ⟨he, s, hs⟩ => ⟨he, fun _ => false, fun _ => undef, by rw [hs]; exact s.below, fun i _ j _ _ h => by cases h⟩⟩
        | halt x w2 => simp only [Oper.quietUpon] at h3
      · rename_i hw
        rw [if_neg hw]
        exact next _ h

/-- an operation that makes memory, by its specification -/
theorem manyx_wild {E : List Nat} {k : Nat} {o : Oper} {rest : List Oper} {a : Act} (hk : (wild.contains k && !bx.contains k) = true) (hw : Region.wanted o (yielded ops a.tmps) = true)
    (h1 : ∀ s : Later w, (∀ d ∈ E, waitsB .any ops ops.size k d = true → (spOf L d).F (v d) s.val) → Gives P o a s.val fun x w' => (spOf L k).F x w' ∧ Below s.val.heap.size s.val w')
    (h2 : ∀ a', a.put o.dst (v k) = a' → manyX P ops w L wild bx v Q (k :: E) (k + 1) rest a') : manyX P ops w L wild bx v Q E k (o :: rest) a := by
  have hk1 : k ∈ wild := by simp only [Bool.and_eq_true] at hk; simpa using hk.1
  have hk2 : k ∉ bx := by simp only [Bool.and_eq_true] at hk; simpa using hk.2
  show RE.many P ops .any _ _ wild v Q E k (o :: rest) a
  unfold RE.many
  rw [if_pos hw, if_pos hk1]
  refine ⟨fun M w' hMk _ hE hI hV => ?_, h2 _ rfl⟩
  refine (h1 ⟨w', hI.1⟩ fun d hd hwt => hV d (hE d hd hwt)).mono fun x w2 ⟨g1, g2⟩ => ⟨g1, ⟨hI.1.trans (g2.mono hI.1.size), fun i hi j hj hij h3 h4 => ?_⟩, fun j x' _ h => (spOf L j).st x' _ _ g2 h⟩
  have hik : i ≠ k := fun h => hk2 (h ▸ hi)
  have hjk : j ≠ k := fun h => hk2 (h ▸ hj)
  simp only [on, Bool.or_eq_true, beq_iff_eq] at h3 h4
  simp only [upd, if_neg hik, if_neg hjk]
  exact hI.2 i hi j hj hij (h3.resolve_left hik) (h4.resolve_left hjk)
/-- a box -/
theorem manyx_box {E : List Nat} {k : Nat} {o : Oper} {rest : List Oper} {a : Act} (base : Nat) (T : TypeId) (zs : Array Value) (hk : (wild.contains k && bx.contains k) = true) (hw : Region.wanted o (yielded ops a.tmps) = true)
    (hL : spOf L k = Sp.box base T zs) (hbx : ∀ j ∈ bx, ∃ base' T' zs', spOf L j = Sp.box base' T' zs') (hbase : base ≤ w.heap.size)
    (h1 : ∀ s : Later w, Gives P o a s.val fun x w' => x = .pointer (some ⟨s.val.heap.size, 0, none⟩) ∧ w' = s.val.alloc (.cells zs T))
    (h2 : ∀ a', a.put o.dst (v k) = a' → manyX P ops w L wild bx v Q (k :: E) (k + 1) rest a') : manyX P ops w L wild bx v Q E k (o :: rest) a := by
  have hk1 : k ∈ wild := by simp only [Bool.and_eq_true] at hk; simpa using hk.1
  show RE.many P ops .any _ _ wild v Q E k (o :: rest) a
  unfold RE.many
  rw [if_pos hw, if_pos hk1]
  refine ⟨fun M w' hMk _ hE hI hV => ?_, h2 _ rfl⟩
  refine (h1 ⟨w', hI.1⟩).mono fun x w2 ⟨g1, g2⟩ => ?_
  subst g1 g2
  have hal : Below w'.heap.size w' (w'.alloc (.cells zs T)) := (Below.refl _ _).alloc (Nat.le_refl _) _
  have far : ∀ j ∈ bx, M j = true → v j ≠ .pointer (some ⟨w'.heap.size, 0, none⟩) := by
    intro j hj hM he
    obtain ⟨b', T', zs', hs⟩ := hbx j hj
    have hF := hV j hM
    unfold spV at hF
    rw [hs] at hF
    obtain ⟨g, hg, _, hblk⟩ := hF
    rw [he] at hg
    simp only [Value.pointer.injEq, Option.some.injEq, Addr.mk.injEq, and_true] at hg
    have := hblk.lt
    omega
  refine ⟨?_, ⟨hI.1.trans (hal.mono hI.1.size), fun i hi j hj hij h3 h4 => ?_⟩, fun j x' _ h => (spOf L j).st x' _ _ hal h⟩
  · unfold spV
    rw [hL]
    exact ⟨w'.heap.size, rfl, Nat.le_trans hbase hI.1.size, Blk.new w' T zs⟩
  · simp only [on, Bool.or_eq_true, beq_iff_eq] at h3 h4
    simp only [upd]
    by_cases hik : i = k
    · have hjk : j ≠ k := fun h => hij (hik.trans h.symm)
      rw [if_pos hik, if_neg hjk]
      exact (far j hj (h4.resolve_left hjk)).symm
    · by_cases hjk : j = k
      · rw [if_neg hik, if_pos hjk]
        exact far i hi (h3.resolve_left hik)
      · rw [if_neg hik, if_neg hjk]
        exact hI.2 i hi j hj hij (h3.resolve_left hik) (h4.resolve_left hjk)
theorem manyx_skip {E : List Nat} {k : Nat} {o : Oper} {rest : List Oper} {a : Act} (hw : Region.wanted o (yielded ops a.tmps) = false)
    (h2 : ∀ a', a.put o.dst undef = a' → manyX P ops w L wild bx v Q E (k + 1) rest a') : manyX P ops w L wild bx v Q E k (o :: rest) a := by
  show RE.many P ops .any _ _ wild v Q E k (o :: rest) a
  unfold RE.many
  rw [if_neg (by rw [hw]; decide)]
  exact h2 _ rfl
theorem manyx_end {E : List Nat} {k : Nat} {a : Act} (h : ∀ s : Later w, (∀ d ∈ E, (spOf L d).F (v d) s.val) → (∀ i ∈ bx, ∀ j ∈ bx, i ∈ E → j ∈ E → i ≠ j → v i ≠ v j) → Q a s.val) : manyX P ops w L wild bx v Q E k [] a :=
  fun _ w' hM hI hV => h ⟨w', hI.1⟩ hV fun i hi j hj hiE hjE hij => hI.2 i hi j hj hij (hM i hiE) (hM j hjE)
theorem boxInv_cong (w : World) (bx : List Nat) : ∀ M e e' w', (∀ d, M d = true → e d = e' d) → boxInv w bx M e w' → boxInv w bx M e' w' := fun M e e' w' h hI =>
  ⟨hI.1, fun i hi j hj hij h3 h4 => by rw [← h i h3, ← h j h4]; exact hI.2 i hi j hj hij h3 h4⟩

theorem wp_boxes {id : Nat} {Q : Exit → Act → World → Prop} {a : Act} {l : List Oper} (L : List (Nat × Sp)) (wild bx : List Nat) (hmx : P.follows .mixedOrders = true) (hB : manyB .any l.toArray l.length wild = true)
    (h : ∀ v : Nat → Value, (∀ k, k ∈ wild → (spOf L k).sh (v k)) → manyX P l.toArray w L wild bx v (fun a' w' => Q .normal a' w') [] 0 l a) : (Code.region id l.toArray true).wp P Q a w :=
  RE.wp_region_many (boxInv w bx) (spV L) wild hmx hB (fun _ => ⟨(Below.refl _ _).drew, fun i _ j _ _ h => by cases h⟩) (boxInv_cong w bx) (fun k x => (spOf L k).sh x) (fun k x w h => (spOf L k).shF x w h) (fun k => (spOf L k).wit) (fun k _ => (spOf L k).shw) h
/-- the last operations in one forced order -/
theorem wp_boxes_tail {id : Nat} {Q : Exit → Act → World → Prop} {a : Act} {l : List Oper} (n : Nat) (L : List (Nat × Sp)) (wild bx : List Nat) (hmx : P.follows .mixedOrders = true) (hB : manyB .any l.toArray n wild = true)
    (hB2 : (decide (n < l.length) && Region.sinkB .any l.toArray n && Region.chainB .any l.toArray n && Region.seqB .any l.toArray (l.length - n) n ((List.range l.length).map fun i => decide (i < n)).toArray) = true)
    (h : ∀ v : Nat → Value, (∀ k, k ∈ wild → (spOf L k).sh (v k)) → manyX P l.toArray w L wild bx v (fun a' w' => wpList P l.toArray Q (l.drop n) a' w') [] 0 (l.take n) a) : (Code.region id l.toArray true).wp P Q a w :=
  RE.wp_region_many_tail n (boxInv w bx) (spV L) wild hmx hB hB2 (fun _ => ⟨(Below.refl _ _).drew, fun i _ j _ _ h => by cases h⟩) (boxInv_cong w bx) (fun k x => (spOf L k).sh x) (fun k x w h => (spOf L k).shF x w h) (fun k => (spOf L k).wit) (fun k _ => (spOf L k).shw) h
end
end Go.Proofs.YtnlhjhpikjmoaaaGreatDoor

namespace Go.Proofs.YtnlhjhpikjmoaaaGreatDoor
open Go.RowKit

/-- what an operation leaves, and what holds of it whatever becomes of block h -/
structure SpK (h : Nat) where
  sh : Value → Prop
  wit : Value
  shw : sh wit
  F : Value → World → Prop
  shF : ∀ x w, F x w → sh x
  st : ∀ x w1 w2, Kp (fun b => b ≠ h) w1 w2 → F x w1 → F x w2
def SpK.any (h : Nat) : SpK h := ⟨fun _ => True, undef, trivial, fun _ _ => True, fun _ _ _ => trivial, fun _ _ _ _ h => h⟩
def SpK.val (h : Nat) (u : Value) : SpK h := ⟨fun x => x = u, u, rfl, fun x _ => x = u, fun _ _ h => h, fun _ _ _ _ h => h⟩
/-- bytes that lie elsewhere -/
def SpK.rb (h : Nat) (ok : Nat → Prop) (l : List UInt8) : SpK h :=
  ⟨fun x => ∃ A c, x = .slice A l.length c ∧ l.length ≤ c, .slice none l.length l.length, ⟨none, l.length, rfl, Nat.le_refl _⟩, fun x w => RB (fun b => ok b ∧ b ≠ h) w x l, fun x w h => by obtain ⟨A, c, hv, hc, _⟩ := h.form; exact ⟨A, c, hv, hc⟩, fun _ _ _ hk h => h.kp (hk.mono fun _ h => h.2)⟩
def spkOf {h : Nat} : List (Nat × SpK h) → Nat → SpK h
  | [], _ => SpK.any h
  | (k, s) :: r, d => if d = k then s else spkOf r d
def spkV {h : Nat} (L : List (Nat × SpK h)) (k : Nat) (x : Value) (w : World) : Prop := (spkOf L k).F x w

/-- the worlds of such a region -/
structure LaterS (w : World) (h : Nat) (T : TypeId) (A B : Array Value) where
  val : World
  kp : Kp (fun b => b ≠ h) w val
  blk : Blk val h T A ∨ Blk val h T B
section
variable {P : Program} {ops : Array Oper} {w : World} {h : Nat} {T : TypeId} {A B : Array Value} {st : Nat} {L : List (Nat × SpK h)} {wild : List Nat} {v : Nat → Value} {Q : Act → World → Prop}
theorem LaterS.size (s : LaterS w h T A B) : w.heap.size ≤ s.val.heap.size := s.kp.size
theorem LaterS.cell {p : Addr} {u : Value} (hc : w.cell? p = some u) (hp : p.block ≠ h) (s : LaterS w h T A B) : s.val.cell? p = some u := s.kp.cell hp hc
theorem LaterS.own {i : Nat} {u : Value} (ha : A[i]? = some u) (hb : B[i]? = some u) (s : LaterS w h T A B) : s.val.cell? ⟨h, i, none⟩ = some u := by
  rcases s.blk with hk | hk
  · exact (hk.cell i).trans ha
  · exact (hk.cell i).trans hb
abbrev stInv (w : World) (h : Nat) (T : TypeId) (A B : Array Value) (st : Nat) : (Nat → Bool) → (Nat → Value) → World → Prop := fun M _ w' => Kp (fun b => b ≠ h) w w' ∧ Blk w' h T (if M st = true then B else A)
abbrev manyS (P : Program) (ops : Array Oper) (w : World) (h : Nat) (T : TypeId) (A B : Array Value) (st : Nat) (L : List (Nat × SpK h)) (wild : List Nat) (v : Nat → Value) (Q : Act → World → Prop) (E : List Nat) (k : Nat) (l : List Oper) (a : Act) : Prop :=
  RE.many P ops .any (stInv w h T A B st) (spkV L) wild v Q E k l a
theorem stInv_later {M : Nat → Bool} {e : Nat → Value} {w' : World} (hI : stInv w h T A B st M e w') : ∃ s : LaterS w h T A B, w' = s.val := by
  have h2 := hI.2
  split at h2
  · exact ⟨⟨w', hI.1, .inr h2⟩, rfl⟩
  · exact ⟨⟨w', hI.1, .inl h2⟩, rfl⟩

theorem manys_pre (n : Nat) {E : List Nat} {k : Nat} {l : List Oper} {a : Act} (hno : (List.range n).all (fun i => !wild.contains (k + i)) = true)
    (hq : wpQuiet P ops (fun w' => ∃ s : LaterS w h T A B, w' = s.val) (fun a' => manyS P ops w h T A B st L wild v Q E (k + n) (l.drop n) a') (l.take n) a) (hpl : (l.take n).all (fun o => plainOp o.op) = true) : manyS P ops w h T A B st L wild v Q E k l a := by
  induction n generalizing k l a with
  | zero => simpa [wpQuiet] using hq
  | succ n ih =>
    cases l with
    | nil => simpa [wpQuiet, RE.many] using hq
    | cons o l =>
      simp only [List.all_eq_true, List.mem_range] at hno
      have h0 : k ∉ wild := by have := hno 0 (by omega); simpa using this
      have hno' : (List.range n).all (fun i => !wild.contains (k + 1 + i)) = true := by
        simp only [List.all_eq_true, List.mem_range]
        intro i hi
        have := hno (i + 1) (by omega)
        rw [show k + 1 + i = k + (i + 1) by omega]
        exact this
      rw [List.take_succ_cons, List.all_cons, Bool.and_eq_true] at hpl
      have next : ∀ a', wpQuiet P ops (fun w' => ∃ s : LaterS w h T A B, w' = s.val) (fun a' => manyS P ops w h T A B st L wild v Q E (k + (n + 1)) ((o :: l).drop (n + 1)) a') (l.take n) a' → manyS P ops w h T A B st L wild v Q E (k + 1) l a' := fun a' h' =>
        ih hno' (by
          have e : k + 1 + n = k + (n + 1) := by omega
          rw [e]; simpa using h') hpl.2
      rw [List.take_succ_cons] at hq
      unfold wpQuiet at hq
      show RE.many P ops .any _ _ wild v Q E k (o :: l) a
      unfold RE.many
      split at hq
      · rename_i hw
        rw [if_pos hw, if_neg h0]
        obtain ⟨u, h1, h2⟩ := hq
        refine ⟨u, fun w' hw' => ?_, next _ h2⟩
        obtain ⟨M, e0, hM⟩ := hw'
        have h3 := h1 w' (stInv_later hM)
        have hno2 := plain_no (P := P) hpl.1 a.eval w'
        unfold Oper.quietAt at h3 ⊢
        generalize (execOp a.eval o).run P w' = r at *
        cases r with
        | ok n' w2 =>
          cases n' <;> simp only [Oper.quietUpon] at h3 ⊢ <;> try exact h3
          case enter f args => exact absurd rfl (hno2 w2 f args)
        | halt x w2 => simp only [Oper.quietUpon] at h3
      · rename_i hw
        rw [if_neg hw]
        exact next _ hq

/-- an operation that makes memory, by its specification -/
theorem manys_wild {E : List Nat} {k : Nat} {o : Oper} {rest : List Oper} {a : Act} (hk : (wild.contains k && decide (k ≠ st)) = true) (hw : Region.wanted o (yielded ops a.tmps) = true) (hlt : h < w.heap.size)
    (h1 : ∀ s : LaterS w h T A B, (∀ d ∈ E, waitsB .any ops ops.size k d = true → (spkOf L d).F (v d) s.val) → Gives P o a s.val fun x w' => (spkOf L k).F x w' ∧ Below s.val.heap.size s.val w')
    (h2 : ∀ a', a.put o.dst (v k) = a' → manyS P ops w h T A B st L wild v Q (k :: E) (k + 1) rest a') : manyS P ops w h T A B st L wild v Q E k (o :: rest) a := by
  simp only [Bool.and_eq_true, decide_eq_true_eq] at hk
  have hk1 : k ∈ wild := by simpa using hk.1
  show RE.many P ops .any _ _ wild v Q E k (o :: rest) a
  unfold RE.many
  rw [if_pos hw, if_pos hk1]
  refine ⟨fun M w' hMk _ hE hI hV => ?_, h2 _ rfl⟩
  obtain ⟨s, rfl⟩ := stInv_later hI
  refine (h1 s fun d hd hwt => hV d (hE d hd hwt)).mono fun x w2 ⟨g1, g2⟩ => ?_
  have hkp : Kp (fun b => b ≠ h) s.val w2 := (Kp.of_below g2).mono fun _ _ => trivial
  refine ⟨g1, ⟨hI.1.trans hkp, ?_⟩, fun j x' _ hx => (spkOf L j).st x' _ _ hkp hx⟩
  have hon : on M k st = M st := by simp [on, hk.2.symm]
  rw [hon]
  exact hI.2.below g2 (Nat.lt_of_lt_of_le hlt s.size)
/-- the store -/
theorem manys_store {E : List Nat} {o : Oper} {rest : List Oper} {a : Act} (off : Nat) (u : Value) (hk : wild.contains st = true) (hw : Region.wanted o (yielded ops a.tmps) = true) (hL : spkOf L st = SpK.any h) (hB : A.setIfInBounds off u = B)
    (h1 : ∀ s : LaterS w h T A B, Blk s.val h T A → (∀ d ∈ E, waitsB .any ops ops.size st d = true → (spkOf L d).F (v d) s.val) → Gives P o a s.val fun _ w' => w' = s.val.setCell ⟨h, off, none⟩ u)
    (h2 : ∀ a', a.put o.dst (v st) = a' → manyS P ops w h T A B st L wild v Q (st :: E) (st + 1) rest a') : manyS P ops w h T A B st L wild v Q E st (o :: rest) a := by
  have hk1 : st ∈ wild := by simpa using hk
  show RE.many P ops .any _ _ wild v Q E st (o :: rest) a
  unfold RE.many
  rw [if_pos hw, if_pos hk1]
  refine ⟨fun M w' hMk _ hE hI hV => ?_, h2 _ rfl⟩
  obtain ⟨s, rfl⟩ := stInv_later hI
  have hA : Blk s.val h T A := by have := hI.2; rwa [hMk, if_neg (by simp)] at this
  refine (h1 s hA fun d hd hwt => hV d (hE d hd hwt)).mono fun x w2 g1 => ?_
  subst g1
  have hkp : Kp (fun b => b ≠ h) s.val (s.val.setCell ⟨h, off, none⟩ u) := (Kp.refl _ _).setCell (fun _ hh => hh rfl) _
  refine ⟨?_, ⟨hI.1.trans hkp, ?_⟩, fun j x' _ hx => (spkOf L j).st x' _ _ hkp hx⟩
  · unfold spkV
    rw [hL]
    trivial
  · rw [if_pos (by simp [on])]
    have h5 := hA.set_ off u
    rwa [hB] at h5
theorem manys_skip {E : List Nat} {k : Nat} {o : Oper} {rest : List Oper} {a : Act} (hw : Region.wanted o (yielded ops a.tmps) = false)
    (h2 : ∀ a', a.put o.dst undef = a' → manyS P ops w h T A B st L wild v Q E (k + 1) rest a') : manyS P ops w h T A B st L wild v Q E k (o :: rest) a := by
  show RE.many P ops .any _ _ wild v Q E k (o :: rest) a
  unfold RE.many
  rw [if_neg (by rw [hw]; decide)]
  exact h2 _ rfl
theorem manys_end {E : List Nat} {k : Nat} {a : Act} (hst : st ∈ E) (h1 : ∀ w', Kp (fun b => b ≠ h) w w' → Blk w' h T B → (∀ d ∈ E, (spkOf L d).F (v d) w') → Q a w') : manyS P ops w h T A B st L wild v Q E k [] a :=
  fun M w' hM hI hV => h1 w' hI.1 (by have := hI.2; rwa [if_pos (hM st hst)] at this) hV
theorem stInv_cong (w : World) (h : Nat) (T : TypeId) (A B : Array Value) (st : Nat) : ∀ M e e' w', (∀ d, M d = true → e d = e' d) → stInv w h T A B st M e w' → stInv w h T A B st M e' w' := fun _ _ _ _ _ hI => hI
theorem wp_store_many_tail {id : Nat} {Q : Exit → Act → World → Prop} {a : Act} {l : List Oper} (n : Nat) (h : Nat) (T : TypeId) (A B : Array Value) (st : Nat) (L : List (Nat × SpK h)) (wild : List Nat) (hmx : P.follows .mixedOrders = true) (hB : manyB .any l.toArray n wild = true)
    (hB2 : (decide (n < l.length) && Region.sinkB .any l.toArray n && Region.chainB .any l.toArray n && Region.seqB .any l.toArray (l.length - n) n ((List.range l.length).map fun i => decide (i < n)).toArray) = true) (hA : Blk w h T A)
    (hh : ∀ v : Nat → Value, (∀ k, k ∈ wild → (spkOf L k).sh (v k)) → manyS P l.toArray w h T A B st L wild v (fun a' w' => wpList P l.toArray Q (l.drop n) a' w') [] 0 (l.take n) a) : (Code.region id l.toArray true).wp P Q a w :=
  RE.wp_region_many_tail n (stInv w h T A B st) (spkV L) wild hmx hB hB2 (fun _ => ⟨(Kp.refl _ _).drew, by simpa using hA.drew⟩) (stInv_cong w h T A B st) (fun k x => (spkOf L k).sh x) (fun k x w h => (spkOf L k).shF x w h) (fun k => (spkOf L k).wit) (fun k _ => (spkOf L k).shw) hh
end
end Go.Proofs.YtnlhjhpikjmoaaaGreatDoor

namespace Go.Proofs.YtnlhjhpikjmoaaaGreatDoor
open Go.RowKit

structure SpB (bad : Nat → Prop) where
  sh : Value → Prop
  wit : Value
  shw : sh wit
  F : Value → World → Prop
  shF : ∀ x w, F x w → sh x
  st : ∀ x w1 w2, Kp (fun b => ¬ bad b) w1 w2 → F x w1 → F x w2
def SpB.any (bad : Nat → Prop) : SpB bad := ⟨fun _ => True, undef, trivial, fun _ _ => True, fun _ _ _ => trivial, fun _ _ _ _ h => h⟩
def SpB.val (bad : Nat → Prop) (u : Value) : SpB bad := ⟨fun x => x = u, u, rfl, fun x _ => x = u, fun _ _ h => h, fun _ _ _ _ h => h⟩
/-- a slice of so many -/
def SpB.len (bad : Nat → Prop) (n : Nat) : SpB bad := ⟨fun x => ∃ A c, x = .slice A n c, .slice none n n, ⟨none, n, rfl⟩, fun x _ => ∃ A c, x = .slice A n c, fun _ _ h => h, fun _ _ _ _ h => h⟩
def SpB.rsl {α : Type} (bad : Nat → Prop) (E : Rel α) (ok : Nat → Prop) (hok : ∀ b, ok b → ¬ bad b) (l : List α) : SpB bad :=
  ⟨fun x => ∃ A c, x = .slice A l.length c ∧ l.length ≤ c, .slice none l.length l.length, ⟨none, l.length, rfl, Nat.le_refl _⟩, fun x w => RSl E ok w x l, fun x w h => by obtain ⟨A, c, hv, hc, _⟩ := h.form; exact ⟨A, c, hv, hc⟩, fun _ _ _ hk h => h.kp (hk.mono hok)⟩
def SpB.pairN (bad : Nat → Prop) (ok : Nat → Prop) (hok : ∀ b, ok b → ¬ bad b) (k v : List UInt8) (n : Int) : SpB bad :=
  ⟨fun x => ∃ A c A2 c2, x = .agg #[.slice A k.length c, .slice A2 v.length c2, .int .i64 n], .agg #[.slice none k.length 0, .slice none v.length 0, .int .i64 n], ⟨none, 0, none, 0, rfl⟩,
    fun x w => ∃ A c A2 c2, x = .agg #[.slice A k.length c, .slice A2 v.length c2, .int .i64 n] ∧ RB ok w (.slice A k.length c) k ∧ RB ok w (.slice A2 v.length c2) v,
    fun _ _ ⟨A, c, A2, c2, h, _⟩ => ⟨A, c, A2, c2, h⟩, fun _ _ _ hk ⟨A, c, A2, c2, h, h1, h2⟩ => ⟨A, c, A2, c2, h, h1.kp (hk.mono hok), h2.kp (hk.mono hok)⟩⟩
def spbOf {bad : Nat → Prop} : List (Nat × SpB bad) → Nat → SpB bad
  | [], _ => SpB.any bad
  | (k, s) :: r, d => if d = k then s else spbOf r d
def spbV {bad : Nat → Prop} (L : List (Nat × SpB bad)) (k : Nat) (x : Value) (w : World) : Prop := (spbOf L k).F x w
structure LaterB (w : World) (bad : Nat → Prop) where
  val : World
  kp : Kp (fun b => ¬ bad b) w val
instance laterB_nonempty (w : World) (bad : Nat → Prop) : Nonempty (LaterB w bad) := ⟨⟨w, Kp.refl _ _⟩⟩
theorem LaterB.cell {w : World} {bad : Nat → Prop} {p : Addr} {u : Value} (hc : w.cell? p = some u) (hp : ¬ bad p.block) (s : LaterB w bad) : s.val.cell? p = some u := s.kp.cell hp hc
section
variable {P : Program} {ops : Array Oper} {w : World} {bad : Nat → Prop} {G : Value → World → Prop} {st : Nat} {L : List (Nat × SpB bad)} {wild : List Nat} {v : Nat → Value} {Q : Act → World → Prop}
abbrev apInv (w : World) (bad : Nat → Prop) (G : Value → World → Prop) (st : Nat) : (Nat → Bool) → (Nat → Value) → World → Prop := fun M e w' => Kp (fun b => ¬ bad b) w w' ∧ (M st = true → G (e st) w') ∧ (M st = false → Below w.heap.size w w')
abbrev manyA (P : Program) (ops : Array Oper) (w : World) (bad : Nat → Prop) (G : Value → World → Prop) (st : Nat) (L : List (Nat × SpB bad)) (wild : List Nat) (v : Nat → Value) (Q : Act → World → Prop) (E : List Nat) (k : Nat) (l : List Oper) (a : Act) : Prop :=
  RE.many P ops .any (apInv w bad G st) (spbV L) wild v Q E k l a
theorem manya_pre (n : Nat) {E : List Nat} {k : Nat} {l : List Oper} {a : Act} (hno : (List.range n).all (fun i => !wild.contains (k + i)) = true)
    (hq : wpQuiet P ops (fun w' => ∃ s : LaterB w bad, w' = s.val) (fun a' => manyA P ops w bad G st L wild v Q E (k + n) (l.drop n) a') (l.take n) a) (hpl : (l.take n).all (fun o => plainOp o.op) = true) : manyA P ops w bad G st L wild v Q E k l a := by
  induction n generalizing k l a with
  | zero => simpa [wpQuiet] using hq
  | succ n ih =>
    cases l with
    | nil => simpa [wpQuiet, RE.many] using hq
    | cons o l =>
      simp only [List.all_eq_true, List.mem_range] at hno
      have h0 : k ∉ wild := by have := hno 0 (by omega); simpa using this
      have hno' : (List.range n).all (fun i => !wild.contains (k + 1 + i)) = true := by
        simp only [List.all_eq_true, List.mem_range]
        intro i hi
        have := hno (i + 1) (by omega)
        rw [show k + 1 + i = k + (i + 1) by omega]
        exact this
      rw [List.take_succ_cons, List.all_cons, Bool.and_eq_true] at hpl
      have next : ∀ a', wpQuiet P ops (fun w' => ∃ s : LaterB w bad, w' = s.val) (fun a' => manyA P ops w bad G st L wild v Q E (k + (n + 1)) ((o :: l).drop (n + 1)) a') (l.take n) a' → manyA P ops w bad G st L wild v Q E (k + 1) l a' := fun a' h' =>
        ih hno' (by
          have e : k + 1 + n = k + (n + 1) := by omega
          rw [e]; simpa using h') hpl.2
      rw [List.take_succ_cons] at hq
      unfold wpQuiet at hq
      show RE.many P ops .any _ _ wild v Q E k (o :: l) a
      unfold RE.many
      split at hq
      · rename_i hw
        rw [if_pos hw, if_neg h0]
        obtain ⟨u, h1, h2⟩ := hq
        refine ⟨u, fun w' hw' => ?_, next _ h2⟩
        obtain ⟨M, e0, hM⟩ := hw'
        have h3 := h1 w' ⟨⟨w', hM.1⟩, rfl⟩
        have hno2 := plain_no (P := P) hpl.1 a.eval w'
        unfold Oper.quietAt at h3 ⊢
        generalize (execOp a.eval o).run P w' = r at *
        cases r with
        | ok n' w2 =>
          cases n' <;> simp only [Oper.quietUpon] at h3 ⊢ <;> try exact h3
          case enter f args => exact absurd rfl (hno2 w2 f args)
        | halt x w2 => simp only [Oper.quietUpon] at h3
      · rename_i hw
        rw [if_neg hw]
        exact next _ hq
/-- an operation for which the append waits -/
theorem manya_wild {E : List Nat} {k : Nat} {o : Oper} {rest : List Oper} {a : Act} (hk : (wild.contains k && decide (k ≠ st)) = true) (hwt : waitsB .any ops ops.size st k = true) (hw : Region.wanted o (yielded ops a.tmps) = true)
    (h1 : ∀ s : Later w, (∀ d ∈ E, waitsB .any ops ops.size k d = true → (spbOf L d).F (v d) s.val) → Gives P o a s.val fun x w' => (spbOf L k).F x w' ∧ Below s.val.heap.size s.val w')
    (h2 : ∀ a', a.put o.dst (v k) = a' → manyA P ops w bad G st L wild v Q (k :: E) (k + 1) rest a') : manyA P ops w bad G st L wild v Q E k (o :: rest) a := by
  simp only [Bool.and_eq_true, decide_eq_true_eq] at hk
  have hk1 : k ∈ wild := by simpa using hk.1
  show RE.many P ops .any _ _ wild v Q E k (o :: rest) a
  unfold RE.many
  rw [if_pos hw, if_pos hk1]
  refine ⟨fun M w' hMk hlate hE hI hV => ?_, h2 _ rfl⟩
  have hst := hlate st hwt
  have hb := hI.2.2 hst
  refine (h1 ⟨w', hb⟩ fun d hd hwt => hV d (hE d hd hwt)).mono fun x w2 ⟨g1, g2⟩ => ?_
  have hkp : Kp (fun b => ¬ bad b) w' w2 := (Kp.of_below g2).mono fun _ _ => trivial
  have hon : on M k st = false := by simp [on, hk.2.symm, hst]
  exact ⟨g1, ⟨hI.1.trans hkp, (fun h => by rw [hon] at h; cases h), fun _ => hb.trans (g2.mono hb.size)⟩, fun j x' _ hx => (spbOf L j).st x' _ _ hkp hx⟩
/-- the append -/
theorem manya_st {E : List Nat} {o : Oper} {rest : List Oper} {a : Act} (hk : wild.contains st = true) (hw : Region.wanted o (yielded ops a.tmps) = true)
    (h1 : ∀ s : Later w, (∀ d ∈ E, waitsB .any ops ops.size st d = true → (spbOf L d).F (v d) s.val) → Gives P o a s.val fun x w' => (spbOf L st).F x w' ∧ G x w' ∧ Kp (fun b => ¬ bad b) s.val w')
    (h2 : ∀ a', a.put o.dst (v st) = a' → manyA P ops w bad G st L wild v Q (st :: E) (st + 1) rest a') : manyA P ops w bad G st L wild v Q E st (o :: rest) a := by
  have hk1 : st ∈ wild := by simpa using hk
  show RE.many P ops .any _ _ wild v Q E st (o :: rest) a
  unfold RE.many
  rw [if_pos hw, if_pos hk1]
  refine ⟨fun M w' hMk _ hE hI hV => ?_, h2 _ rfl⟩
  have hb := hI.2.2 hMk
  refine (h1 ⟨w', hb⟩ fun d hd hwt => hV d (hE d hd hwt)).mono fun x w2 ⟨g1, g2, g3⟩ => ?_
  exact ⟨g1, ⟨hI.1.trans g3, fun _ => by simpa [upd] using g2, fun h => by simp [on] at h⟩, fun j x' _ hx => (spbOf L j).st x' _ _ g3 hx⟩
theorem manya_end {E : List Nat} {k : Nat} {a : Act} (hst : st ∈ E) (h1 : ∀ w', Kp (fun b => ¬ bad b) w w' → G (v st) w' → Q a w') : manyA P ops w bad G st L wild v Q E k [] a :=
  fun M w' hM hI _ => h1 w' hI.1 (hI.2.1 (hM st hst))
theorem apInv_cong (w : World) (bad : Nat → Prop) (G : Value → World → Prop) (st : Nat) : ∀ M e e' w', (∀ d, M d = true → e d = e' d) → apInv w bad G st M e w' → apInv w bad G st M e' w' := fun M e e' w' h hI =>
  ⟨hI.1, fun hm => by rw [← h st hm]; exact hI.2.1 hm, hI.2.2⟩
theorem wp_app_many_tail {id : Nat} {Q : Exit → Act → World → Prop} {a : Act} {l : List Oper} (n : Nat) (bad : Nat → Prop) (G : Value → World → Prop) (st : Nat) (L : List (Nat × SpB bad)) (wild : List Nat) (hmx : P.follows .mixedOrders = true) (hB : manyB .any l.toArray n wild = true)
    (hB2 : (decide (n < l.length) && Region.sinkB .any l.toArray n && Region.chainB .any l.toArray n && Region.seqB .any l.toArray (l.length - n) n ((List.range l.length).map fun i => decide (i < n)).toArray) = true)
    (hh : ∀ v : Nat → Value, (∀ k, k ∈ wild → (spbOf L k).sh (v k)) → manyA P l.toArray w bad G st L wild v (fun a' w' => wpList P l.toArray Q (l.drop n) a' w') [] 0 (l.take n) a) : (Code.region id l.toArray true).wp P Q a w :=
  RE.wp_region_many_tail n (apInv w bad G st) (spbV L) wild hmx hB hB2 (fun _ => ⟨(Kp.refl _ _).drew, (fun h => by cases h), fun _ => (Below.refl _ _).drew⟩) (apInv_cong w bad G st) (fun k x => (spbOf L k).sh x) (fun k x w h => (spbOf L k).shF x w h) (fun k => (spbOf L k).wit) (fun k _ => (spbOf L k).shw) hh
end
/-- an append onto a list of one's own, by value -/
theorem gives_app0 {α : Type} {E : Rel α} {okd : Nat → Prop} {base : Nat} {P : Program} {tS tE : TypeId} (hT : RowTy P tS tE E.sz E.wt) (hsz : 0 < E.sz) {o : Oper} {a : Act} {Φ : Value → World → Prop} (s x : Operand)
    (ho : o.op = .call { callee := .builtin .append, args := #[s, x], argTypes := #[tS, tS] })
    (v : Value) (l : List α) (w : World) (hs : a.eval s = v) (hown : OwnL E okd base tE w v l)
    (A : Option Addr) (c : Nat) (l2 : List α) (css : List (List Value)) (hx : a.eval x = .slice A l2.length c) (hr : Rd w E.sz A l2.length css.flatten) (hch : Chunks E (fun b => okd b ∧ some b ≠ v.ownBlock) w css l2)
    (hlen : (l.length + l2.length) * E.wt ≤ 140737488355328) (hlen2 : l.length + l2.length ≤ 140737488355328) (hbase : base ≤ w.heap.size)
    (h : ∀ v' w', OwnL E okd base tE w' v' (l ++ l2) → Kp (fun b => some b ≠ v.ownBlock) w w' → Φ v' w') : Gives P o a w Φ := by
  obtain ⟨i, z, hi, hz, h1, h2, h3⟩ := hT.info
  obtain ⟨cso, hrow, hcho⟩ := hown
  have key : ∃ v' w', (Builtin.append_ #[tS, tS] o.type #[v, .slice A l2.length c]).run P w = .ok v' w' ∧ w'.ownsRow base tE E.sz v' (l.length + l2.length) (cso.flatten ++ css.flatten) ∧ w.grownBy w' v.ownBlock ∧ (v'.ownBlock = v.ownBlock ∨ v'.ownBlock = some w.heap.size) := by
    rcases A with _ | ad
    · have hm : l2.length = 0 := by
        rcases Nat.eq_zero_or_pos l2.length with h0 | h0
        · exact h0
        · obtain ⟨_, _, h, _⟩ := hr.2 h0
          cases h
      have hn : css.flatten = [] := List.eq_nil_of_length_eq_zero (by rw [hch.flat, hm]; simp)
      rw [hm, hn]
      exact ⟨v, w, run_append_nil_src w base tS o.type tE i E.sz hT.ht hi v _ _ hrow c, by simpa using hrow, World.grownBy.refl _ _, .inl rfl⟩
    · have hcells : ∀ j u, css.flatten[j]? = some u → w.cell? (ad.add j) = some u := by
        intro j u hu
        rcases Nat.eq_zero_or_pos l2.length with h0 | h0
        · have hn : css.flatten = [] := List.eq_nil_of_length_eq_zero (by rw [hch.flat, h0]; simp)
          rw [hn] at hu
          simp at hu
        · obtain ⟨b, off, h, hc⟩ := hr.2 h0
          injection h with h
          subst h
          rw [Addr.add_lit]
          exact hc j u hu
      obtain ⟨v', w', hrun, h4, h5, _, h6⟩ := run_append_own_at (P := P) w base tS o.type tE i z E.sz E.wt hT.ht hi hz h1 h2 h3 hsz v _ _ hrow ad l2.length c css.flatten hch.flat hcells hch.one (by unfold maxLen; omega) hlen hbase
      exact ⟨v', w', hrun, h4, h5, h6⟩
  obtain ⟨v', w', hrun, h4, h5, h6⟩ := key
  unfold Gives execOp
  simp only [ho, resolve, invoke, builtin, Sem.run_bind, Sem.run_pure, Result.andThen_ok, List.map_toArray, List.map_cons, List.map_nil, hs, hx, hrun, giv]
  refine h v' w' ⟨cso ++ css, ?_, ?_⟩ (.of_grown h5 fun _ h => h)
  · rw [List.length_append, List.flatten_append]; exact h4
  · have hk : Kp (fun b => okd b ∧ some b ≠ v.ownBlock) w w' := .of_grown h5 fun _ h => h.2
    refine ((hcho.mono (ok' := fun b => (okd b ∧ some b ≠ v.ownBlock) ∧ b < w.heap.size) fun b hb hlt => ⟨hb, hlt⟩).append (hch.mono (ok' := fun b => (okd b ∧ some b ≠ v.ownBlock) ∧ b < w.heap.size) fun b hb hlt => ⟨hb, hlt⟩)).kp (hk.mono fun b hb => hb.1) |>.mono fun b hb _ => ⟨hb.1.1, ?_⟩
    rcases h6 with h6 | h6
    · rw [h6]; exact hb.1.2
    · rw [h6]
      intro e
      have := Option.some.inj e
      omega
theorem gives_app {α : Type} {E : Rel α} {okd : Nat → Prop} {base : Nat} {P : Program} {tS tE : TypeId} (hT : RowTy P tS tE E.sz E.wt) (hsz : 0 < E.sz) {o : Oper} {a : Act} {Φ : Value → World → Prop} (s x : Operand)
    (ho : o.op = .call { callee := .builtin .append, args := #[s, x], argTypes := #[tS, tS] })
    (v : Value) (l : List α) (w : World) (hs : a.eval s = v) (hown : OwnL E okd base tE w v l)
    (vx : Value) (l2 : List α) (hx : a.eval x = vx) (hr : RSl E (fun b => okd b ∧ some b ≠ v.ownBlock) w vx l2)
    (hlen : (l.length + l2.length) * E.wt ≤ 140737488355328) (hlen2 : l.length + l2.length ≤ 140737488355328) (hbase : base ≤ w.heap.size)
    (h : ∀ v' w', OwnL E okd base tE w' v' (l ++ l2) → Kp (fun b => some b ≠ v.ownBlock) w w' → Φ v' w') : Gives P o a w Φ := by
  obtain ⟨A, n, c, css, rfl, _, hn, _, hrd, hch, _⟩ := hr
  subst hn
  exact gives_app0 hT hsz s x ho v l w hs hown A c l2 css hx hrd hch hlen hlen2 hbase h
end Go.Proofs.YtnlhjhpikjmoaaaGreatDoor

namespace Go.Proofs.YtnlhjhpikjmoaaaGreatDoor
open Go.RowKit

structure LaterT (w : World) (okI : Nat → Prop) where
  val : World
  kp : Kp okI w val
instance {w : World} {okI : Nat → Prop} : Nonempty (LaterT w okI) := ⟨⟨w, Kp.refl _ _⟩⟩
section
variable {P : Program} {ops : Array Oper} {w : World} {okI : Nat → Prop} {c1 c2 : Nat} {F1 F2 : Bool → World → Prop} {vals : Nat → Value} {wild : List Nat} {v : Nat → Value} {Q : Act → World → Prop}
abbrev twoInv (w : World) (okI : Nat → Prop) (c1 c2 : Nat) (F1 F2 : Bool → World → Prop) : (Nat → Bool) → (Nat → Value) → World → Prop := fun M _ w' => Kp okI w w' ∧ F1 (M c1) w' ∧ F2 (M c2) w'
abbrev manyT (P : Program) (ops : Array Oper) (w : World) (okI : Nat → Prop) (c1 c2 : Nat) (F1 F2 : Bool → World → Prop) (vals : Nat → Value) (wild : List Nat) (v : Nat → Value) (Q : Act → World → Prop) (E : List Nat) (k : Nat) (l : List Oper) (a : Act) : Prop :=
  RE.many P ops .any (twoInv w okI c1 c2 F1 F2) (fun k x _ => x = vals k) wild v Q E k l a

theorem manyt_pre (n : Nat) {E : List Nat} {k : Nat} {l : List Oper} {a : Act} (hno : (List.range n).all (fun i => !wild.contains (k + i)) = true)
    (hq : wpQuiet P ops (fun w' => ∃ s : LaterT w okI, w' = s.val) (fun a' => manyT P ops w okI c1 c2 F1 F2 vals wild v Q E (k + n) (l.drop n) a') (l.take n) a) (hpl : (l.take n).all (fun o => plainOp o.op) = true) : manyT P ops w okI c1 c2 F1 F2 vals wild v Q E k l a := by
  induction n generalizing k l a with
  | zero => simpa [wpQuiet] using hq
  | succ n ih =>
    cases l with
    | nil => simpa [wpQuiet, RE.many] using hq
    | cons o l =>
      simp only [List.all_eq_true, List.mem_range] at hno
      have h0 : k ∉ wild := by have := hno 0 (by omega); simpa using this
      have hno' : (List.range n).all (fun i => !wild.contains (k + 1 + i)) = true := by
        simp only [List.all_eq_true, List.mem_range]
        intro i hi
        have := hno (i + 1) (by omega)
        rw [show k + 1 + i = k + (i + 1) by omega]
        exact this
      rw [List.take_succ_cons, List.all_cons, Bool.and_eq_true] at hpl
      have next : ∀ a', wpQuiet P ops (fun w' => ∃ s : LaterT w okI, w' = s.val) (fun a' => manyT P ops w okI c1 c2 F1 F2 vals wild v Q E (k + (n + 1)) ((o :: l).drop (n + 1)) a') (l.take n) a' → manyT P ops w okI c1 c2 F1 F2 vals wild v Q E (k + 1) l a' := fun a' h' =>
        ih hno' (by
          have e : k + 1 + n = k + (n + 1) := by omega
          rw [e]; simpa using h') hpl.2
      rw [List.take_succ_cons] at hq
      unfold wpQuiet at hq
      show RE.many P ops .any _ _ wild v Q E k (o :: l) a
      unfold RE.many
      split at hq
      · rename_i hw
        rw [if_pos hw, if_neg h0]
        obtain ⟨u, h1, h2⟩ := hq
        refine ⟨u, fun w' hw' => ?_, next _ h2⟩
        obtain ⟨M, e0, hM⟩ := hw'
        have h3 := h1 w' ⟨⟨w', hM.1⟩, rfl⟩
        have hno2 := plain_no (P := P) hpl.1 a.eval w'
        unfold Oper.quietAt at h3 ⊢
        generalize (execOp a.eval o).run P w' = r at *
        cases r with
        | ok n' w2 =>
          cases n' <;> simp only [Oper.quietUpon] at h3 ⊢ <;> try exact h3
          case enter f args => exact absurd rfl (hno2 w2 f args)
        | halt x w2 => simp only [Oper.quietUpon] at h3
      · rename_i hw
        rw [if_neg hw]
        exact next _ hq
theorem manyt_wild {E : List Nat} {k : Nat} {o : Oper} {rest : List Oper} {a : Act} (hk : wild.contains k = true) (hw : Region.wanted o (yielded ops a.tmps) = true)
    (h1 : ∀ (s : LaterT w okI) (b1 b2 : Bool), (k = c1 → b1 = false) → (k = c2 → b2 = false) → F1 b1 s.val → F2 b2 s.val → Gives P o a s.val fun x w' => x = vals k ∧ Kp okI s.val w' ∧ F1 (b1 || decide (k = c1)) w' ∧ F2 (b2 || decide (k = c2)) w')
    (h2 : ∀ a', a.put o.dst (v k) = a' → manyT P ops w okI c1 c2 F1 F2 vals wild v Q (k :: E) (k + 1) rest a') : manyT P ops w okI c1 c2 F1 F2 vals wild v Q E k (o :: rest) a := by
  have hk1 : k ∈ wild := by simpa using hk
  show RE.many P ops .any _ _ wild v Q E k (o :: rest) a
  unfold RE.many
  rw [if_pos hw, if_pos hk1]
  refine ⟨fun M w' hMk _ hE hI hV => ?_, h2 _ rfl⟩
  obtain ⟨hI1, hI2, hI3⟩ := hI
  have key : ∀ c, on M k c = (M c || decide (k = c)) := fun c => by
    unfold on
    by_cases h : k = c
    · subst h; simp
    · have : (c == k) = false := by simpa using fun e : c = k => h e.symm
      simp [h, this]
  refine (h1 ⟨w', hI1⟩ (M c1) (M c2) (fun h => h ▸ hMk) (fun h => h ▸ hMk) hI2 hI3).mono fun x w2 ⟨g1, g2, g3, g4⟩ => ⟨g1, ⟨hI1.trans g2, ?_, ?_⟩, fun j x' _ h => h⟩
  · rw [key]; exact g3
  · rw [key]; exact g4
theorem manyt_end {E : List Nat} {k : Nat} {a : Act} (he : (E.contains c1 && E.contains c2) = true) (h : ∀ w', Kp okI w w' → F1 true w' → F2 true w' → Q a w') : manyT P ops w okI c1 c2 F1 F2 vals wild v Q E k [] a := by
  simp only [Bool.and_eq_true] at he
  intro M w' hM hI hV
  refine h w' hI.1 ?_ ?_
  · have := hI.2.1; rwa [hM c1 (by simpa using he.1)] at this
  · have := hI.2.2; rwa [hM c2 (by simpa using he.2)] at this
theorem wp_two {id : Nat} {Q : Exit → Act → World → Prop} {a : Act} {l : List Oper} (okI : Nat → Prop) (c1 c2 : Nat) (F1 F2 : Bool → World → Prop) (vals : Nat → Value) (wild : List Nat) (hmx : P.follows .mixedOrders = true) (hB : manyB .any l.toArray l.length wild = true) (h1 : F1 false w.drew) (h2 : F2 false w.drew)
    (h : manyT P l.toArray w okI c1 c2 F1 F2 vals wild vals (fun a' w' => Q .normal a' w') [] 0 l a) : (Code.region id l.toArray true).wp P Q a w :=
  RE.wp_region_many (twoInv w okI c1 c2 F1 F2) (fun k x _ => x = vals k) wild hmx hB (fun _ => ⟨(Kp.refl _ _).drew, h1, h2⟩) (fun _ _ _ _ _ hI => hI) (fun k x => x = vals k) (fun _ _ _ h => h) vals (fun _ _ => rfl) fun v hv => by
    have key : ∀ (l' : List Oper) (E : List Nat) (k : Nat) (a : Act), manyT P l.toArray w okI c1 c2 F1 F2 vals wild vals (fun a' w' => Q .normal a' w') E k l' a → manyT P l.toArray w okI c1 c2 F1 F2 vals wild v (fun a' w' => Q .normal a' w') E k l' a := by
      intro l'
      induction l' with
      | nil => exact fun E k a h M w' hM hI hV => h M w' hM hI (fun d hd => rfl)
      | cons o r ih =>
        intro E k a h
        unfold manyT RE.many at h ⊢
        split at h
        · rename_i hw
          rw [if_pos hw]
          split at h
          · rename_i hkw
            rw [if_pos hkw, hv k hkw]
            refine ⟨fun M w' g1 g2 g3 g4 g5 => ?_, ih _ _ _ h.2⟩
            exact (h.1 M w' g1 g2 g3 g4 fun d hd => rfl)
          · rename_i hkw
            rw [if_neg hkw]
            obtain ⟨u, e1, e2⟩ := h
            exact ⟨u, e1, ih _ _ _ e2⟩
        · rename_i hw
          rw [if_neg hw]
          exact ih _ _ _ h
    exact key l [] 0 a h
end
end Go.Proofs.YtnlhjhpikjmoaaaGreatDoor
