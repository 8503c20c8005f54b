/- A region that draws its order: first operations that are quiet in a class of worlds, in whatever order, then a tail in one forced order: walked once.
A region that draws its order, some of whose operations make memory or store: walked once, in the text's order; what such an operation leaves is said ahead. No program in sight.
Drawn regions walked once: the words for a walk. What an operation leaves is said by a specification of its own. No program in sight. -/
import Derived.Test.YtnlhjhpikjmoaaaGreatDoorMem
import Derived.StillTail
import Derived.Test.YtnlhjhpikjmoaaaGreatDoorDat
namespace Go.Proofs.YtnlhjhpikjmoaaaGreatDoor
open Go.RowKit

section
variable {P : Program} {ops : Array Oper} {md : Region.Mode} {C : World → Prop}

/-- The head in whatever order; L behind it. -/
def headQ (P : Program) (md : Region.Mode) (ops : Array Oper) (C : World → Prop) (n : Nat) (L : Array Bool → Act → Prop) : Nat → Array Bool → Act → Prop
  | 0, listed, a => L listed a
  | f + 1, listed, a => Region.ready md ops listed ≠ [] ∧ ∀ i ∈ Region.ready md ops listed, i < n ∧ qOp P ops C i (headQ P md ops C n L f (listed.setIfInBounds i true)) a

theorem any_of_headQ {n g : Nat} {L : Array Bool → Act → Prop} {Q' : Exit → Act → World → Prop} (hL : ∀ listed a w, C w → L listed a → wpAny P md ops Q' g listed a w) :
    ∀ (f : Nat) (listed : Array Bool) (a : Act) (w : World), C w → headQ P md ops C n L f listed a → wpAny P md ops Q' (f + g) listed a w
  | 0, listed, a, w, hw, h => by rw [Nat.zero_add]; exact hL _ _ w hw h
  | f + 1, listed, a, w, hw, h => by
    rw [show f + 1 + g = (f + g) + 1 by omega]
    exact ⟨fun h0 => absurd h0 h.1, fun i hi => wpOp_of_qOp hw (fun a' w' hw' h' => any_of_headQ hL f _ a' w' hw' h') (h.2 i hi).2⟩

theorem headQ_first {n i : Nat} {oi : Oper} {v : Value} {L : Array Bool → Act → Prop} (hi : ops[i]? = some oi) (hsel : ∀ (j : Nat) (o : Oper) cs b, ops[j]? = some o → o.op ≠ .select cs b)
    (hs : Region.sinkB md ops n = true) (hc : Region.chainB md ops n = true) (hn : n < ops.size) (hin : i < n) (hdone : ∀ listed a, L listed a → ∀ j ∈ Region.ready md ops listed, n ≤ j) :
    ∀ (f : Nat) (listed : Array Bool) (a : Act), HeadInv md ops n listed →
      (∀ j oj, ops[j]? = some oj → j ≠ i → listed.getD j true = false → (∀ e ∈ oj.after, Region.binds md e = true → e.on ≠ i) → oi.apart ops oj = true) →
      i ∈ Region.ready md ops listed → YieldsIn P ops C oi v a → headQ P md ops C n L f (listed.setIfInBounds i true) (a.put oi.dst v) → headQ P md ops C n L (f + 1) listed a := by
  have small : ∀ listed : Array Bool, HeadInv md ops n listed → i ∈ Region.ready md ops listed → ∀ j ∈ Region.ready md ops listed, j < n := by
    intro listed inv hr j hj
    rcases Nat.lt_or_ge j n with h | h
    · exact h
    · exact absurd hj (tail_waits hs hc hn inv _ i rfl hin (mem_ready.1 hr).1 j h)
  intro f
  induction f with
  | zero =>
    intro listed a inv _ hr hy H
    refine ⟨fun h => (by rw [h] at hr; cases hr), fun j hj => ⟨small listed inv hr j hj, ?_⟩⟩
    by_cases hji : j = i
    · subst hji; exact hy.qOp hi H
    · have := hdone _ _ H j (ready_mono hj hji)
      have := small listed inv hr j hj
      omega
  | succ f ih =>
    intro listed a inv hfree hr hy H
    refine ⟨fun h => (by rw [h] at hr; cases hr), fun j hj => ⟨small listed inv hr j hj, ?_⟩⟩
    by_cases hji : j = i
    · subst hji; exact hy.qOp hi H
    · have h1 := (H.2 j (ready_mono hj hji)).2
      obtain ⟨hjun, oj, hoj, hall⟩ := mem_ready.1 hj
      have hnot : ∀ e ∈ oj.after, Region.binds md e = true → e.on ≠ i := fun e he hb heq => by
        have h2 := hall e he hb
        rw [heq, getD_both (mem_ready.1 hr).1] at h2
        cases h2
      have h2 := qOp_put hoj (hfree j oj hoj hji hjun hnot) (fun cs b => hsel i oi cs b hi) (fun cs b => hsel j oj cs b hoj) hy h1
      refine qOp_mono (fun a' h3 => ih (listed.setIfInBounds j true) a' (inv.set hj (small listed inv hr j hj)) (fun k ok hk hki hun hno => ?_) (ready_mono hr (Ne.symm hji)) h3.1 ?_) h2
      · refine hfree k ok hk hki ?_ hno
        by_cases hjk : j = k
        · subst hjk; exact hjun
        · rw [getD_set_ne true hjk] at hun; exact hun
      · rw [Array.setIfInBounds_comm _ _ hji]
        exact h3.2

theorem headQ_lex {n g : Nat} {Lq : Act → Prop} (hsel : Region.noSelect ops = true) (hs : Region.sinkB md ops n = true) (hc : Region.chainB md ops n = true) (hn : n < ops.size) :
    ∀ (l : List Oper) (k : Nat) (listed : Array Bool) (a : Act), (∀ j, j < l.length → l[j]? = ops[k + j]?) → k + l.length = n → HeadInv md ops n listed → Region.lexHead md ops g l.length k listed = true → wpQuiet P ops C Lq l a →
    headQ P md ops C n (fun listed' a' => Region.seqB md ops g n listed' = true ∧ Lq a') l.length listed a
  | [], k, listed, a, _, hk, _, hB, h => by
    obtain rfl : k = n := by simpa using hk
    exact ⟨by simpa [Region.lexHead] using hB, h⟩
  | o :: l, k, listed, a, hl, hk, inv, hB, h => by
    have h0 : ops[k]? = some o := by simpa using (hl 0 (by simp)).symm
    simp only [List.length_cons, Region.lexHead, Bool.and_eq_true] at hB
    obtain ⟨⟨hr, hf⟩, hB'⟩ := hB
    have hkn : k < n := by simp only [List.length_cons] at hk; omega
    have hr' : k ∈ Region.ready md ops listed := by simpa using hr
    obtain ⟨v, hy, hK⟩ := yieldsIn_of_qOp h0 (show qOp P ops C k (wpQuiet P ops C Lq l) a by unfold qOp; simp only [h0]; exact h)
    exact headQ_first h0 (Region.noSelect_spec hsel) hs hc hn hkn (fun listed' a' hL => seqB_ready hL.1) l.length listed a inv (Region.free_spec h0 hf) hr' hy
      (headQ_lex hsel hs hc hn l (k + 1) _ _ (fun j hj => by have := hl (j + 1) (by simp; omega); simpa [Nat.add_assoc, Nat.add_comm 1 j] using this) (by simp only [List.length_cons] at hk; omega) (inv.set hr' hkn) hB' hK)

/-- n operations ahead of the tail. -/
theorem wp_region_quiet_tail {id : Nat} {Q : Exit → Act → World → Prop} {a : Act} {w : World} {l : List Oper} (n : Nat) (hm : P.follows .mixedOrders = true) (hB : Region.lexTailB .any l.toArray n = true) (hC : C { w with drawn := w.drawn + 1 })
    (h : wpQuiet P l.toArray C (fun a' => ∀ w', C w' → wpList P l.toArray Q (l.drop n) a' w') (l.take n) a) : (Code.region id l.toArray true).wp P Q a w := by
  simp only [Region.lexTailB, Bool.and_eq_true, decide_eq_true_eq] at hB
  obtain ⟨⟨⟨⟨hsel, hn⟩, hs⟩, hc⟩, hlex⟩ := hB
  have hn' : n < l.length := by simpa using hn
  have htl : (l.take n).length = n := by simp; omega
  have hdl : (l.drop n).length = l.toArray.size - n := by simp
  have inv0 : HeadInv .any l.toArray n (Array.replicate l.toArray.size false) :=
    ⟨by simp, fun j oj _ hl => (by rw [getD_replicate_false] at hl; cases hl), fun t _ ht => getD_in (by simpa using ht) (getD_replicate_false _ _)⟩
  have H := headQ_lex (md := .any) (g := l.toArray.size - n) hsel hs hc hn (l.take n) 0 _ a (fun j hj => by
    have hj' : j < n := by rw [htl] at hj; exact hj
    simp [hj']) (by simpa using htl) inv0 (by rw [htl]; exact hlex) h
  refine wp_region_any hm ?_
  have := any_of_headQ (Q' := Q) (g := l.toArray.size - n) (fun listed a' w' hw' hL => by
    have := wpAny_of_seq (md := .any) (Q' := Q) (l.drop n) n listed a' w' (fun j => by simp [List.getElem?_drop]) (by rw [hdl]; exact hL.1) (hL.2 w' hw')
    rwa [hdl] at this) _ _ _ _ hC H
  rw [htl, show n + (l.toArray.size - n) = l.toArray.size by omega] at this
  exact this

theorem wp_region_later_tail {id : Nat} {Q : Exit → Act → World → Prop} {a : Act} {w : World} {l : List Oper} (n : Nat) (hm : P.follows .mixedOrders = true) (hB : Region.lexTailB .any l.toArray n = true)
    (h : wpQuiet P l.toArray (fun w' => ∃ s : Later w, w' = s.val) (fun a' => ∀ s : Later w, wpList P l.toArray Q (l.drop n) a' s.val) (l.take n) a) : (Code.region id l.toArray true).wp P Q a w :=
  wp_region_quiet_tail (C := fun w' => ∃ s : Later w, w' = s.val) n hm hB ⟨⟨w.drew, (Below.refl _ _).drew⟩, rfl⟩ (by
    have key : ∀ (l' : List Oper) (a : Act), wpQuiet P l.toArray (fun w' => ∃ s : Later w, w' = s.val) (fun a' => ∀ s : Later w, wpList P l.toArray Q (l.drop n) a' s.val) l' a →
        wpQuiet P l.toArray (fun w' => ∃ s : Later w, w' = s.val) (fun a' => ∀ w', (∃ s : Later w, w' = s.val) → wpList P l.toArray Q (l.drop n) a' w') l' a := by
      intro l'
      induction l' with
      | nil => exact fun a h w' ⟨s, hs⟩ => hs ▸ h s
      | cons o l' ih =>
        intro a h
        unfold wpQuiet at h ⊢
        split
        · rename_i hw
          rw [if_pos hw] at h
          exact Oper.quiet_mono ih h
        · rename_i hw
          rw [if_neg hw] at h
          exact ih _ h
    exact key _ _ h)
end
end Go.Proofs.YtnlhjhpikjmoaaaGreatDoor

namespace Go.Proofs.YtnlhjhpikjmoaaaGreatDoor
open Go.RowKit

section
variable {P : Program} {ops : Array Oper} {md : Region.Mode}

/-- j waits for d, at once or through others. -/
def waitsB (md : Region.Mode) (ops : Array Oper) : Nat → Nat → Nat → Bool
  | 0, _, _ => false
  | f + 1, j, d => match ops[j]? with
    | some o => o.after.any fun e => Region.binds md e && (e.on == d || waitsB md ops f e.on d)
    | none => false
def Closed (md : Region.Mode) (ops : Array Oper) (L : Array Bool) : Prop := ∀ j oj, ops[j]? = some oj → L.getD j false = true → ∀ e ∈ oj.after, Region.binds md e = true → L.getD e.on false = true
theorem waits_of {L : Array Bool} (hc : Closed md ops L) : ∀ (f j d : Nat), (∀ oj, ops[j]? = some oj → ∀ e ∈ oj.after, Region.binds md e = true → L.getD e.on false = true) → waitsB md ops f j d = true → L.getD d false = true
  | 0, _, _, _, h => by simp [waitsB] at h
  | f + 1, j, d, hj, h => by
    unfold waitsB at h
    split at h
    · rename_i o ho
      obtain ⟨e, he, hb⟩ := Array.any_eq_true'.1 h
      simp only [Bool.and_eq_true, Bool.or_eq_true, beq_iff_eq] at hb
      have h1 := hj o ho e he hb.1
      rcases hb.2 with h2 | h2
      · rw [← h2]; exact h1
      · exact waits_of hc f e.on d (fun oj hoj e' he' hb' => hc e.on oj hoj h1 e' he' hb') h2
    · cases h
theorem waits_closed {L : Array Bool} (hc : Closed md ops L) {f j d : Nat} (hj : L.getD j false = true) (h : waitsB md ops f j d = true) : L.getD d false = true :=
  waits_of hc f j d (fun oj hoj e he hb => hc j oj hoj hj e he hb) h
theorem waits_ready {L : Array Bool} (hc : Closed md ops L) {f j d : Nat} (hj : j ∈ Region.ready md ops L) (h : waitsB md ops f j d = true) : L.getD d false = true := by
  obtain ⟨_, o, ho, hall⟩ := mem_ready.1 hj
  exact waits_of hc f j d (fun oj hoj e he hb => by rw [ho] at hoj; cases hoj; exact hall e he hb) h

/-- operations that never enter a function -/
def plainOp : Op → Bool
  | .move .. | .assign .. | .pick .. | .build .. | .load .. | .binOp .. | .unOp .. | .convert .. | .fieldAddr .. | .field .. | .indexAddr .. | .index .. | .slice .. | .extract .. | .makeInterface .. => true
  | _ => false
theorem run_v_no (s : Sem Value) (w w' : World) (f : FuncId) (args : Array Value) : (do let x ← s; pure (Next.value x) : Sem Next).run P w ≠ .ok (.enter f args) w' := by
  rw [Sem.run_bind]
  cases s.run P w with
  | ok x w1 =>
    simp only [Result.andThen_ok, Sem.run_pure]
    intro h
    cases h
  | halt x w1 =>
    intro h
    cases h
theorem plain_no {o : Oper} (h : plainOp o.op = true) (ρ : Operand → Value) (w w' : World) (f : FuncId) (args : Array Value) : (execOp ρ o).run P w ≠ .ok (.enter f args) w' := by
  obtain ⟨dst, op, type, pos, after, guard⟩ := o
  cases op <;> simp only [plainOp] at h <;> first | (exact absurd h (by decide)) | skip
  all_goals simp only [execOp]
  all_goals first
    | exact run_v_no _ _ _ _ _
    | (intro h2; cases h2; done)
    | skip
  all_goals
    rw [Sem.run_bind]
    intro h2
    cases hq : (asBool _).run P w <;> rw [hq] at h2
    · simp only [Result.andThen_ok, Sem.run_pure] at h2
      cases h2
    · cases h2

def manyB (md : Region.Mode) (ops : Array Oper) (n : Nat) (wild : List Nat) : Bool :=
  Region.noSelect ops && decide (n ≤ ops.size) && (List.range n).all fun j => match ops[j]? with
    | none => false
    | some oj => (wild.contains j || plainOp oj.op) && (oj.after.all fun e => !Region.binds md e || decide (e.on < j)) &&
      (List.range j).all fun i => match ops[i]? with
        | none => false
        | some oi => ((oj.after.any fun e => Region.binds md e && e.on == i) || oi.apart ops oj) && (match oi.dst with | some d => oj.dst != some d | none => true)

structure ManyOk (md : Region.Mode) (ops : Array Oper) (n : Nat) (wild : List Nat) : Prop where
  le : n ≤ ops.size
  sel : ∀ (j : Nat) (o : Oper) cs b, ops[j]? = some o → o.op ≠ .select cs b
  plain : ∀ j oj, j < n → ops[j]? = some oj → j ∉ wild → plainOp oj.op = true
  back : ∀ j oj, j < n → ops[j]? = some oj → ∀ e ∈ oj.after, Region.binds md e = true → e.on < j
  free : ∀ (i j : Nat) (oi oj : Oper), i < j → j < n → ops[i]? = some oi → ops[j]? = some oj → (∃ e ∈ oj.after, Region.binds md e = true ∧ e.on = i) ∨ oi.apart ops oj = true
  dsts : ∀ (i j : Nat) (oi oj : Oper), i < j → j < n → ops[i]? = some oi → ops[j]? = some oj → ∀ d, oi.dst = some d → oj.dst ≠ some d
theorem many_ok {n : Nat} {wild : List Nat} (h : manyB md ops n wild = true) : ManyOk md ops n wild := by
  simp only [manyB, Bool.and_eq_true, List.all_eq_true, List.mem_range, decide_eq_true_eq] at h
  obtain ⟨⟨h0, hle⟩, h1⟩ := h
  have key : ∀ (j : Nat) (oj : Oper), j < n → ops[j]? = some oj → ((wild.contains j || plainOp oj.op) = true ∧ (oj.after.all fun e => !Region.binds md e || decide (e.on < j)) = true) ∧
      ∀ i, i < j → (match ops[i]? with
        | none => false
        | some oi => ((oj.after.any fun e => Region.binds md e && e.on == i) || oi.apart ops oj) && (match oi.dst with | some d => oj.dst != some d | none => true)) = true := by
    intro j oj hjn hj
    have h2 := h1 j hjn
    rw [hj] at h2
    simpa only [Bool.and_eq_true, List.all_eq_true, List.mem_range] using h2
  have key2 : ∀ (i j : Nat) (oi oj : Oper), i < j → j < n → ops[i]? = some oi → ops[j]? = some oj → ((oj.after.any fun e => Region.binds md e && e.on == i) || oi.apart ops oj) = true ∧ (match oi.dst with | some d => oj.dst != some d | none => true) = true := by
    intro i j oi oj hij hjn hi hj
    have h2 := (key j oj hjn hj).2 i hij
    rw [hi] at h2
    simpa only [Bool.and_eq_true] using h2
  refine ⟨hle, Region.noSelect_spec h0, fun j oj hjn hj hw => ?_, fun j oj hjn hj e he hb => ?_, fun i j oi oj hij hjn hi hj => ?_, fun i j oi oj hij hjn hi hj d hd => ?_⟩
  · have h2 := (key j oj hjn hj).1.1
    simpa [hw] using h2
  · have h2 := Array.all_eq_true_iff_forall_mem.1 (key j oj hjn hj).1.2 e he
    simpa [hb] using h2
  · have h2 := (key2 i j oi oj hij hjn hi hj).1
    simp only [Bool.or_eq_true] at h2
    rcases h2 with h2 | h2
    · obtain ⟨e, he, hb⟩ := Array.any_eq_true'.1 h2
      simp only [Bool.and_eq_true, beq_iff_eq] at hb
      exact .inl ⟨e, he, hb⟩
    · exact .inr h2
  · have h2 := (key2 i j oi oj hij hjn hi hj).2
    rw [hd] at h2
    simpa using h2

/-! ### frames -/
def dstOf (ops : Array Oper) (k : Nat) : Option Tmp := (ops[k]?).bind (·.dst)
def fr (ops : Array Oper) (a : Act) (S : Nat → Bool) (e : Nat → Value) : Nat → Act
  | 0 => a
  | k + 1 => if S k then (fr ops a S e k).put (dstOf ops k) (e k) else fr ops a S e k
def upd (e : Nat → Value) (k : Nat) (x : Value) : Nat → Value := fun i => if i = k then x else e i
def on (S : Nat → Bool) (k : Nat) : Nat → Bool := fun i => i == k || S i
theorem fr_congr {ops : Array Oper} {a : Act} {S S' : Nat → Bool} {e e' : Nat → Value} : ∀ n, (∀ i, i < n → S i = S' i ∧ (S i = true → e i = e' i)) → fr ops a S e n = fr ops a S' e' n
  | 0, _ => rfl
  | n + 1, h => by
    have ih := fr_congr (ops := ops) (a := a) n fun i hi => h i (by omega)
    obtain ⟨h1, h2⟩ := h n (by omega)
    unfold fr
    rw [ih, ← h1]
    cases hS : S n
    · rfl
    · simp only [if_true]; rw [h2 hS]
theorem fr_lex {a : Act} {e : Nat → Value} (k : Nat) : ∀ n, k ≤ n → fr ops a (fun i => decide (i < k)) e n = fr ops a (fun _ => true) e k
  | 0, h => by obtain rfl : k = 0 := by omega
               rfl
  | n + 1, h => by
    by_cases hk : k = n + 1
    · subst hk
      exact fr_congr _ fun i hi => ⟨by simp [hi], fun _ => rfl⟩
    · have ih := fr_lex (a := a) (e := e) k n (by omega)
      show (if decide (n < k) = true then _ else _) = _
      rw [if_neg (by simp; omega)]
      exact ih
theorem fr_set {n0 : Nat} {wild : List Nat} (hm : ManyOk md ops n0 wild) {a : Act} {S : Nat → Bool} {e : Nat → Value} {k : Nat} {x : Value} (hS : S k = false) : ∀ n, k < n → n ≤ n0 → fr ops a (on S k) (upd e k x) n = (fr ops a S e n).put (dstOf ops k) x
  | 0, h, _ => absurd h (by omega)
  | n + 1, h, hn => by
    by_cases hk : k = n
    · subst hk
      have hc : fr ops a (on S k) (upd e k x) k = fr ops a S e k := fr_congr k fun i hi => ⟨by simp [on]; omega, fun _ => by simp [upd]; omega⟩
      unfold fr
      rw [hc, hS, if_pos (by simp [on]), if_neg (by simp)]
      simp [upd]
    · have ih := fr_set hm (x := x) (a := a) (e := e) hS n (by omega) (by omega)
      have e1 : on S k n = S n := by simp [on]; omega
      have e2 : upd e k x n = e n := by simp [upd]; omega
      unfold fr
      rw [ih, e1, e2]
      cases hSn : S n
      · simp
      · simp only [if_true]
        refine Act.put_comm _ _ _ fun d hd => ?_
        obtain ⟨ok, hok⟩ : ∃ o, ops[k]? = some o := ⟨_, Array.getElem?_eq_getElem (by have := hm.le; omega)⟩
        obtain ⟨on', hon⟩ : ∃ o, ops[n]? = some o := ⟨_, Array.getElem?_eq_getElem (by have := hm.le; omega)⟩
        unfold dstOf at hd ⊢
        rw [hok] at hd
        rw [hon]
        exact hm.dsts k n ok on' (by omega) (by omega) hok hon d hd

/-- alike for an operation -/
def Ag (ops : Array Oper) (o : Oper) (a a' : Act) : Prop := a.tmps.size = a'.tmps.size ∧ ∀ t ∈ o.looksAt ops, a.tmps[t]? = a'.tmps[t]?
theorem Ag.exec {o : Oper} {a a' : Act} (hs : ∀ cs b, o.op ≠ .select cs b) (h : Ag ops o a a') : execOp a.eval o = execOp a'.eval o :=
  execOp_congr o hs fun x hx => by
    cases x with
    | tmp t =>
      have := h.2 t (List.mem_append_left _ (List.mem_filterMap.2 ⟨.tmp t, by simpa using hx, rfl⟩))
      simp [Act.eval, Array.getD_eq_getD_getElem?, this]
    | _ => rfl
theorem Ag.wanted {o : Oper} {a a' : Act} (h : Ag ops o a a') : Region.wanted o (yielded ops a.tmps) = Region.wanted o (yielded ops a'.tmps) := by
  unfold Region.wanted
  cases hg : o.guard with
  | none => rfl
  | some gw =>
    obtain ⟨g, want⟩ := gw
    have hy : yielded ops a.tmps g = yielded ops a'.tmps g := by
      unfold yielded
      cases ht : (ops[g]?).bind (·.dst) with
      | none => rfl
      | some t =>
        have := h.2 t (by simp [Oper.looksAt, hg, ht])
        simp only [Option.bind_some, this]
    simp only [hy]
theorem put_size (a : Act) (d : Option Tmp) (v : Value) : (a.put d v).tmps.size = a.tmps.size := by cases d <;> simp [Act.put]
theorem put_at (a : Act) (d : Option Tmp) (v : Value) (t : Nat) (h : d ≠ some t) : (a.put d v).tmps[t]? = a.tmps[t]? := by
  cases d with
  | none => rfl
  | some d =>
    have : d ≠ t := fun e => h (by rw [e])
    simp [Act.put, Array.getElem?_setIfInBounds_ne this]
theorem put_both {a a' : Act} (d : Option Tmp) (v : Value) (t : Nat) (hs : a.tmps.size = a'.tmps.size) (h : a.tmps[t]? = a'.tmps[t]?) : (a.put d v).tmps[t]? = (a'.put d v).tmps[t]? := by
  by_cases e : d = some t
  · subst e
    simp [Act.put, Array.getElem?_setIfInBounds, hs]
  · rw [put_at _ _ _ _ e, put_at _ _ _ _ e, h]
theorem ag_fr {o : Oper} {a : Act} {S1 S2 : Nat → Bool} {e1 e2 : Nat → Value} : ∀ n, (∀ k, k < n → S1 k = true → S2 k = true → e1 k = e2 k) → (∀ k, k < n → S1 k ≠ S2 k → ∀ d, dstOf ops k = some d → d ∉ o.looksAt ops) →
    Ag ops o (fr ops a S1 e1 n) (fr ops a S2 e2 n)
  | 0, _, _ => ⟨rfl, fun _ _ => rfl⟩
  | n + 1, h1, h2 => by
    obtain ⟨i1, i2⟩ := ag_fr n (fun k hk => h1 k (by omega)) (fun k hk => h2 k (by omega))
    unfold fr
    cases hS1 : S1 n <;> cases hS2 : S2 n
    · exact ⟨i1, i2⟩
    · simp only [if_true, Bool.false_eq_true, if_false]
      exact ⟨by rw [put_size]; exact i1, fun t ht => by rw [put_at _ _ _ _ (fun e => h2 n (by omega) (by rw [hS1, hS2]; simp) t e ht)]; exact i2 t ht⟩
    · simp only [if_true, Bool.false_eq_true, if_false]
      exact ⟨by rw [put_size]; exact i1, fun t ht => by rw [put_at _ _ _ _ (fun e => h2 n (by omega) (by rw [hS1, hS2]; simp) t e ht)]; exact i2 t ht⟩
    · simp only [if_true]
      rw [h1 n (by omega) hS1 hS2]
      exact ⟨by rw [put_size, put_size]; exact i1, fun t ht => put_both _ _ _ i1 (i2 t ht)⟩

/-! ### the walk -/
def giv (P : Program) (Φ : Value → World → Prop) : Result Next → Prop
  | .ok (.value x) w' => Φ x w'
  | .ok .skip w' => Φ undef w'
  | .ok (.enter f args) w' => Calls P f args w' fun e w'' => ∃ x, e = .returned x ∧ Φ x w''
  | _ => False
/-- the operation leaves a value and a world -/
def Gives (P : Program) (o : Oper) (a : Act) (w : World) (Φ : Value → World → Prop) : Prop := giv P Φ ((execOp a.eval o).run P w)
theorem Gives.wp {o : Oper} {a : Act} {w : World} {Φ : Value → World → Prop} {K : Act → World → Prop} {Q : Exit → Act → World → Prop} (h : Gives P o a w Φ) (hK : ∀ x w', Φ x w' → K (a.put o.dst x) w') : o.wp P a w K Q := by
  unfold Gives at h
  unfold Oper.wp
  generalize (execOp a.eval o).run P w = r at *
  cases r with
  | ok n w' =>
    cases n <;> simp only [giv] at h <;> simp only [Oper.upon]
    case value u => exact hK _ _ h
    case skip => exact hK _ _ h
    case enter f args => exact h.mono fun e w'' ⟨x, he, hx⟩ => by subst he; exact hK _ _ hx
  | halt x w' => simp only [giv] at h
theorem Gives.congr {o : Oper} {a a' : Act} {w : World} {Φ : Value → World → Prop} (he : execOp a.eval o = execOp a'.eval o) (h : Gives P o a' w Φ) : Gives P o a w Φ := by
  unfold Gives at *
  rw [he]
  exact h
theorem Gives.mono {o : Oper} {a : Act} {w : World} {Φ Ψ : Value → World → Prop} (h : Gives P o a w Φ) (hK : ∀ x w', Φ x w' → Ψ x w') : Gives P o a w Ψ := by
  unfold Gives at *
  generalize (execOp a.eval o).run P w = r at *
  cases r with
  | ok n w' =>
    cases n <;> simp only [giv] at h ⊢
    case value u => exact hK _ _ h
    case skip => exact hK _ _ h
    case enter f args => exact h.mono fun e w'' ⟨x, he, hx⟩ => ⟨x, he, hK _ _ hx⟩
  | halt x w' => simp only [giv] at h

variable (P md ops)
variable (Inv : (Nat → Bool) → World → Prop) (V : Nat → Value → World → Prop) (wild : List Nat)

def WildStep (v : Nat → Value) (E : Nat → Prop) (k : Nat) (o : Oper) (a : Act) : Prop :=
  ∀ (M : Nat → Bool) (w : World), M k = false → (∀ st, waitsB md ops ops.size st k = true → M st = false) → (∀ d, E d → waitsB md ops ops.size k d = true → M d = true) → Inv M w → (∀ d, M d = true → V d (v d) w) →
    Gives P o a w fun x w' => V k x w' ∧ Inv (on M k) w' ∧ ∀ j x', j ≠ k → V j x' w → V j x' w'

def many (v : Nat → Value) (Q : Act → World → Prop) : List Nat → Nat → List Oper → Act → Prop
  | E, _, [], a => ∀ (M : Nat → Bool) (w : World), (∀ d ∈ E, M d = true) → Inv M w → (∀ d ∈ E, V d (v d) w) → Q a w
  | E, k, o :: rest, a =>
    if Region.wanted o (yielded ops a.tmps) then
      (if k ∈ wild then WildStep P ops md Inv V v (· ∈ E) k o a ∧ many v Q (k :: E) (k + 1) rest (a.put o.dst (v k))
       else o.quiet P a (fun w => ∃ M, Inv M w) (many v Q E (k + 1) rest))
    else many v Q E (k + 1) rest (a.put o.dst undef)

def wantedAt (a : Act) (e : Nat → Value) (k : Nat) (o : Oper) : Bool := Region.wanted o (yielded ops (fr ops a (fun _ => true) e k).tmps)
/-- which are wild and wanted -/
def Wst (a : Act) (e : Nat → Value) (d : Nat) : Prop := d ∈ wild ∧ ∃ o, ops[d]? = some o ∧ wantedAt ops a e d o = true
structure StepAt (a : Act) (v e : Nat → Value) (k : Nat) (o : Oper) : Prop where
  wild_ : wantedAt ops a e k o = true → k ∈ wild → e k = v k ∧ WildStep P ops md Inv V v (fun d => d < k ∧ Wst ops wild a e d) k o (fr ops a (fun _ => true) e k)
  quiet : wantedAt ops a e k o = true → k ∉ wild → ∀ w, (∃ M, Inv M w) → o.quietAt P (fr ops a (fun _ => true) e k) (fun w => ∃ M, Inv M w) w (e k)
  not : wantedAt ops a e k o = false → e k = undef
variable {P md ops Inv V wild}

theorem WildStep.more {v : Nat → Value} {E E' : Nat → Prop} {k : Nat} {o : Oper} {a : Act} (h : WildStep P ops md Inv V v E k o a) (hE : ∀ d, E d → E' d) : WildStep P ops md Inv V v E' k o a :=
  fun M w h1 h2 h3 h4 h5 => h M w h1 h2 (fun d hd => h3 d (hE d hd)) h4 h5

theorem many_idx {v : Nat → Value} {Q : Act → World → Prop} {a0 : Act} : ∀ (l : List Oper) (E : List Nat) (k : Nat) (e0 : Nat → Value), (∀ j, j < l.length → l[j]? = ops[k + j]?) → (∀ d ∈ E, d < k ∧ Wst ops wild a0 e0 d) →
    many P ops md Inv V wild v Q E k l (fr ops a0 (fun _ => true) e0 k) →
    ∃ e : Nat → Value, (∀ i, i < k → e i = e0 i) ∧ (∀ i o, k ≤ i → i < k + l.length → ops[i]? = some o → StepAt P ops md Inv V wild a0 v e i o) ∧
      ∀ (M : Nat → Bool) (w : World), (∀ d, d < k + l.length → Wst ops wild a0 e d → M d = true) → Inv M w → (∀ d, d < k + l.length → Wst ops wild a0 e d → V d (v d) w) → Q (fr ops a0 (fun _ => true) e (k + l.length)) w
  | [], E, k, e0, hl, hE, h => by
    exact ⟨e0, fun _ _ => rfl, fun i o hi hi2 => absurd hi2 (by simp; omega), fun M w h1 h2 h3 => h M w (fun d hd => h1 d (by have := (hE d hd).1; simp; omega) (hE d hd).2) h2 (fun d hd => h3 d (by have := (hE d hd).1; simp; omega) (hE d hd).2)⟩
  | o :: l, E, k, e0, hl, hE, h => by
    have h0 : ops[k]? = some o := by simpa using (hl 0 (by simp)).symm
    have hd0 : dstOf ops k = o.dst := by unfold dstOf; rw [h0]; rfl
    have hlen : k + (o :: l).length = k + 1 + l.length := by simp; omega
    have hl' : ∀ j, j < l.length → l[j]? = ops[k + 1 + j]? := fun j hj => by have := hl (j + 1) (by simp; omega); simpa [Nat.add_assoc, Nat.add_comm 1 j] using this
    -- one value more
    have next : ∀ (E' : List Nat) (x : Value), (∀ d ∈ E', d < k + 1 ∧ Wst ops wild a0 (upd e0 k x) d) → many P ops md Inv V wild v Q E' (k + 1) l ((fr ops a0 (fun _ => true) e0 k).put o.dst x) →
        ∃ e : Nat → Value, (∀ i, i < k → e i = e0 i) ∧ e k = x ∧ fr ops a0 (fun _ => true) e k = fr ops a0 (fun _ => true) e0 k ∧ (∀ i o, k + 1 ≤ i → i < k + 1 + l.length → ops[i]? = some o → StepAt P ops md Inv V wild a0 v e i o) ∧
          ∀ (M : Nat → Bool) (w : World), (∀ d, d < k + 1 + l.length → Wst ops wild a0 e d → M d = true) → Inv M w → (∀ d, d < k + 1 + l.length → Wst ops wild a0 e d → V d (v d) w) → Q (fr ops a0 (fun _ => true) e (k + 1 + l.length)) w := by
      intro E' x hE' hm
      have hf : fr ops a0 (fun _ => true) (upd e0 k x) (k + 1) = (fr ops a0 (fun _ => true) e0 k).put o.dst x := by
        show (fr ops a0 (fun _ => true) (upd e0 k x) k).put (dstOf ops k) (upd e0 k x k) = _
        rw [hd0, fr_congr k (S' := fun _ => true) (e' := e0) fun i hi => ⟨rfl, fun _ => by simp [upd]; omega⟩]
        simp [upd]
      rw [← hf] at hm
      obtain ⟨e, h1, h2, h3⟩ := many_idx l E' (k + 1) (upd e0 k x) hl' hE' hm
      refine ⟨e, fun i hi => by rw [h1 i (by omega)]; simp [upd]; omega, by rw [h1 k (by omega)]; simp [upd], fr_congr k fun i hi => ⟨rfl, fun _ => by rw [h1 i (by omega)]; simp [upd]; omega⟩, h2, h3⟩
    -- what is known of what came before stays
    have keepW : ∀ (e : Nat → Value) (d : Nat), (∀ i, i < k → e i = e0 i) → d < k → Wst ops wild a0 e0 d → Wst ops wild a0 e d := by
      rintro e d he hd ⟨h1, o', ho', hw⟩
      refine ⟨h1, o', ho', ?_⟩
      unfold wantedAt at hw ⊢
      rw [fr_congr d (S' := fun _ => true) (e' := e0) fun i hi => ⟨rfl, fun _ => he i (by omega)⟩]
      exact hw
    have keepU : ∀ (x : Value) (d : Nat), d < k → Wst ops wild a0 e0 d → Wst ops wild a0 (upd e0 k x) d := fun x d hd hw => keepW _ d (fun i hi => by simp [upd]; omega) hd hw
    unfold many at h
    by_cases hwant : Region.wanted o (yielded ops (fr ops a0 (fun _ => true) e0 k).tmps) = true
    · rw [if_pos hwant] at h
      by_cases hwild : k ∈ wild
      · rw [if_pos hwild] at h
        obtain ⟨h1, h2⟩ := h
        obtain ⟨e, he, hek, hfr, hst, hfin⟩ := next (k :: E) (v k) (fun d hd => by
          rcases List.mem_cons.1 hd with rfl | hd
          · refine ⟨by omega, hwild, o, h0, ?_⟩
            unfold wantedAt
            rw [fr_congr d (S' := fun _ => true) (e' := e0) fun i hi => ⟨rfl, fun _ => by simp [upd]; omega⟩]
            exact hwant
          · exact ⟨by have := (hE d hd).1; omega, keepU _ d (hE d hd).1 (hE d hd).2⟩) h2
        refine ⟨e, he, fun i o' hi hi2 ho' => ?_, by rw [hlen]; exact hfin⟩
        by_cases hik : i = k
        · subst hik
          rw [h0] at ho'
          cases ho'
          have hw1 : wantedAt ops a0 e i o = true := by unfold wantedAt; rw [hfr]; exact hwant
          refine ⟨fun _ _ => ⟨hek, ?_⟩, fun _ hn => absurd hwild hn, fun hn => by rw [hw1] at hn; cases hn⟩
          rw [hfr]
          exact h1.more fun d hd => ⟨(hE d hd).1, keepW e d he (hE d hd).1 (hE d hd).2⟩
        · exact hst i o' (by omega) (by omega) ho'
      · rw [if_neg hwild] at h
        obtain ⟨u, h1, h2⟩ := h
        obtain ⟨e, he, hek, hfr, hst, hfin⟩ := next E u (fun d hd => ⟨by have := (hE d hd).1; omega, keepU _ d (hE d hd).1 (hE d hd).2⟩) h2
        refine ⟨e, he, fun i o' hi hi2 ho' => ?_, by rw [hlen]; exact hfin⟩
        by_cases hik : i = k
        · subst hik
          rw [h0] at ho'
          cases ho'
          have hw1 : wantedAt ops a0 e i o = true := by unfold wantedAt; rw [hfr]; exact hwant
          refine ⟨fun _ hn => absurd hn hwild, fun _ _ w hw => ?_, fun hn => by rw [hw1] at hn; cases hn⟩
          rw [hfr, hek]
          exact h1 w hw
        · exact hst i o' (by omega) (by omega) ho'
    · rw [if_neg hwant] at h
      obtain ⟨e, he, hek, hfr, hst, hfin⟩ := next E undef (fun d hd => ⟨by have := (hE d hd).1; omega, keepU _ d (hE d hd).1 (hE d hd).2⟩) h
      refine ⟨e, he, fun i o' hi hi2 ho' => ?_, by rw [hlen]; exact hfin⟩
      by_cases hik : i = k
      · subst hik
        rw [h0] at ho'
        cases ho'
        have hw1 : ¬ wantedAt ops a0 e i o = true := by unfold wantedAt; rw [hfr]; exact hwant
        exact ⟨fun hw => absurd hw hw1, fun hw => absurd hw hw1, fun _ => hek⟩
      · exact hst i o' (by omega) (by omega) ho'
theorem all_listed {n : Nat} {wild : List Nat} (hm : ManyOk md ops n wild) {L : Array Bool} (hs : L.size = ops.size) (hr : Region.ready md ops L = []) : ∀ i, i < n → L.getD i false = true := by
  intro i
  induction i using Nat.strongRecOn with
  | _ i ih =>
    intro hi
    cases hl : L.getD i false with
    | true => rfl
    | false =>
      have hi' : i < ops.size := by have := hm.le; omega
      have hmem : i ∈ Region.ready md ops L := mem_ready.2 ⟨getD_in (by omega) hl, ops[i], Array.getElem?_eq_getElem hi', fun e he hb => ih e.on (hm.back i _ hi (Array.getElem?_eq_getElem hi') e he hb) (by
        have := hm.back i _ hi (Array.getElem?_eq_getElem hi') e he hb
        omega)⟩
      rw [hr] at hmem
      cases hmem
theorem countP_one {p q : Nat → Bool} {j : Nat} (hj : p j = true) (hq : q j = false) (h : ∀ i, i ≠ j → q i = p i) : ∀ n, j < n → (List.range n).countP p = (List.range n).countP q + 1
  | 0, hn => absurd hn (by omega)
  | n + 1, hn => by
    rw [List.range_succ, List.countP_append, List.countP_append]
    by_cases hjn : j = n
    · subst hjn
      have : (List.range j).countP p = (List.range j).countP q := List.countP_congr fun i hi => by
        have := List.mem_range.1 hi
        rw [h i (by omega)]
      rw [this]
      simp [hj, hq]
    · have ih := countP_one hj hq h n (by omega)
      rw [ih]
      simp only [List.countP_cons, List.countP_nil]
      rw [h n (by omega)]
      omega
theorem setL_at {L : Array Bool} {n j : Nat} (hs : L.size = n) (hj : j < n) (i : Nat) : (L.setIfInBounds j true).getD i false = on (L.getD · false) j i := by
  unfold on
  by_cases h : i = j
  · subst h
    simp [hs, hj]
  · rw [getD_set_ne false (Ne.symm h)]
    simp [h]

structure Vals (P : Program) (ops : Array Oper) (md : Region.Mode) (Inv : (Nat → Bool) → World → Prop) (V : Nat → Value → World → Prop) (wild : List Nat) (n : Nat) (Q : Act → World → Prop) (a0 : Act) (v ev : Nat → Value) : Prop where
  st : ∀ i o, i < n → ops[i]? = some o → StepAt P ops md Inv V wild a0 v ev i o
  fin : ∀ (M : Nat → Bool) (w : World), (∀ d, d < n → Wst ops wild a0 ev d → M d = true) → Inv M w → (∀ d, d < n → Wst ops wild a0 ev d → V d (v d) w) → Q (fr ops a0 (fun _ => true) ev n) w

theorem many_any {n g : Nat} (hm : ManyOk md ops n wild) (hT : ∀ L, HeadInv md ops n L → (∃ i, i < n ∧ L.getD i false = false) → ∀ j ∈ Region.ready md ops L, j < n) {Q : Act → World → Prop} {Q' : Exit → Act → World → Prop}
    (hQ : ∀ L a w, HeadInv md ops n L → (∀ i, i < n → L.getD i false = true) → Q a w → wpAny P md ops Q' g L a w) {a0 : Act} {Sh : Nat → Value → Prop} (hSh : ∀ k x w, V k x w → Sh k x) {v0 : Nat → Value} (hv0 : ∀ k, k ∈ wild → Sh k (v0 k))
    (H : ∀ v : Nat → Value, (∀ k, k ∈ wild → Sh k (v k)) → many P ops md Inv V wild v Q [] 0 (ops.toList.take n) a0) :
    ∀ (f : Nat) (L : Array Bool) (w : World) (e : Nat → Value) (M : Nat → Bool), HeadInv md ops n L → (List.range n).countP (fun i => !L.getD i false) = f → Inv M w →
      (∀ d, M d = true → L.getD d false = true ∧ d ∈ wild ∧ V d (e d) w) →
      (∀ v : Nat → Value, (∀ d, M d = true → v d = e d) → ∀ ev, Vals P ops md Inv V wild n Q a0 v ev → ∀ k o, L.getD k false = true → ops[k]? = some o → ev k = e k ∧ (k ∈ wild → wantedAt ops a0 ev k o = M k)) →
      wpAny P md ops Q' (f + g) L (fr ops a0 (L.getD · false) e n) w := by
  intro f
  have hle := hm.le
  have htl : (ops.toList.take n).length = n := by simp; omega
  -- values for any v
  have vals : ∀ v : Nat → Value, (∀ k, k ∈ wild → Sh k (v k)) → ∃ ev, Vals P ops md Inv V wild n Q a0 v ev := by
    intro v hv
    obtain ⟨ev, _, h2, h3⟩ := many_idx (v := v) (Q := Q) (a0 := a0) (ops.toList.take n) [] 0 (fun _ => undef) (fun j hj => by rw [htl] at hj; simp [hj]) (by simp) (H v hv)
    rw [htl, Nat.zero_add] at h2 h3
    exact ⟨ev, fun i o hi ho => h2 i o (by omega) hi ho, h3⟩
  have shape : ∀ {e : Nat → Value} {M : Nat → Bool} {L : Array Bool} {w : World}, (∀ d, M d = true → L.getD d false = true ∧ d ∈ wild ∧ V d (e d) w) → ∀ k, k ∈ wild → Sh k (if M k = true then e k else v0 k) := by
    intro e M L w h2 k hk
    by_cases hM : M k = true
    · rw [if_pos hM]; exact hSh k _ w (h2 k hM).2.2
    · rw [if_neg hM]; exact hv0 k hk
  have ends : ∀ (L : Array Bool) (w : World) (e : Nat → Value) (M : Nat → Bool), (∀ i, i < n → L.getD i false = true) → (∀ i, n ≤ i → L.getD i false = false) → Inv M w → (∀ d, M d = true → L.getD d false = true ∧ d ∈ wild ∧ V d (e d) w) →
      (∀ v : Nat → Value, (∀ d, M d = true → v d = e d) → ∀ ev, Vals P ops md Inv V wild n Q a0 v ev → ∀ k o, L.getD k false = true → ops[k]? = some o → ev k = e k ∧ (k ∈ wild → wantedAt ops a0 ev k o = M k)) →
      Q (fr ops a0 (L.getD · false) e n) w := by
    intro L w e M hall hno hI h2 h3
    obtain ⟨ev, hev⟩ := vals (fun k => if M k = true then e k else v0 k) (shape h2)
    have h4 := h3 _ (fun d hd => by simp [hd]) ev hev
    have hM : ∀ d, d < n → Wst ops wild a0 ev d → M d = true := by
      rintro d hd ⟨hw, o, ho, hwant⟩
      have := (h4 d o (hall d hd) ho).2 hw
      rw [← this]; exact hwant
    have h5 := hev.fin M w hM hI fun d hd hw => by
      have := hM d hd hw
      simp only [this, if_true]
      exact (h2 d this).2.2
    rw [fr_congr n (S' := fun _ => true) (e' := ev) fun i hi => ⟨hall i hi, fun _ => ((h4 i _ (hall i hi) (Array.getElem?_eq_getElem (by omega))).1).symm⟩]
    exact h5
  have tailF : ∀ {L : Array Bool}, HeadInv md ops n L → ∀ i, n ≤ i → L.getD i false = false := fun {L} inv i hi => by
    rcases Nat.lt_or_ge i ops.size with h | h
    · exact getD_both (inv.tail i hi h)
    · simp [Array.getElem?_eq_none (show L.size ≤ i by rw [inv.size]; exact h)]
  induction f with
  | zero =>
    intro L w e M inv hcnt hI h2 h3
    have hall : ∀ i, i < n → L.getD i false = true := by
      intro i hi
      have h := List.countP_eq_zero.1 hcnt i (List.mem_range.2 hi)
      simpa using h
    rw [Nat.zero_add]
    exact hQ L _ w inv hall (ends L w e M hall (tailF inv) hI h2 h3)
  | succ f ih =>
    intro L w e M inv hcnt hI h2 h3
    have hun0 : ∃ i, i < n ∧ L.getD i false = false := by
      obtain ⟨i, hi, hp⟩ := List.countP_pos_iff.1 (show 0 < (List.range n).countP (fun i => !L.getD i false) by omega)
      exact ⟨i, List.mem_range.1 hi, by simpa using hp⟩
    rw [show f + 1 + g = (f + g) + 1 by omega]
    refine ⟨fun hr => ?_, fun j hj => ?_⟩
    · obtain ⟨i, hi, hl⟩ := hun0
      rw [all_listed hm inv.size hr i hi] at hl
      cases hl
    have hc : Closed md ops L := inv.closed
    have hs := inv.size
    obtain ⟨hun, oj, hoj, hdeps⟩ := mem_ready.1 hj
    have hjn : j < n := hT L inv hun0 j hj
    have hLj := getD_both hun
    have hdj : dstOf ops j = oj.dst := by unfold dstOf; rw [hoj]; rfl
    have hMj : M j = false := by
      cases h : M j with
      | false => rfl
      | true => have := (h2 j h).1; rw [hLj] at this; cases this
    -- frames that are alike for j
    have alike : ∀ v : Nat → Value, (∀ d, M d = true → v d = e d) → ∀ ev, Vals P ops md Inv V wild n Q a0 v ev → Ag ops oj (fr ops a0 (L.getD · false) e n) (fr ops a0 (fun _ => true) ev j) := by
      intro v hv ev hev
      rw [← fr_lex j n (by omega)]
      refine ag_fr _ (fun k hk h1 h4 => ((h3 v hv ev hev k _ h1 (Array.getElem?_eq_getElem (by omega))).1).symm) (fun k hk hne d hd => ?_)
      obtain ⟨ok, hok⟩ : ∃ o, ops[k]? = some o := ⟨_, Array.getElem?_eq_getElem (by omega)⟩
      have hdk : ok.dst = some d := by unfold dstOf at hd; rw [hok] at hd; exact hd
      rcases Nat.lt_trichotomy k j with hlt | rfl | hgt
      · have hLk : L.getD k false = false := by
          cases h : L.getD k false with
          | false => rfl
          | true => rw [h] at hne; simp [hlt] at hne
        rcases hm.free k j ok oj hlt hjn hok hoj with ⟨e', he', hb, hon⟩ | hap
        · have := hdeps e' he' hb
          rw [hon, hLk] at this
          cases this
        · exact (Oper.apart_spec hap).1 d hdk
      · rw [hLj] at hne
        simp at hne
      · have hLk : L.getD k false = true := by
          cases h : L.getD k false with
          | true => rfl
          | false => rw [h] at hne; simp at hne; omega
        rcases hm.free j k oj ok hgt hk hoj hok with ⟨e', he', hb, hon⟩ | hap
        · have := hc k ok hok hLk e' he' hb
          rw [hon, hLj] at this
          cases this
        · exact (Oper.apart_spec hap).2.2 d hdk
    -- what comes next
    have next : ∀ (x : Value) (M' : Nat → Bool) (w' : World), (∀ d, d ≠ j → M' d = M d) → Inv M' w' → (M' j = true → j ∈ wild ∧ V j x w') → (∀ d, M d = true → V d (e d) w') →
        (∀ v : Nat → Value, (∀ d, M' d = true → v d = upd e j x d) → ∀ ev, Vals P ops md Inv V wild n Q a0 v ev → ev j = x ∧ (j ∈ wild → wantedAt ops a0 ev j oj = M' j)) →
        wpAny P md ops Q' (f + g) (L.setIfInBounds j true) ((fr ops a0 (L.getD · false) e n).put oj.dst x) w' := by
      intro x M' w' hM' hI' hVj hVd hx
      have hset := setL_at (L := L) (n := ops.size) hs (show j < ops.size by omega)
      rw [← hdj, ← fr_set hm (S := (L.getD · false)) (e := e) (k := j) (x := x) hLj n hjn (Nat.le_refl _)]
      have e1 : (on (fun i => L.getD i false) j) = ((L.setIfInBounds j true).getD · false) := funext fun i => (hset i).symm
      rw [e1]
      refine ih _ w' _ M' (inv.set hj hjn) ?_ hI' ?_ ?_
      · have := countP_one (p := fun i => !L.getD i false) (q := fun i => !(L.setIfInBounds j true).getD i false) (j := j) (by simp [hLj]) (by rw [hset]; simp [on]) (fun i hi => by rw [hset]; simp [on, hi]) n hjn
        omega
      · intro d hd
        rw [hset]
        by_cases hdj' : d = j
        · subst hdj'
          obtain ⟨h4, h5⟩ := hVj hd
          exact ⟨by simp [on], h4, by simpa [upd] using h5⟩
        · rw [hM' d hdj'] at hd
          obtain ⟨h4, h5, _⟩ := h2 d hd
          refine ⟨by simp [on, h4], h5, ?_⟩
          have : upd e j x d = e d := by simp [upd, hdj']
          rw [this]
          exact hVd d hd
      · intro v hv ev hev k o hk hok
        rw [hset] at hk
        unfold on at hk
        by_cases hkj : k = j
        · subst hkj
          rw [hoj] at hok
          cases hok
          have := hx v hv ev hev
          exact ⟨by simpa [upd] using this.1, this.2⟩
        · have hk' : L.getD k false = true := by simpa [hkj] using hk
          have := h3 v (fun d hd => by
            have hdj' : d ≠ j := fun h => by subst h; rw [hMj] at hd; cases hd
            have := hv d (by rw [hM' d hdj']; exact hd)
            rw [this]; simp [upd, hdj']) ev hev k o hk' hok
          exact ⟨by rw [this.1]; simp [upd, hkj], fun hw => by rw [this.2 hw, hM' k hkj]⟩
    have ext : ∀ {x : Value} {M' : Nat → Bool} {v : Nat → Value}, (∀ d, d ≠ j → M' d = M d) → (∀ d, M' d = true → v d = upd e j x d) → ∀ d, M d = true → v d = e d := by
      intro x M' v hM' hv d hd
      have hdj' : d ≠ j := fun h => by subst h; rw [hMj] at hd; cases hd
      have := hv d (by rw [hM' d hdj']; exact hd)
      rw [this]; simp [upd, hdj']
    obtain ⟨ev, hev⟩ := vals (fun k => if M k = true then e k else v0 k) (shape h2)
    have hvv : ∀ d, M d = true → (fun k => if M k = true then e k else v0 k) d = e d := fun d hd => by simp [hd]
    have hAg := alike _ hvv ev hev
    have hst := hev.st j oj hjn hoj
    have hwa : Region.wanted oj (yielded ops (fr ops a0 (L.getD · false) e n).tmps) = wantedAt ops a0 ev j oj := hAg.wanted
    have hwa' : ∀ v : Nat → Value, (∀ d, M d = true → v d = e d) → ∀ ev', Vals P ops md Inv V wild n Q a0 v ev' → wantedAt ops a0 ev' j oj = wantedAt ops a0 ev j oj := fun v hv ev' hev' => by
      rw [← hwa]; exact ((alike v hv ev' hev').wanted).symm
    unfold wpOp
    simp only [hoj, hwa]
    cases hw : wantedAt ops a0 ev j oj with
    | false =>
      simp only [Bool.false_eq_true, if_false]
      refine next undef M w (fun _ _ => rfl) hI (fun h => by rw [hMj] at h; cases h) (fun d hd => (h2 d hd).2.2) fun v hv ev' hev' => ?_
      have h4 := hwa' v (ext (fun _ _ => rfl) hv) ev' hev'
      rw [hw] at h4
      exact ⟨(hev'.st j oj hjn hoj).not h4, fun _ => by rw [h4, hMj]⟩
    | true =>
      simp only [if_true]
      refine .inl ?_
      by_cases hwild : j ∈ wild
      · obtain ⟨_, hstep⟩ := hst.wild_ hw hwild
        have h4 := hstep M w hMj (fun st hst' => by
            cases h : M st with
            | false => rfl
            | true =>
              have := waits_closed hc (h2 st h).1 hst'
              rw [hLj] at this
              cases this)
          (fun d hd hwt => by
            obtain ⟨_, hdw, o, ho, hwd⟩ := hd
            have := (h3 _ hvv ev hev d o (waits_ready hc hj hwt) ho).2 hdw
            rw [← this]; exact hwd) hI (fun d hd => by
              have := (h2 d hd).2.2
              simpa [hd] using this)
        have h5 := Gives.congr (hAg.exec (hm.sel j oj · · hoj)) h4
        refine h5.wp fun x w' ⟨g1, g2, g3⟩ => ?_
        refine next x (on M j) w' (fun d hd => by simp [on, hd]) g2 (fun _ => ⟨hwild, g1⟩) (fun d hd => g3 d _ (fun h => by subst h; rw [hMj] at hd; cases hd) (h2 d hd).2.2) fun v hv ev' hev' => ?_
        have h6 := hwa' v (ext (M' := on M j) (fun d hd => by simp [on, hd]) hv) ev' hev'
        rw [hw] at h6
        refine ⟨?_, fun _ => by rw [h6]; simp [on]⟩
        rw [((hev'.st j oj hjn hoj).wild_ h6 hwild).1, hv j (by simp [on])]
        simp [upd]
      · have h4 := hst.quiet hw hwild w ⟨M, hI⟩
        have hplain := hm.plain j oj hjn hoj hwild
        have hex := hAg.exec (hm.sel j oj · · hoj)
        have h5 : Gives P oj (fr ops a0 (L.getD · false) e n) w (fun x w' => x = ev j ∧ w' = w) := by
          unfold Gives
          unfold Oper.quietAt at h4
          rw [hex]
          have hno := plain_no (P := P) hplain (fr ops a0 (fun _ => true) ev j).eval w
          generalize (execOp (fr ops a0 (fun _ => true) ev j).eval oj).run P w = r at *
          cases r with
          | ok n w' =>
            cases n <;> simp only [Oper.quietUpon] at h4 <;> simp only [giv]
            case value u => exact ⟨h4.2, h4.1⟩
            case skip => exact ⟨h4.2.symm, h4.1⟩
            case enter f args => exact absurd rfl (hno w' f args)
          | halt x w' => simp only [Oper.quietUpon] at h4
        refine h5.wp fun x w' ⟨g1, g2⟩ => ?_
        subst g1 g2
        refine next (ev j) M w' (fun _ _ => rfl) hI (fun h => by rw [hMj] at h; cases h) (fun d hd => (h2 d hd).2.2) fun v hv ev' hev' => ?_
        have hext := ext (fun _ _ => rfl) hv
        have h6 := hwa' v hext ev' hev'
        rw [hw] at h6
        refine ⟨?_, fun hn => absurd hn hwild⟩
        have h7 := (hev'.st j oj hjn hoj).quiet h6 hwild w' ⟨M, hI⟩
        have hex' := (alike v hext ev' hev').exec (hm.sel j oj · · hoj)
        unfold Oper.quietAt at h4 h7
        rw [← hex', hex] at h7
        have hno := plain_no (P := P) hplain (fr ops a0 (fun _ => true) ev j).eval w'
        generalize (execOp (fr ops a0 (fun _ => true) ev j).eval oj).run P w' = r at *
        cases r with
        | ok n w2 =>
          cases n <;> simp only [Oper.quietUpon] at h4 h7
          case value u => rw [← h7.2, h4.2]
          case skip => rw [h7.2, h4.2]
          case enter f args => exact absurd rfl (hno w2 f args)
        | halt x w2 => simp only [Oper.quietUpon] at h4

/-- A region that draws its order, walked once. -/
theorem wp_region_many {id : Nat} {Q : Exit → Act → World → Prop} {a : Act} {w : World} {l : List Oper} (Inv : (Nat → Bool) → World → Prop) (V : Nat → Value → World → Prop) (wild : List Nat)
    (hmx : P.follows .mixedOrders = true) (hB : manyB .any l.toArray l.length wild = true) (hI : Inv (fun _ => false) w.drew) (Sh : Nat → Value → Prop) (hSh : ∀ k x w, V k x w → Sh k x) (v0 : Nat → Value) (hv0 : ∀ k, k ∈ wild → Sh k (v0 k))
    (h : ∀ v : Nat → Value, (∀ k, k ∈ wild → Sh k (v k)) → many P l.toArray .any Inv V wild v (fun a' w' => Q .normal a' w') [] 0 l a) : (Code.region id l.toArray true).wp P Q a w := by
  refine wp_region_any hmx ?_
  have hm := many_ok hB
  have hfr : fr l.toArray a ((Array.replicate l.toArray.size false).getD · false) (fun _ => undef) l.length = a := by
    have : ∀ n, fr l.toArray a ((Array.replicate l.toArray.size false).getD · false) (fun _ => undef) n = a := by
      intro n
      induction n with
      | zero => rfl
      | succ n ih => unfold fr; rw [ih, getD_replicate_false, if_neg (by simp)]
    exact this _
  have := many_any (md := .any) (g := 0) (Q' := Q) (Q := fun a' w' => Q .normal a' w') hm (fun L _ _ j hj => by
      obtain ⟨_, o, ho, _⟩ := mem_ready.1 hj
      simpa using (Array.getElem?_eq_some_iff.1 ho).1) (fun L a' w' inv hall hq => by
      refine ⟨?_, hq⟩
      cases hr : Region.ready .any l.toArray L with
      | nil => rfl
      | cons j r =>
        have hj : j ∈ Region.ready .any l.toArray L := by rw [hr]; simp
        obtain ⟨h0, o, ho, _⟩ := mem_ready.1 hj
        have := hall j (by simpa using (Array.getElem?_eq_some_iff.1 ho).1)
        rw [getD_both h0] at this
        cases this) (a0 := a) hSh hv0 (by simpa using h) l.length (Array.replicate l.toArray.size false) w.drew (fun _ => undef) (fun _ => false)
    ⟨by simp, fun j oj _ hl => (by rw [getD_replicate_false] at hl; cases hl), fun t h1 h2 => (by simp at h2; omega)⟩ (by
      have : (fun i => !(Array.replicate l.toArray.size false).getD i false) = fun _ => true := funext fun i => by rw [getD_replicate_false]; rfl
      rw [this]; simp) hI (fun d hd => by cases hd) (fun v _ ev _ k o hl => by rw [getD_replicate_false] at hl; cases hl)
  rw [hfr] at this
  simpa using this

/-- The same, the last operations in one forced order. -/
theorem wp_region_many_tail {id : Nat} {Q : Exit → Act → World → Prop} {a : Act} {w : World} {l : List Oper} (n : Nat) (Inv : (Nat → Bool) → World → Prop) (V : Nat → Value → World → Prop) (wild : List Nat)
    (hmx : P.follows .mixedOrders = true) (hB : manyB .any l.toArray n wild = true) (hB2 : (decide (n < l.length) && Region.sinkB .any l.toArray n && Region.chainB .any l.toArray n && Region.seqB .any l.toArray (l.length - n) n ((List.range l.length).map fun i => decide (i < n)).toArray) = true)
    (hI : Inv (fun _ => false) w.drew) (Sh : Nat → Value → Prop) (hSh : ∀ k x w, V k x w → Sh k x) (v0 : Nat → Value) (hv0 : ∀ k, k ∈ wild → Sh k (v0 k))
    (h : ∀ v : Nat → Value, (∀ k, k ∈ wild → Sh k (v k)) → many P l.toArray .any Inv V wild v (fun a' w' => wpList P l.toArray Q (l.drop n) a' w') [] 0 (l.take n) a) : (Code.region id l.toArray true).wp P Q a w := by
  refine wp_region_any hmx ?_
  have hm := many_ok hB
  simp only [Bool.and_eq_true, decide_eq_true_eq] at hB2
  obtain ⟨⟨⟨hn, hs⟩, hch⟩, hseq⟩ := hB2
  have hfr : fr l.toArray a ((Array.replicate l.toArray.size false).getD · false) (fun _ => undef) n = a := by
    have : ∀ n, fr l.toArray a ((Array.replicate l.toArray.size false).getD · false) (fun _ => undef) n = a := by
      intro n
      induction n with
      | zero => rfl
      | succ n ih => unfold fr; rw [ih, getD_replicate_false, if_neg (by simp)]
    exact this _
  have hdl : (l.drop n).length = l.length - n := by simp
  have := many_any (md := .any) (g := l.length - n) (Q' := Q) (Q := fun a' w' => wpList P l.toArray Q (l.drop n) a' w') hm (fun L inv hun j hj => by
      obtain ⟨i, hi, hl⟩ := hun
      rcases Nat.lt_or_ge j n with h' | h'
      · exact h'
      · exact absurd hj (tail_waits hs hch (by simpa using hn) inv _ i rfl hi (getD_in (by rw [inv.size]; simp; omega) hl) j h')) (fun L a' w' inv hall hq => by
      have hL : L = ((List.range l.length).map fun i => decide (i < n)).toArray := by
        refine Array.ext (by rw [inv.size]; simp) fun i h1 h2 => ?_
        have hil : i < l.length := by simpa using h2
        simp only [List.getElem_toArray, List.getElem_map, List.getElem_range]
        by_cases hi : i < n
        · have := hall i hi
          simp [h1] at this
          simp [this, hi]
        · have := getD_both (inv.tail i (by omega) (by simpa using hil))
          simp [h1] at this
          simp [this]; omega
      rw [← hL] at hseq
      have h5 := wpAny_of_seq (md := .any) (Q' := Q) (l.drop n) n L a' w' (fun j => by simp [List.getElem?_drop]) (by rw [hdl]; exact hseq) hq
      rwa [hdl] at h5) (a0 := a) hSh hv0 (by simpa using h) n (Array.replicate l.toArray.size false) w.drew (fun _ => undef) (fun _ => false)
    ⟨by simp, fun j oj _ hl => (by rw [getD_replicate_false] at hl; cases hl), fun t h1 h2 => getD_in (by simpa using h2) (getD_replicate_false _ _)⟩ (by
      have : (fun i => !(Array.replicate l.toArray.size false).getD i false) = fun _ => true := funext fun i => by rw [getD_replicate_false]; rfl
      rw [this]; simp) hI (fun d hd => by cases hd) (fun v _ ev _ k o hl => by rw [getD_replicate_false] at hl; cases hl)
  rw [hfr, show n + (l.length - n) = l.toArray.size by simp; omega] at this
  exact this
end
end Go.Proofs.YtnlhjhpikjmoaaaGreatDoor

namespace Go.Proofs.YtnlhjhpikjmoaaaGreatDoor
open Go.RowKit

/-- what an operation leaves: its value's shape, and what holds of it from then on -/
structure Sp where
  sh : Value → Prop
  wit : Value
  shw : sh wit
  F : Value → World → Prop
  shF : ∀ x w, F x w → sh x
  st : ∀ x w1 w2, Below w1.heap.size w1 w2 → F x w1 → F x w2
def Sp.any : Sp := ⟨fun _ => True, undef, trivial, fun _ _ => True, fun _ _ _ => trivial, fun _ _ _ _ h => h⟩
/-- just this value -/
def Sp.val (u : Value) : Sp := ⟨fun x => x = u, u, rfl, fun x _ => x = u, fun _ _ h => h, fun _ _ _ _ h => h⟩
/-- a slice that reads as a list -/
def Sp.rsl {α : Type} (E : Rel α) (ok : Nat → Prop) (l : List α) : Sp :=
  ⟨fun x => ∃ A c, x = .slice A l.length c ∧ l.length ≤ c, .slice none l.length l.length, ⟨none, l.length, rfl, Nat.le_refl _⟩, fun x w => RSl E ok w x l, fun x w h => by obtain ⟨A, c, hv, hc, _⟩ := h.form; exact ⟨A, c, hv, hc⟩, fun _ _ _ hb h => h.below hb⟩
def Sp.rb (ok : Nat → Prop) (l : List UInt8) : Sp := Sp.rsl rU8 ok l
/-- whatever holds from then on -/
def Sp.fact (F : Value → World → Prop) (hF : ∀ x w1 w2, Below w1.heap.size w1 w2 → F x w1 → F x w2) : Sp := ⟨fun _ => True, undef, trivial, F, fun _ _ _ => trivial, hF⟩

def spOf : List (Nat × Sp) → Nat → Sp
  | [], _ => Sp.any
  | (k, s) :: r, d => if d = k then s else spOf r d
def spV (L : List (Nat × Sp)) (k : Nat) (x : Value) (w : World) : Prop := (spOf L k).F x w

section
variable {P : Program} {ops : Array Oper} {md : Region.Mode} {w : World} {L : List (Nat × Sp)} {wild : List Nat} {v : Nat → Value} {Q : Act → World → Prop}
abbrev laterInv (w : World) : (Nat → Bool) → World → Prop := fun _ w' => Below w.heap.size w w'
abbrev manyL (P : Program) (ops : Array Oper) (w : World) (L : List (Nat × Sp)) (wild : List Nat) (v : Nat → Value) (Q : Act → World → Prop) (E : List Nat) (k : Nat) (l : List Oper) (a : Act) : Prop :=
  many P ops .any (laterInv w) (spV L) wild v Q E k l a

/-- operations that are quiet -/
theorem many_pre (n : Nat) {E : List Nat} {k : Nat} {l : List Oper} {a : Act} (hno : (List.range n).all (fun i => !wild.contains (k + i)) = true)
    (h : wpQuiet P ops (fun w' => ∃ s : Later w, w' = s.val) (fun a' => manyL P ops w L wild v Q E (k + n) (l.drop n) a') (l.take n) a) : manyL P ops w L wild v Q E k l a := by
  induction n generalizing k l a with
  | zero => simpa [wpQuiet] using h
  | succ n ih =>
    cases l with
    | nil => simpa [wpQuiet, many] using h
    | cons o l =>
      simp only [List.all_eq_true, List.mem_range] at hno
      have h0 : k ∉ wild := by have := hno 0 (by omega); simpa using this
      have hno' : (List.range n).all (fun i => !wild.contains (k + 1 + i)) = true := by
        simp only [List.all_eq_true, List.mem_range]
        intro i hi
        have := hno (i + 1) (by omega)
        rw [show k + 1 + i = k + (i + 1) by omega]
        exact this
      have next : ∀ a', wpQuiet P ops (fun w' => ∃ s : Later w, w' = s.val) (fun a' => manyL P ops w L wild v Q E (k + (n + 1)) ((o :: l).drop (n + 1)) a') (l.take n) a' → manyL P ops w L wild v Q E (k + 1) l a' := fun a' h' =>
        ih hno' (by
          have e : k + 1 + n = k + (n + 1) := by omega
          rw [e]; simpa using h')
      rw [List.take_succ_cons] at h
      unfold wpQuiet at h
      show many P ops .any _ _ wild v Q E k (o :: l) a
      unfold many
      split at h
      · rename_i hw
        rw [if_pos hw, if_neg h0]
        obtain ⟨u, h1, h2⟩ := h
        refine ⟨u, fun w' hw' => ?_, next _ h2⟩
        obtain ⟨M, hM⟩ := hw'
        have h3 := h1 w' ⟨⟨w', hM⟩, rfl⟩
        unfold Oper.quietAt at h3 ⊢
        generalize (execOp a.eval o).run P w' = r at *
        cases r with
        | ok n' w2 =>
          cases n' <;> simp only [Oper.quietUpon] at h3 ⊢ <;> try exact h3
          case enter f args => exact ⟨h3.1, h3.2.mono fun e w'' ⟨he, s, hs⟩ => ⟨he, fun _ => false, by rw [hs]; exact s.below⟩⟩
        | halt x w2 => simp only [Oper.quietUpon] at h3
      · rename_i hw
        rw [if_neg hw]
        exact next _ h

/-- an operation that makes memory, by its specification -/
theorem many_wild {E : List Nat} {k : Nat} {o : Oper} {rest : List Oper} {a : Act} (hk : wild.contains k = true) (hw : Region.wanted o (yielded ops a.tmps) = true)
    (h1 : ∀ s : Later w, (∀ d ∈ E, waitsB .any ops ops.size k d = true → (spOf L d).F (v d) s.val) → Gives P o a s.val fun x w' => (spOf L k).F x w' ∧ Below s.val.heap.size s.val w')
    (h2 : ∀ a', a.put o.dst (v k) = a' → manyL P ops w L wild v Q (k :: E) (k + 1) rest a') : manyL P ops w L wild v Q E k (o :: rest) a := by
  show many P ops .any _ _ wild v Q E k (o :: rest) a
  unfold many
  rw [if_pos hw, if_pos (by simpa using hk)]
  refine ⟨fun M w' hMk _ hE hI hV => ?_, h2 _ rfl⟩
  refine (h1 ⟨w', hI⟩ fun d hd hwt => hV d (hE d hd hwt)).mono fun x w2 ⟨g1, g2⟩ => ⟨g1, ?_, fun j x' _ h => (spOf L j).st x' _ _ g2 h⟩
  exact hI.trans (g2.mono hI.size)
theorem many_skip {E : List Nat} {k : Nat} {o : Oper} {rest : List Oper} {a : Act} (hw : Region.wanted o (yielded ops a.tmps) = false)
    (h2 : ∀ a', a.put o.dst undef = a' → manyL P ops w L wild v Q E (k + 1) rest a') : manyL P ops w L wild v Q E k (o :: rest) a := by
  show many P ops .any _ _ wild v Q E k (o :: rest) a
  unfold many
  rw [if_neg (by rw [hw]; decide)]
  exact h2 _ rfl
theorem many_end {E : List Nat} {k : Nat} {a : Act} (h : ∀ s : Later w, (∀ d ∈ E, (spOf L d).F (v d) s.val) → Q a s.val) : manyL P ops w L wild v Q E k [] a :=
  fun _ w' _ hI hV => h ⟨w', hI⟩ hV

theorem wp_later_many {id : Nat} {Q : Exit → Act → World → Prop} {a : Act} {l : List Oper} (L : List (Nat × Sp)) (wild : List Nat) (hmx : P.follows .mixedOrders = true) (hB : manyB .any l.toArray l.length wild = true)
    (h : ∀ v : Nat → Value, (∀ k, k ∈ wild → (spOf L k).sh (v k)) → manyL P l.toArray w L wild v (fun a' w' => Q .normal a' w') [] 0 l a) : (Code.region id l.toArray true).wp P Q a w :=
  wp_region_many (laterInv w) (spV L) wild hmx hB ((Below.refl _ _).drew) (fun k x => (spOf L k).sh x) (fun k x w h => (spOf L k).shF x w h) (fun k => (spOf L k).wit) (fun k _ => (spOf L k).shw) h
/-- the last operations in one forced order -/
theorem wp_later_many_tail {id : Nat} {Q : Exit → Act → World → Prop} {a : Act} {l : List Oper} (n : Nat) (L : List (Nat × Sp)) (wild : List Nat) (hmx : P.follows .mixedOrders = true) (hB : manyB .any l.toArray n wild = true)
    (hB2 : (decide (n < l.length) && Region.sinkB .any l.toArray n && Region.chainB .any l.toArray n && Region.seqB .any l.toArray (l.length - n) n ((List.range l.length).map fun i => decide (i < n)).toArray) = true)
    (h : ∀ v : Nat → Value, (∀ k, k ∈ wild → (spOf L k).sh (v k)) → manyL P l.toArray w L wild v (fun a' w' => wpList P l.toArray Q (l.drop n) a' w') [] 0 (l.take n) a) : (Code.region id l.toArray true).wp P Q a w :=
  wp_region_many_tail n (laterInv w) (spV L) wild hmx hB hB2 ((Below.refl _ _).drew) (fun k x => (spOf L k).sh x) (fun k x w h => (spOf L k).shF x w h) (fun k => (spOf L k).wit) (fun k _ => (spOf L k).shw) h

@[go_sem] theorem giv_enter {Φ : Value → World → Prop} {f : FuncId} {args : Array Value} {w' : World} : giv P Φ (.ok (.enter f args) w') = Calls P f args w' fun e w'' => ∃ x, e = .returned x ∧ Φ x w'' := rfl
@[go_sem] theorem giv_value {Φ : Value → World → Prop} {x : Value} {w' : World} : giv P Φ (.ok (.value x) w') = Φ x w' := rfl
@[go_sem] theorem giv_skip {Φ : Value → World → Prop} {w' : World} : giv P Φ (.ok .skip w') = Φ undef w' := rfl
end
end Go.Proofs.YtnlhjhpikjmoaaaGreatDoor
