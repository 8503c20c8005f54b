/- Contract: rows.parts. -/
import Derived.Test.YthjicmdmhmffmaaDoorR7
import Derived.Test.YthjicmdmhmffmaaDoorC10
namespace Go.Proofs.YthjicmdmhmffmaaDoor
open Go.RowKit

theorem takeD_ok {l r : List UInt8} {v : Val} (h : takeD l = .inl (v, r)) : v.ok := by
  cases l with
  | nil => simp [takeD] at h
  | cons b t =>
    rw [takeD] at h
    split at h
    · simp only [Sum.inl.injEq, Prod.mk.injEq] at h
      rw [← h.1]; unfold Val.ok; decide
    · split at h
      · split at h
        · cases h
        · simp only [Sum.inl.injEq, Prod.mk.injEq] at h
          rw [← h.1]
          have := beNat_small8 t
          unfold Val.ok
          simp only
          omega
      · split at h
        · split at h
          · simp only [Sum.inl.injEq, Prod.mk.injEq] at h
            rw [← h.1]
            refine ⟨?_, ?_⟩ <;> simp only <;> omega
          · cases h
        · cases h
theorem decD_okV : ∀ (f : Nat) (acc : List Val) (l : List UInt8), okVals acc → okVals (decD f acc l).1
  | f, acc, [], h => by
    have : decD f acc [] = if 16 < acc.length then ([], 10) else (acc, 0) := by cases f <;> rfl
    rw [this]
    split
    · intro x hx; cases hx
    · exact h
  | 0, acc, _ :: _, h => by intro x hx; simp [decD] at hx
  | f + 1, acc, b :: l, h => by
    rw [decD]
    cases ht : takeD (b :: l) with
    | inr e => intro x hx; simp at hx
    | inl p =>
      obtain ⟨v, r⟩ := p
      refine decD_okV f (acc ++ [v]) r fun x hx => ?_
      rcases List.mem_append.1 hx with hx | hx
      · exact h x hx
      · simp at hx; subst hx; exact takeD_ok ht
theorem decB_ok (l : List UInt8) : okVals (decB l).1 := decD_okV _ _ _ fun x hx => by cases hx
theorem decD_len : ∀ (f : Nat) (acc : List Val) (l : List UInt8), (decD f acc l).1.length ≤ 16
  | f, acc, [] => by
    have : decD f acc [] = if 16 < acc.length then ([], 10) else (acc, 0) := by cases f <;> rfl
    rw [this]
    split
    · simp
    · simp only; omega
  | 0, acc, _ :: _ => by simp [decD]
  | f + 1, acc, b :: l => by
    rw [decD]
    cases ht : takeD (b :: l) with
    | inr e => simp
    | inl p => exact decD_len f _ _
theorem decB_len (l : List UInt8) : (decB l).1.length ≤ 16 := decD_len _ _ _
/-- a slice and a Bool -/
def Sp.cut (ok : Nat → Prop) (l : List UInt8) (b : Bool) : Sp :=
  ⟨fun x => ∃ A c, x = .tuple #[.slice A l.length c, .bool b], .tuple #[.slice none l.length l.length, .bool b], ⟨none, l.length, rfl⟩, fun x w => ∃ A c, x = .tuple #[.slice A l.length c, .bool b] ∧ RB ok w (.slice A l.length c) l,
    fun _ _ ⟨A, c, h, _⟩ => ⟨A, c, h⟩, fun _ _ _ hb ⟨A, c, h, hr⟩ => ⟨A, c, h, hr.below hb⟩⟩

def partsV (t : TabD) (x : IdxD) (pk pv : List UInt8) : List Val × List Val × Bool :=
  if preB pk (headB 120 x.id) && ((decB (cutB pk (headB 120 x.id))).2 == 0 && decide (x.cols.length ≤ (decB (cutB pk (headB 120 x.id))).1.length)) then
    (if x.uniq && !hasNull ((decB (cutB pk (headB 120 x.id))).1.take x.cols.length) then
      ((decB (cutB pk (headB 120 x.id))).1, (decB (cutB pv (headB 114 t.id))).1, preB pv (headB 114 t.id) && ((decB (cutB pv (headB 114 t.id))).2 == 0 && decide ((decB (cutB pk (headB 120 x.id))).1.length = x.cols.length)))
     else ((decB (cutB pk (headB 120 x.id))).1.take x.cols.length, (decB (cutB pk (headB 120 x.id))).1.drop x.cols.length, decide (pv = [])))
  else ([], [], false)
theorem cutB_len (l p : List UInt8) : (cutB l p).length ≤ l.length := by unfold cutB; split <;> simp

def PartsPost (t : TabD) (x : IdxD) (pk pv : List UInt8) (w : World) (e : Ending) (w' : World) : Prop :=
  (∃ v1 v2, e = .returned (.tuple #[v1, v2, .bool (partsV t x pk pv).2.2]) ∧ RV (fun b => w.heap.size ≤ b) w' v1 (partsV t x pk pv).1 ∧ RV (fun b => w.heap.size ≤ b) w' v2 (partsV t x pk pv).2.1) ∧ Below w.heap.size w w'
theorem partsPost_no {t : TabD} {x : IdxD} {pk pv : List UInt8} {w w' : World} (h : (preB pk (headB 120 x.id) && ((decB (cutB pk (headB 120 x.id))).2 == 0 && decide (x.cols.length ≤ (decB (cutB pk (headB 120 x.id))).1.length))) = false) (hb : Below w.heap.size w w') :
    PartsPost t x pk pv w (.returned (.tuple #[.slice none 0 0, .slice none 0 0, .bool false])) w' := by
  unfold PartsPost partsV
  rw [h]
  exact ⟨⟨_, _, rfl, RSl.nil_ _ _ _, RSl.nil_ _ _ _⟩, hb⟩

theorem partsV_n {t : TabD} {x : IdxD} {pk pv : List UInt8} (h : preB pk (headB 120 x.id) = true) (h2 : (decB (cutB pk (headB 120 x.id))).2 = 0) (h3 : x.cols.length ≤ (decB (cutB pk (headB 120 x.id))).1.length)
    (h4 : x.uniq = false ∨ hasNull ((decB (cutB pk (headB 120 x.id))).1.take x.cols.length) = true) :
    partsV t x pk pv = ((decB (cutB pk (headB 120 x.id))).1.take x.cols.length, (decB (cutB pk (headB 120 x.id))).1.drop x.cols.length, decide (pv = [])) := by
  unfold partsV
  rw [if_pos (by simp [h, h2, h3]), if_neg (by rcases h4 with h4 | h4 <;> simp [h4])]
theorem partsV_u {t : TabD} {x : IdxD} {pk pv : List UInt8} (h : preB pk (headB 120 x.id) = true) (h2 : (decB (cutB pk (headB 120 x.id))).2 = 0) (h3 : x.cols.length ≤ (decB (cutB pk (headB 120 x.id))).1.length)
    (h4 : x.uniq = true) (h5 : hasNull ((decB (cutB pk (headB 120 x.id))).1.take x.cols.length) = false) :
    partsV t x pk pv = ((decB (cutB pk (headB 120 x.id))).1, (decB (cutB pv (headB 114 t.id))).1, preB pv (headB 114 t.id) && ((decB (cutB pv (headB 114 t.id))).2 == 0 && decide ((decB (cutB pk (headB 120 x.id))).1.length = x.cols.length))) := by
  unfold partsV
  rw [if_pos (by simp [h, h2, h3]), if_pos (by simp [h4, h5])]

end Go.Proofs.YthjicmdmhmffmaaDoor
