/- The operations of a plain region walked in two parts; blocks stored in their middle; whole structs read and stored at an operation. No program in sight. -/
import Derived.Test.YtnlhjhpikjmoaaaGreatDoorCmd
import Derived.Test.YtnlhjhpikjmoaaaGreatDoorSeqG
namespace Go.Proofs.YtnlhjhpikjmoaaaGreatDoor
open Go.RowKit

section
variable {P : Program} {ops : Array Oper} {Q : Exit → Act → World → Prop}
/-- behind the first part the second one -/
def thenL (P : Program) (ops : Array Oper) (Q : Exit → Act → World → Prop) (r : List Oper) : Exit → Act → World → Prop
  | .normal, a, w => wpList P ops Q r a w
  | x, a, w => Q x a w
theorem upon_thenL {o : Oper} {a : Act} {r : List Oper} {K K' : Act → World → Prop} (h : ∀ a w, K' a w → K a w) : ∀ {y : Result Next}, o.upon P a K' (thenL P ops Q r) y → o.upon P a K Q y := by
  intro y hy
  unfold Oper.upon at hy ⊢
  split at hy
  · exact h _ _ hy
  · exact h _ _ hy
  · exact h _ _ hy
  · refine Calls.mono hy fun e w' he => ?_
    cases e with
    | returned v => exact h _ _ he
    | panicked chain => exact he
    | outgrown => exact he
  · refine Rows.mono hy fun v w' he => h _ _ he
  · exact hy
  · exact hy.elim
theorem wpList_app : ∀ (l r : List Oper) {a : Act} {w : World}, wpList P ops (thenL P ops Q r) l a w → wpList P ops Q (l ++ r) a w
  | [], _, _, _, h => h
  | o :: l, r, a, w, h => by
    rw [List.cons_append]
    unfold wpList at h ⊢
    split at h
    · rename_i hw
      rw [if_pos hw]
      rcases h with h | ⟨h1, h2⟩
      · exact .inl (upon_thenL (fun a' w' => wpList_app l r) h)
      · exact .inr ⟨h1, h2⟩
    · rename_i hw
      rw [if_neg hw]
      exact wpList_app l r h
theorem wpList_split (n : Nat) {l : List Oper} {a : Act} {w : World} (h : wpList P ops (thenL P ops Q (l.drop n)) (l.take n) a w) : wpList P ops Q l a w := by
  have := wpList_app (l.take n) (l.drop n) h
  rwa [List.take_append_drop] at this
theorem wp_region_split (n : Nat) {id : Nat} {l : List Oper} {a : Act} {w : World} (h : wpList P l.toArray (thenL P l.toArray Q (l.drop n)) (l.take n) a w) : (Code.region id l.toArray false).wp P Q a w := wp_region_lit (wpList_split n h)
end
theorem foldl_set_at (vs : List Value) (o : Nat) : ∀ (n : Nat) (C : Array Value), n ≤ vs.length → o + vs.length ≤ C.size → ((List.range n).foldl (fun a i => a.setIfInBounds (o + i) (vs.getD i undef)) C).toList = C.toList.take o ++ vs.take n ++ C.toList.drop (o + n)
  | 0, C, _, hs => by simp
  | n + 1, C, hn, hs => by
    have h1 := foldl_set_at vs o n C (by omega) hs
    rw [List.range_succ, List.foldl_append, List.foldl_cons, List.foldl_nil, Array.toList_setIfInBounds, h1]
    have hl : (C.toList.take o ++ vs.take n).length = o + n := by simp; omega
    have hlt : o + n < C.toList.length := by simp; omega
    have hd : C.toList.drop (o + n) = C.toList[o + n] :: C.toList.drop (o + n + 1) := List.drop_eq_getElem_cons hlt
    rw [hd, List.set_append_right _ _ (by omega), hl, Nat.sub_self, List.set_cons_zero, List.take_succ_eq_append_getElem (by omega)]
    have e : vs.getD n undef = vs[n] := by simp [List.getD, List.getElem?_eq_getElem (show n < vs.length by omega)]
    rw [e]
    simp only [List.append_assoc, List.cons_append, List.nil_append, Nat.add_assoc]
section
variable {w : World} {g : Nat} {T : TypeId}
theorem Blk.there_at {C : Array Value} (h : Blk w g T C) (o n : Nat) (hn : o + n ≤ C.size) : w.there g o n := fun j hj => by
  exact ⟨by rw [h.cell (o + j), Array.getElem?_eq_getElem (by omega)]; rfl, h.frozen (o + j)⟩
theorem Blk.setCells_mid {A C B : Array Value} (h : Blk w g T (A ++ C ++ B)) (cs : Array Value) (hs : cs.size = C.size) : Blk (w.setCells g A.size cs.toList) g T (A ++ cs ++ B) := by
  have h1 := h.setCells_at cs.toList A.size
  have h2 := foldl_set_at cs.toList A.size cs.toList.length (A ++ C ++ B) (Nat.le_refl _) (by simp; omega)
  have h3 : (List.range cs.toList.length).foldl (fun a i => a.setIfInBounds (A.size + i) (cs.toList.getD i undef)) (A ++ C ++ B) = A ++ cs ++ B := by
    refine Array.ext' ?_
    rw [h2, List.take_length]
    simp only [Array.toList_append, Array.length_toList]
    have e1 : (A.toList ++ C.toList ++ B.toList).take A.size = A.toList := by rw [List.append_assoc]; exact List.take_left' (by simp)
    have e2 : (A.toList ++ C.toList ++ B.toList).drop (A.size + cs.size) = B.toList := List.drop_left' (by simp [hs])
    rw [e1, e2]
  rwa [h3] at h1
end
end Go.Proofs.YtnlhjhpikjmoaaaGreatDoor
