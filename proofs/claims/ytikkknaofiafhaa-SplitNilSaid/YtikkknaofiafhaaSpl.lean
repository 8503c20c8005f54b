/- The operations of a plain region walked in two parts. No program in sight. -/
import Derived.Test.YtikkknaofiafhaaCmd
namespace Go.Proofs.Ytikkknaofiafhaa
open Go.RowKit

section
variable {P : Program} {ops : Array Oper} {Q : Exit → Act → World → Prop}
/-- behind the first part the second one -/
def thenL (P : Program) (ops : Array Oper) (Q : Exit → Act → World → Prop) (r : List Oper) : Exit → Act → World → Prop
  | .normal, a, w => wpList P ops Q r a w
  | x, a, w => Q x a w
theorem upon_thenL {o : Oper} {a : Act} {r : List Oper} {K K' : Act → World → Prop} (h : ∀ a w, K' a w → K a w) : ∀ {y : Result Next}, o.upon P a K' (thenL P ops Q r) y → o.upon P a K Q y := by
  intro y hy
  unfold Oper.upon at hy ⊢
  split at hy
  · exact h _ _ hy
  · exact h _ _ hy
  · exact h _ _ hy
  · refine Calls.mono hy fun e w' he => ?_
    cases e with
    | returned v => exact h _ _ he
    | panicked chain => exact he
    | outgrown => exact he
  · refine Rows.mono hy fun v w' he => h _ _ he
  · exact hy
  · exact hy.elim
theorem wpList_app : ∀ (l r : List Oper) {a : Act} {w : World}, wpList P ops (thenL P ops Q r) l a w → wpList P ops Q (l ++ r) a w
  | [], _, _, _, h => h
  | o :: l, r, a, w, h => by
    rw [List.cons_append]
    unfold wpList at h ⊢
    split at h
    · rename_i hw
      rw [if_pos hw]
      rcases h with h | ⟨h1, h2⟩
      · exact .inl (upon_thenL (fun a' w' => wpList_app l r) h)
      · exact .inr ⟨h1, h2⟩
    · rename_i hw
      rw [if_neg hw]
      exact wpList_app l r h
theorem wpList_split (n : Nat) {l : List Oper} {a : Act} {w : World} (h : wpList P ops (thenL P ops Q (l.drop n)) (l.take n) a w) : wpList P ops Q l a w := by
  have := wpList_app (l.take n) (l.drop n) h
  rwa [List.take_append_drop] at this
theorem wp_region_split (n : Nat) {id : Nat} {l : List Oper} {a : Act} {w : World} (h : wpList P l.toArray (thenL P l.toArray Q (l.drop n)) (l.take n) a w) : (Code.region id l.toArray false).wp P Q a w := wp_region_lit (wpList_split n h)
end
end Go.Proofs.Ytikkknaofiafhaa
