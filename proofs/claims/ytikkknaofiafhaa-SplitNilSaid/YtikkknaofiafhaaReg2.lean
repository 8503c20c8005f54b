/- Drawn regions walked once: the words for a walk. What an operation leaves is said by a specification of its own. No program in sight. -/
import Derived.Test.YtikkknaofiafhaaReg
import Derived.Test.YtikkknaofiafhaaDat
namespace Go.Proofs.Ytikkknaofiafhaa
open Go.RowKit

/-- what an operation leaves: its value's shape, and what holds of it from then on -/
structure Sp where
  sh : Value → Prop
  wit : Value
  shw : sh wit
  F : Value → World → Prop
  shF : ∀ x w, F x w → sh x
  st : ∀ x w1 w2, Below w1.heap.size w1 w2 → F x w1 → F x w2
def Sp.any : Sp := ⟨fun _ => True, undef, trivial, fun _ _ => True, fun _ _ _ => trivial, fun _ _ _ _ h => h⟩
/-- just this value -/
def Sp.val (u : Value) : Sp := ⟨fun x => x = u, u, rfl, fun x _ => x = u, fun _ _ h => h, fun _ _ _ _ h => h⟩
/-- a slice that reads as a list -/
def Sp.rsl {α : Type} (E : Rel α) (ok : Nat → Prop) (l : List α) : Sp :=
  ⟨fun x => ∃ A c, x = .slice A l.length c ∧ l.length ≤ c, .slice none l.length l.length, ⟨none, l.length, rfl, Nat.le_refl _⟩, fun x w => RSl E ok w x l, fun x w h => by obtain ⟨A, c, hv, hc, _⟩ := h.form; exact ⟨A, c, hv, hc⟩, fun _ _ _ hb h => h.below hb⟩
def Sp.rb (ok : Nat → Prop) (l : List UInt8) : Sp := Sp.rsl rU8 ok l
/-- whatever holds from then on -/
def Sp.fact (F : Value → World → Prop) (hF : ∀ x w1 w2, Below w1.heap.size w1 w2 → F x w1 → F x w2) : Sp := ⟨fun _ => True, undef, trivial, F, fun _ _ _ => trivial, hF⟩

def spOf : List (Nat × Sp) → Nat → Sp
  | [], _ => Sp.any
  | (k, s) :: r, d => if d = k then s else spOf r d
def spV (L : List (Nat × Sp)) (k : Nat) (x : Value) (w : World) : Prop := (spOf L k).F x w

section
variable {P : Program} {ops : Array Oper} {md : Region.Mode} {w : World} {L : List (Nat × Sp)} {wild : List Nat} {v : Nat → Value} {Q : Act → World → Prop}
abbrev laterInv (w : World) : (Nat → Bool) → World → Prop := fun _ w' => Below w.heap.size w w'
abbrev manyL (P : Program) (ops : Array Oper) (w : World) (L : List (Nat × Sp)) (wild : List Nat) (v : Nat → Value) (Q : Act → World → Prop) (E : List Nat) (k : Nat) (l : List Oper) (a : Act) : Prop :=
  many P ops .any (laterInv w) (spV L) wild v Q E k l a

/-- operations that are quiet -/
theorem many_pre (n : Nat) {E : List Nat} {k : Nat} {l : List Oper} {a : Act} (hno : (List.range n).all (fun i => !wild.contains (k + i)) = true)
    (h : wpQuiet P ops (fun w' => ∃ s : Later w, w' = s.val) (fun a' => manyL P ops w L wild v Q E (k + n) (l.drop n) a') (l.take n) a) : manyL P ops w L wild v Q E k l a := by
  induction n generalizing k l a with
  | zero => simpa [wpQuiet] using h
  | succ n ih =>
    cases l with
    | nil => simpa [wpQuiet, many] using h
    | cons o l =>
      simp only [List.all_eq_true, List.mem_range] at hno
      have h0 : k ∉ wild := by have := hno 0 (by omega); simpa using this
      have hno' : (List.range n).all (fun i => !wild.contains (k + 1 + i)) = true := by
        simp only [List.all_eq_true, List.mem_range]
        intro i hi
        have := hno (i + 1) (by omega)
        rw [show k + 1 + i = k + (i + 1) by omega]
        exact this
      have next : ∀ a', wpQuiet P ops (fun w' => ∃ s : Later w, w' = s.val) (fun a' => manyL P ops w L wild v Q E (k + (n + 1)) ((o :: l).drop (n + 1)) a') (l.take n) a' → manyL P ops w L wild v Q E (k + 1) l a' := fun a' h' =>
        ih hno' (by
          have e : k + 1 + n = k + (n + 1) := by omega
          rw [e]; simpa using h')
      rw [List.take_succ_cons] at h
      unfold wpQuiet at h
      show many P ops .any _ _ wild v Q E k (o :: l) a
      unfold many
      split at h
      · rename_i hw
        rw [if_pos hw, if_neg h0]
        obtain ⟨u, h1, h2⟩ := h
        refine ⟨u, fun w' hw' => ?_, next _ h2⟩
        obtain ⟨M, hM⟩ := hw'
        have h3 := h1 w' ⟨⟨w', hM⟩, rfl⟩
        unfold Oper.quietAt at h3 ⊢
        generalize (execOp a.eval o).run P w' = r at *
        cases r with
        | ok n' w2 =>
          cases n' <;> simp only [Oper.quietUpon] at h3 ⊢ <;> try exact h3
          case enter f args => exact ⟨h3.1, h3.2.mono fun e w'' ⟨he, s, hs⟩ => ⟨he, fun _ => false, by rw [hs]; exact s.below⟩⟩
        | halt x w2 => simp only [Oper.quietUpon] at h3
      · rename_i hw
        rw [if_neg hw]
        exact next _ h

/-- an operation that makes memory, by its specification -/
theorem many_wild {E : List Nat} {k : Nat} {o : Oper} {rest : List Oper} {a : Act} (hk : wild.contains k = true) (hw : Region.wanted o (yielded ops a.tmps) = true)
    (h1 : ∀ s : Later w, (∀ d ∈ E, waitsB .any ops ops.size k d = true → (spOf L d).F (v d) s.val) → Gives P o a s.val fun x w' => (spOf L k).F x w' ∧ Below s.val.heap.size s.val w')
    (h2 : ∀ a', a.put o.dst (v k) = a' → manyL P ops w L wild v Q (k :: E) (k + 1) rest a') : manyL P ops w L wild v Q E k (o :: rest) a := by
  show many P ops .any _ _ wild v Q E k (o :: rest) a
  unfold many
  rw [if_pos hw, if_pos (by simpa using hk)]
  refine ⟨fun M w' hMk _ hE hI hV => ?_, h2 _ rfl⟩
  refine (h1 ⟨w', hI⟩ fun d hd hwt => hV d (hE d hd hwt)).mono fun x w2 ⟨g1, g2⟩ => ⟨g1, ?_, fun j x' _ h => (spOf L j).st x' _ _ g2 h⟩
  exact hI.trans (g2.mono hI.size)
theorem many_skip {E : List Nat} {k : Nat} {o : Oper} {rest : List Oper} {a : Act} (hw : Region.wanted o (yielded ops a.tmps) = false)
    (h2 : ∀ a', a.put o.dst undef = a' → manyL P ops w L wild v Q E (k + 1) rest a') : manyL P ops w L wild v Q E k (o :: rest) a := by
  show many P ops .any _ _ wild v Q E k (o :: rest) a
  unfold many
  rw [if_neg (by rw [hw]; decide)]
  exact h2 _ rfl
theorem many_end {E : List Nat} {k : Nat} {a : Act} (h : ∀ s : Later w, (∀ d ∈ E, (spOf L d).F (v d) s.val) → Q a s.val) : manyL P ops w L wild v Q E k [] a :=
  fun _ w' _ hI hV => h ⟨w', hI⟩ hV

theorem wp_later_many {id : Nat} {Q : Exit → Act → World → Prop} {a : Act} {l : List Oper} (L : List (Nat × Sp)) (wild : List Nat) (hmx : P.follows .mixedOrders = true) (hB : manyB .any l.toArray l.length wild = true)
    (h : ∀ v : Nat → Value, (∀ k, k ∈ wild → (spOf L k).sh (v k)) → manyL P l.toArray w L wild v (fun a' w' => Q .normal a' w') [] 0 l a) : (Code.region id l.toArray true).wp P Q a w :=
  wp_region_many (laterInv w) (spV L) wild hmx hB ((Below.refl _ _).drew) (fun k x => (spOf L k).sh x) (fun k x w h => (spOf L k).shF x w h) (fun k => (spOf L k).wit) (fun k _ => (spOf L k).shw) h
/-- the last operations in one forced order -/
theorem wp_later_many_tail {id : Nat} {Q : Exit → Act → World → Prop} {a : Act} {l : List Oper} (n : Nat) (L : List (Nat × Sp)) (wild : List Nat) (hmx : P.follows .mixedOrders = true) (hB : manyB .any l.toArray n wild = true)
    (hB2 : (decide (n < l.length) && Region.sinkB .any l.toArray n && Region.chainB .any l.toArray n && Region.seqB .any l.toArray (l.length - n) n ((List.range l.length).map fun i => decide (i < n)).toArray) = true)
    (h : ∀ v : Nat → Value, (∀ k, k ∈ wild → (spOf L k).sh (v k)) → manyL P l.toArray w L wild v (fun a' w' => wpList P l.toArray Q (l.drop n) a' w') [] 0 (l.take n) a) : (Code.region id l.toArray true).wp P Q a w :=
  wp_region_many_tail n (laterInv w) (spV L) wild hmx hB hB2 ((Below.refl _ _).drew) (fun k x => (spOf L k).sh x) (fun k x w h => (spOf L k).shF x w h) (fun k => (spOf L k).wit) (fun k _ => (spOf L k).shw) h

@[go_sem] theorem giv_enter {Φ : Value → World → Prop} {f : FuncId} {args : Array Value} {w' : World} : giv P Φ (.ok (.enter f args) w') = Calls P f args w' fun e w'' => ∃ x, e = .returned x ∧ Φ x w'' := rfl
@[go_sem] theorem giv_value {Φ : Value → World → Prop} {x : Value} {w' : World} : giv P Φ (.ok (.value x) w') = Φ x w' := rfl
@[go_sem] theorem giv_skip {Φ : Value → World → Prop} {w' : World} : giv P Φ (.ok .skip w') = Φ undef w' := rfl
end
end Go.Proofs.Ytikkknaofiafhaa
