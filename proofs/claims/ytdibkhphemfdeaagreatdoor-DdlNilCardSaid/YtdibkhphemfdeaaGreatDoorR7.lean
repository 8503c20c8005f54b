/- Contract: rows.Entry. -/
import Derived.Test.YtdibkhphemfdeaaGreatDoorR6
import Derived.Deep.DeepCutAuto
namespace Go.Proofs.YtdibkhphemfdeaaGreatDoor
open Go.RowKit

/-- an index's parts -/
structure IdxR (ok : Nat → Prop) (w : World) (a : Value) (d : IdxD) : Prop where
  cols : RSl rInt ok w a d.cols
  id : I64 d.id
  nm : d.name.size ≤ 9223372036854775807
theorem IdxR.below {ok : Nat → Prop} {w w' : World} {a : Value} {d : IdxD} (h : IdxR ok w a d) (hb : Below w.heap.size w w') : IdxR ok w' a d := ⟨h.cols.below hb, h.id, h.nm⟩
/-- a row's entry -/
def entryV (t : TabD) (x : IdxD) (row : List Val) : List UInt8 × List UInt8 :=
  if mayAll t.cols row then
    (if x.uniq && !hasNull (pickV row x.cols) then (headB 120 x.id ++ (encSpec (pickV row x.cols)).1, nameB t (keyV t row))
     else (headB 120 x.id ++ (encSpec (pickV row x.cols)).1 ++ (encSpec (keyV t row)).1, []))
  else ([], [])
theorem entryV_no {t : TabD} {x : IdxD} {row : List Val} (h : mayAll t.cols row = false) : entryV t x row = ([], []) := by unfold entryV; rw [h]; rfl
theorem entryV_u {t : TabD} {x : IdxD} {row : List Val} (h : mayAll t.cols row = true) (h2 : x.uniq = true) (h3 : hasNull (pickV row x.cols) = false) : entryV t x row = (headB 120 x.id ++ (encSpec (pickV row x.cols)).1, nameB t (keyV t row)) := by
  unfold entryV; rw [h, h2, h3]; rfl
theorem entryV_n {t : TabD} {x : IdxD} {row : List Val} (h : mayAll t.cols row = true) (h2 : x.uniq = false ∨ hasNull (pickV row x.cols) = true) : entryV t x row = (headB 120 x.id ++ (encSpec (pickV row x.cols)).1 ++ (encSpec (keyV t row)).1, []) := by
  unfold entryV; rw [h]
  rcases h2 with h2 | h2 <;> rw [h2] <;> simp

/-- a result that lies in memory: three cells read -/
theorem set3_cells {w : World} {g : Nat} {t : TypeId} {x0 x1 x2 : Value} (h : Blk w g t #[x0, x1, x2]) : w.cell? ⟨g, 0, none⟩ = some x0 ∧ w.cell? ⟨g, 1, none⟩ = some x1 ∧ w.cell? ⟨g, 2, none⟩ = some x2 := ⟨h.cell 0, h.cell 1, h.cell 2⟩
theorem kp_set3 {ok : Nat → Prop} {w : World} {g : Nat} (hg : ¬ ok g) (x0 x1 x2 : Value) : Kp ok w (((w.setCell ⟨g, 0, none⟩ x0).setCell ⟨g, 1, none⟩ x1).setCell ⟨g, 2, none⟩ x2) :=
  (((Kp.refl _ _).setCell (fun _ h => hg h) _).setCell (fun _ h => hg h) _).setCell (fun _ h => hg h) _
theorem below_set3 {B : Nat} {a w : World} (h : Below B a w) {g : Nat} (hg : B ≤ g) (x0 x1 x2 : Value) : Below B a (((w.setCell ⟨g, 0, none⟩ x0).setCell ⟨g, 1, none⟩ x1).setCell ⟨g, 2, none⟩ x2) :=
  ((h.setCell hg _).setCell hg _).setCell hg _
theorem nameB_len (t : TabD) (key : List Val) : (nameB t key).length ≤ 698 := by
  unfold nameB
  split
  · have := encSpec_len key
    rw [List.length_append, headB_length]; omega
  · simp
theorem keyV_len (t : TabD) (row : List Val) : (keyV t row).length ≤ t.key.length := by
  unfold keyV
  split
  · exact pickV_length_le _ _
  · simp

/-- append(s, x...) of bytes onto a row of one's own: what else there is stays -/
theorem wp_app_bytesK {ops : Array Oper} {rest : List Oper} {o : Oper} {a : Act} {Q : Exit → Act → World → Prop} (hgd : o.guard = none) (s x : Operand)
    (ho : o.op = .call { callee := .builtin .append, args := #[s, x], argTypes := #[31, 31] })
    (base : Nat) (A0 : Option Addr) (n c0 : Nat) (l : List UInt8) (w : World) (hs : a.eval s = .slice A0 n c0) (hown : OwnB base w A0 n c0 l)
    (A : Option Addr) (m c : Nat) (l2 : List UInt8) (hx : a.eval x = .slice A m c) (hr : Rd w 1 A m (bs l2)) (hlen : n + m ≤ 140737488355328) (hbase : base ≤ w.heap.size)
    (h : ∀ A' c' w', OwnB base w' A' (n + m) c' (l ++ l2) → Below base w w' → Kp (fun b => some b ≠ (Value.slice A0 n c0).ownBlock) w w' → ((Value.slice A' (n + m) c').ownBlock = (Value.slice A0 n c0).ownBlock ∨ (Value.slice A' (n + m) c').ownBlock = some w.heap.size) → wpList Tryz.prog ops Q rest (a.put o.dst (.slice A' (n + m) c')) w') : wpList Tryz.prog ops Q (o :: rest) a w := by
  have hl : l.length = n := hown.len
  have hl2 : l2.length = m := by have := hr.1; simpa using this
  subst hl hl2
  obtain ⟨h1, h2⟩ := bytes_chunks (fun b => True ∧ some b ≠ (Value.slice A0 l.length c0).ownBlock) w l
  obtain ⟨h3, h4⟩ := bytes_chunks (fun b => True ∧ some b ≠ (Value.slice A0 l.length c0).ownBlock) w l2
  have ho' : OwnL rU8 (fun _ => True) base 5 w (.slice A0 l.length c0) l := ⟨_, by rw [h2]; exact hown, h1⟩
  refine wp_app (E := rU8) (tE := 5) (rowTy_mk Tryz.underlying31 (by kernel_rfl)) (by decide) hgd s x ho _ l w hs ho' A c l2 _ hx (by rw [h4]; exact hr) h3 (by show _ * 1 ≤ _; omega) hlen hbase fun v' w' g1 g2 g3 => ?_
  obtain ⟨A', c', rfl, _⟩ := g1.form
  obtain ⟨css, g4, g5⟩ := g1
  have g6 := h A' c' w' (by
    rw [chunks_bytes g5, List.length_append] at g4
    exact g4) (ho'.bel g2 hbase) g2 (by simpa [Value.ownBlock] using g3)
  rw [List.length_append]
  exact g6
theorem ownB_block {A : Option Addr} {n c b : Nat} (h : ¬ some b ≠ (Value.slice A n c).ownBlock) : ∃ g, A = some g ∧ g.block = b := by
  have h' : some b = (Value.slice A n c).ownBlock := Classical.byContradiction h
  cases A with
  | none => simp [Value.ownBlock] at h'
  | some g => exact ⟨g, rfl, by simpa [Value.ownBlock] using h'.symm⟩

end Go.Proofs.YtdibkhphemfdeaaGreatDoor
