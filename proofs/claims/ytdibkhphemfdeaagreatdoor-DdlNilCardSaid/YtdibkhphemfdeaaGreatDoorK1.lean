/- Contracts: help.In[int], ref12.Name, ref12.places.
Contract: ref12.TableRight.
Catalogs as data; contract: ref12.ByID. -/
import Derived.Test.YtdibkhphemfdeaaGreatDoorR3
import Derived.Test.YtdibkhphemfdeaaGreatDoorReg
import Derived.Test.YtdibkhphemfdeaaGreatDoorDat
import Derived.Outline
import Derived.Deep.DeepCutAuto
import Derived.Test.YtdibkhphemfdeaaGreatDoorR7
namespace Go.Proofs.YtdibkhphemfdeaaGreatDoor
open Go.RowKit

/-- a yes just if p -/
def RetB (e : Ending) (p : Prop) : Prop := ∃ b, e = .returned (.bool b) ∧ (b = true ↔ p)
theorem RetB.mk {v : Value} {p : Prop} (b : Bool) (hv : v = .bool b) (h : b = true ↔ p) : RetB (.returned v) p := ⟨b, by rw [hv], h⟩
theorem RetB.yes {v : Value} {p : Prop} (hv : v = .bool true) (h : p) : RetB (.returned v) p := ⟨true, by rw [hv], by simp [h]⟩
theorem RetB.no {v : Value} {p : Prop} (hv : v = .bool false) (h : ¬ p) : RetB (.returned v) p := ⟨false, by rw [hv], by simp [h]⟩

def ChOk (m : Nat) : Prop := (97 ≤ m ∧ m ≤ 122) ∨ (48 ≤ m ∧ m ≤ 57) ∨ m = 95
def NameOk (s : ByteArray) : Prop := (∀ i (h : i < s.size), ChOk s[i].toNat) ∧ 1 ≤ s.size ∧ s.size ≤ 20

def PlacesOk (l : List Int) (n : Int) : Prop := (∀ i (h : i < l.length), 0 ≤ l[i] ∧ l[i] < n ∧ l[i] ∉ l.take i) ∧ 1 ≤ l.length ∧ l.length ≤ 6

end Go.Proofs.YtdibkhphemfdeaaGreatDoor

namespace Go.Proofs.YtdibkhphemfdeaaGreatDoor
open Go.RowKit

theorem strNe {a b : ByteArray} (h : a ≠ b) : (a.toList == b.toList) = false := by
  rw [beq_eq_false_iff_ne]
  exact fun e => h (toList_inj e)
def ColOk (t : TabD) (i : Nat) : Prop := ∃ h : i < t.cols.length, NameOk t.cols[i].name ∧ (t.cols[i].kind = 1 ∨ t.cols[i].kind = 2) ∧ ∀ k (hk : k < i), t.cols[k].name ≠ t.cols[i].name
def NullOk (t : TabD) (i : Nat) : Prop := ∀ (h : i < t.key.length) (q : Nat), t.key[i] = q → ∀ hq : q < t.cols.length, t.cols[q].null = false
def TableOk (t : TabD) : Prop := NameOk t.name ∧ (1 ≤ t.cols.length ∧ t.cols.length ≤ 6) ∧ PlacesOk t.key t.cols.length ∧ (∀ i, i < t.cols.length → ColOk t i) ∧ ∀ i, i < t.key.length → NullOk t i

end Go.Proofs.YtdibkhphemfdeaaGreatDoor

namespace Go.Proofs.YtdibkhphemfdeaaGreatDoor
open Go.RowKit

theorem TabR.kp {ok : Nat → Prop} {w w' : World} {a b : Value} {d : TabD} (hk : Kp ok w w') (h : TabR ok w a b d) : TabR ok w' a b d := ⟨h.cols.kp hk, h.key.kp hk, h.id, h.nm⟩
theorem TabR.mono {ok ok' : Nat → Prop} {w : World} {a b : Value} {d : TabD} (hm : ∀ b, ok b → b < w.heap.size → ok' b) (h : TabR ok w a b d) : TabR ok' w a b d := ⟨h.cols.mono (by decide) hm, h.key.mono (by decide) hm, h.id, h.nm⟩
theorem IdxR.kp {ok : Nat → Prop} {w w' : World} {a : Value} {d : IdxD} (hk : Kp ok w w') (h : IdxR ok w a d) : IdxR ok w' a d := ⟨h.cols.kp hk, h.id, h.nm⟩
theorem IdxR.mono {ok ok' : Nat → Prop} {w : World} {a : Value} {d : IdxD} (hm : ∀ b, ok b → b < w.heap.size → ok' b) (h : IdxR ok w a d) : IdxR ok' w a d := ⟨h.cols.mono (by decide) hm, h.id, h.nm⟩
def rTab : Rel TabD where
  sz := 4
  wt := 72
  rel ok w cs d := ∃ a b, cs = [.int .i64 d.id, .string d.name, a, b] ∧ TabR ok w a b d
  len := by rintro ok w cs d ⟨a, c, rfl, _⟩; rfl
  one := by
    rintro ok w cs d ⟨a, c, rfl, h⟩ u hu
    simp at hu
    rcases hu with rfl | rfl | rfl | rfl
    · rfl
    · rfl
    · exact h.cols.one
    · exact h.key.one
  kp := by
    rintro ok w w' cs d hk ⟨a, c, rfl, h⟩
    exact ⟨a, c, rfl, h.kp hk⟩
  mono := by
    rintro ok ok' w cs d hm ⟨a, c, rfl, h⟩
    exact ⟨a, c, rfl, h.mono hm⟩
def rIdx : Rel IdxD where
  sz := 7
  wt := 80
  rel ok w cs d := ∃ a, cs = [.int .i64 d.id, .int .i64 d.table, .string d.name, a, .bool d.uniq, .int .i64 d.state, .bool d.bad] ∧ IdxR ok w a d
  len := by rintro ok w cs d ⟨a, rfl, _⟩; rfl
  one := by
    rintro ok w cs d ⟨a, rfl, h⟩ u hu
    simp at hu
    rcases hu with rfl | rfl | rfl | rfl | rfl | rfl | rfl
    · rfl
    · rfl
    · rfl
    · exact h.cols.one
    · rfl
    · rfl
    · rfl
  kp := by
    rintro ok w w' cs d hk ⟨a, rfl, h⟩
    exact ⟨a, rfl, h.kp hk⟩
  mono := by
    rintro ok ok' w cs d hm ⟨a, rfl, h⟩
    exact ⟨a, rfl, h.mono hm⟩
structure CatD where
  ver : Int
  next : Int
  tabs : List TabD
  idxs : List IdxD
def catCs (d : CatD) (a b : Value) : Array Value := #[.int .i64 d.ver, .int .i64 d.next, a, b]
structure CatR (ok : Nat → Prop) (w : World) (a b : Value) (d : CatD) : Prop where
  tabs : RSl rTab ok w a d.tabs
  idxs : RSl rIdx ok w b d.idxs
theorem CatR.below {ok : Nat → Prop} {w w' : World} {a b : Value} {d : CatD} (h : CatR ok w a b d) (hb : Below w.heap.size w w') : CatR ok w' a b d := ⟨h.tabs.below hb, h.idxs.below hb⟩

theorem set4_cells {w : World} {g : Nat} {t : TypeId} {x0 x1 x2 x3 : Value} (h : Blk w g t #[x0, x1, x2, x3]) : w.cell? ⟨g, 0, none⟩ = some x0 ∧ w.cell? ⟨g, 1, none⟩ = some x1 ∧ w.cell? ⟨g, 2, none⟩ = some x2 ∧ w.cell? ⟨g, 3, none⟩ = some x3 := ⟨h.cell 0, h.cell 1, h.cell 2, h.cell 3⟩
theorem Blk.set4 {w : World} {g : Nat} {T : TypeId} {x0 x1 x2 x3 : Value} (h : Blk w g T #[x0, x1, x2, x3]) (y0 y1 y2 y3 : Value) : Blk ((((w.setCell ⟨g, 0, none⟩ y0).setCell ⟨g, 1, none⟩ y1).setCell ⟨g, 2, none⟩ y2).setCell ⟨g, 3, none⟩ y3) g T #[y0, y1, y2, y3] := by
  have := (((h.set_ 0 y0).set_ 1 y1).set_ 2 y2).set_ 3 y3
  simpa using this
theorem below_set4 {B : Nat} {a w : World} (h : Below B a w) {g : Nat} (hg : B ≤ g) (x0 x1 x2 x3 : Value) : Below B a ((((w.setCell ⟨g, 0, none⟩ x0).setCell ⟨g, 1, none⟩ x1).setCell ⟨g, 2, none⟩ x2).setCell ⟨g, 3, none⟩ x3) :=
  (((h.setCell hg _).setCell hg _).setCell hg _).setCell hg _
theorem kp_set4 {ok : Nat → Prop} {w : World} {g : Nat} (hg : ¬ ok g) (x0 x1 x2 x3 : Value) : Kp ok w ((((w.setCell ⟨g, 0, none⟩ x0).setCell ⟨g, 1, none⟩ x1).setCell ⟨g, 2, none⟩ x2).setCell ⟨g, 3, none⟩ x3) :=
  ((((Kp.refl _ _).setCell (fun _ h => hg h) _).setCell (fun _ h => hg h) _).setCell (fun _ h => hg h) _).setCell (fun _ h => hg h) _
def zeroT : TabD := ⟨0, ⟨#[]⟩, [], []⟩
def ByIDPost (ok : Nat → Prop) (ts : List TabD) (id : Int) (e : Ending) (w' : World) : Prop :=
  ∃ t a b bb, e = .returned (.tuple #[.agg (tabCs t a b), .bool bb]) ∧ TabR ok w' a b t ∧ ((bb = true ∧ ts.find? (fun t => t.id == id) = some t) ∨ (bb = false ∧ ts.find? (fun t => t.id == id) = none ∧ t = zeroT))

end Go.Proofs.YtdibkhphemfdeaaGreatDoor
