/- What the cells of pairs, owners, routes, spans say. No program in sight.
What the cells of values, columns, tables, indexes say. No program in sight. -/
import Derived.Test.YtnlhjhpikjmoaaaGreatDoorDat
import Derived.Test.YtnlhjhpikjmoaaaGreatDoorC2
namespace Go.Proofs.YtnlhjhpikjmoaaaGreatDoor
open Go.RowKit

def I64 (i : Int) : Prop := -9223372036854775808 ≤ i ∧ i < 9223372036854775808

structure PairD where
  k : List UInt8
  v : List UInt8
  n : Int

def rPair : Rel PairD where
  sz := 3
  wt := 56
  rel ok w cs p := ∃ a b, cs = [a, b, .int .i64 p.n] ∧ RB ok w a p.k ∧ RB ok w b p.v ∧ I64 p.n
  len := by rintro ok w cs d ⟨a, b, rfl, _⟩; rfl
  one := by
    rintro ok w cs d ⟨a, b, rfl, h1, h2, _⟩ u hu
    simp at hu
    rcases hu with rfl | rfl | rfl
    · exact h1.one
    · exact h2.one
    · rfl
  kp := by
    rintro ok w w' cs d hk ⟨a, b, rfl, h1, h2, h3⟩
    exact ⟨a, b, rfl, h1.kp hk, h2.kp hk, h3⟩
  mono := by
    rintro ok ok' w cs d hm ⟨a, b, rfl, h1, h2, h3⟩
    exact ⟨a, b, rfl, h1.mono (by decide) hm, h2.mono (by decide) hm, h3⟩

structure OwnerD where
  g : Int
  f : List UInt8

def rOwner : Rel OwnerD where
  sz := 2
  wt := 32
  rel ok w cs p := ∃ a, cs = [.int .i64 p.g, a] ∧ RB ok w a p.f ∧ I64 p.g
  len := by rintro ok w cs d ⟨a, rfl, _⟩; rfl
  one := by
    rintro ok w cs d ⟨a, rfl, h1, _⟩ u hu
    simp at hu
    rcases hu with rfl | rfl
    · rfl
    · exact h1.one
  kp := by
    rintro ok w w' cs d hk ⟨a, rfl, h1, h3⟩
    exact ⟨a, rfl, h1.kp hk, h3⟩
  mono := by
    rintro ok ok' w cs d hm ⟨a, rfl, h1, h3⟩
    exact ⟨a, rfl, h1.mono (by decide) hm, h3⟩

structure RouteD where
  e : Int
  b : Int
  s : List OwnerD
  m : Int
  c : List UInt8

def rRoute : Rel RouteD where
  sz := 5
  wt := 72
  rel ok w cs p := ∃ a c, cs = [.int .i64 p.e, .int .i64 p.b, a, .int .i64 p.m, c] ∧ RSl rOwner ok w a p.s ∧ RB ok w c p.c ∧ I64 p.e ∧ I64 p.b ∧ I64 p.m
  len := by rintro ok w cs d ⟨a, c, rfl, _⟩; rfl
  one := by
    rintro ok w cs d ⟨a, c, rfl, h1, h2, _⟩ u hu
    simp at hu
    rcases hu with rfl | rfl | rfl | rfl | rfl
    · rfl
    · rfl
    · exact h1.one
    · rfl
    · exact h2.one
  kp := by
    rintro ok w w' cs d hk ⟨a, c, rfl, h1, h2, h3⟩
    exact ⟨a, c, rfl, h1.kp hk, h2.kp hk, h3⟩
  mono := by
    rintro ok ok' w cs d hm ⟨a, c, rfl, h1, h2, h3⟩
    exact ⟨a, c, rfl, h1.mono (by decide) hm, h2.mono (by decide) hm, h3⟩
end Go.Proofs.YtnlhjhpikjmoaaaGreatDoor

namespace Go.Proofs.YtnlhjhpikjmoaaaGreatDoor
open Go.RowKit

def rInt : Rel Int where
  sz := 1
  wt := 8
  rel _ _ cs i := cs = [.int .i64 i] ∧ I64 i
  len := by rintro ok w cs d ⟨rfl, _⟩; rfl
  one := by
    rintro ok w cs d ⟨rfl, _⟩ u hu
    simp at hu
    subst hu
    rfl
  kp := fun _ h => h
  mono := fun _ h => h
def rVal : Rel Val where
  sz := 3
  wt := 32
  rel _ _ cs x := cs = x.cs ∧ x.ok
  len := by rintro ok w cs d ⟨rfl, _⟩; rfl
  one := by
    rintro ok w cs d ⟨rfl, _⟩ u hu
    simp [Val.cs] at hu
    rcases hu with rfl | rfl | rfl <;> rfl
  kp := fun _ h => h
  mono := fun _ h => h
structure ColD where
  name : ByteArray
  kind : Int
  null : Bool
def rCol : Rel ColD where
  sz := 3
  wt := 32
  rel _ _ cs c := cs = [.string c.name, .int .i64 c.kind, .bool c.null] ∧ I64 c.kind ∧ c.name.size ≤ 9223372036854775807
  len := by rintro ok w cs d ⟨rfl, _⟩; rfl
  one := by
    rintro ok w cs d ⟨rfl, _⟩ u hu
    simp at hu
    rcases hu with rfl | rfl | rfl <;> rfl
  kp := fun _ h => h
  mono := fun _ h => h

theorem chunks_vals {ok : Nat → Prop} {w : World} : ∀ {css : List (List Value)} {l : List Val}, Chunks rVal ok w css l → css.flatten = vcs l ∧ okVals l
  | [], [], _ => ⟨rfl, fun x hx => by cases hx⟩
  | _ :: _, x :: l, h => by
    obtain ⟨h1, h2⟩ := chunks_vals h.2
    refine ⟨by rw [List.flatten_cons, h1, h.1.1]; rfl, fun y hy => ?_⟩
    rcases List.mem_cons.1 hy with rfl | hy
    · exact h.1.2
    · exact h2 y hy
  | [], _ :: _, h => h.elim
  | _ :: _, [], h => h.elim
theorem vals_chunks (ok : Nat → Prop) (w : World) : ∀ l : List Val, okVals l → Chunks rVal ok w (l.map Val.cs) l ∧ (l.map Val.cs).flatten = vcs l
  | [], _ => ⟨trivial, rfl⟩
  | x :: l, h => ⟨⟨⟨rfl, h x (by simp)⟩, (vals_chunks ok w l fun y hy => h y (by simp [hy])).1⟩, by rw [List.map_cons, List.flatten_cons, (vals_chunks ok w l fun y hy => h y (by simp [hy])).2]; rfl⟩
abbrev RV (ok : Nat → Prop) (w : World) (v : Value) (l : List Val) : Prop := RSl rVal ok w v l
section
variable {ok : Nat → Prop} {w : World}
theorem RV.open_ {v : Value} {l : List Val} (h : RV ok w v l) : ∃ A c, v = .slice A l.length c ∧ l.length ≤ c ∧ l.length ≤ 4398046510976 ∧ Rd w 3 A l.length (vcs l) ∧ okVals l ∧ (0 < l.length → ∀ a, A = some a → ok a.block) := by
  obtain ⟨A, n, c, css, rfl, hc, hn, hb, hr, hch, ho⟩ := h
  subst hn
  obtain ⟨h1, h2⟩ := chunks_vals hch
  rw [h1] at hr
  exact ⟨A, c, rfl, hc, by simp [rVal] at hb; omega, hr, h2, ho⟩
theorem RV.mk_ {A : Option Addr} {n c : Nat} {l : List Val} (hr : Rd w 3 A n (vcs l)) (hc : n ≤ c) (hb : n ≤ 4398046510976) (hk : okVals l) (ho : 0 < n → ∀ a, A = some a → ok a.block) : RV ok w (.slice A n c) l := by
  obtain ⟨h1, h2⟩ := vals_chunks ok w l hk
  have hn : l.length = n := by have := hr.1; rw [vcs_length] at this; omega
  refine ⟨A, n, c, _, rfl, hc, hn, by simp [rVal]; omega, ?_, h1, ho⟩
  rw [h2]
  exact hr
end

structure TabD where
  id : Int
  name : ByteArray
  cols : List ColD
  key : List Int
structure IdxD where
  id : Int
  table : Int
  name : ByteArray
  cols : List Int
  uniq : Bool
  state : Int
  bad : Bool
def tabCs (d : TabD) (a b : Value) : Array Value := #[.int .i64 d.id, .string d.name, a, b]
def idxCs (d : IdxD) (a : Value) : Array Value := #[.int .i64 d.id, .int .i64 d.table, .string d.name, a, .bool d.uniq, .int .i64 d.state, .bool d.bad]
/-- a table's parts -/
structure TabR (ok : Nat → Prop) (w : World) (a b : Value) (d : TabD) : Prop where
  cols : RSl rCol ok w a d.cols
  key : RSl rInt ok w b d.key
  id : I64 d.id
  nm : d.name.size ≤ 9223372036854775807
theorem TabR.below {ok : Nat → Prop} {w w' : World} {a b : Value} {d : TabD} (h : TabR ok w a b d) (hb : Below w.heap.size w w') : TabR ok w' a b d := ⟨h.cols.below hb, h.key.below hb, h.id, h.nm⟩

/-! ### what the rows' functions say -/
def mayC (c : ColD) (x : Val) : Bool := rightB x.k x.i x.s && (x.k == c.kind || x.k == 0 && c.null)
def mayAll : List ColD → List Val → Bool
  | [], [] => true
  | c :: cs, x :: xs => mayC c x && mayAll cs xs
  | _, _ => false
theorem mayAll_length : ∀ {cs : List ColD} {xs : List Val}, mayAll cs xs = true → xs.length = cs.length
  | [], [], _ => rfl
  | _ :: _, _ :: _, h => congrArg (· + 1) (mayAll_length (by simp [mayAll] at h; exact h.2))
  | [], _ :: _, h => by simp [mayAll] at h
  | _ :: _, [], h => by simp [mayAll] at h
/-- some value may not be -/
theorem mayAll_no : ∀ {cs : List ColD} {xs : List Val} (k : Nat) (h1 : k < cs.length) (h2 : k < xs.length), mayC cs[k] xs[k] = false → mayAll cs xs = false
  | [], _, _, h, _, _ => absurd h (by simp)
  | _ :: _, [], _, _, h, _ => absurd h (by simp)
  | c :: cs, x :: xs, 0, _, _, h => by simp [mayAll]; intro h'; simp at h; rw [h] at h'; cases h'
  | c :: cs, x :: xs, k + 1, h1, h2, h => by
    have := mayAll_no (cs := cs) (xs := xs) k (by simpa using h1) (by simpa using h2) (by simpa using h)
    simp [mayAll, this]
theorem mayAll_yes : ∀ {cs : List ColD} {xs : List Val}, xs.length = cs.length → (∀ k (h1 : k < cs.length) (h2 : k < xs.length), mayC cs[k] xs[k] = true) → mayAll cs xs = true
  | [], [], _, _ => rfl
  | c :: cs, x :: xs, h, hk => by
    have h0 := hk 0 (by simp) (by simp)
    have h1 := mayAll_yes (cs := cs) (xs := xs) (by simpa using h) fun k g1 g2 => hk (k + 1) (by simpa using g1) (by simpa using g2)
    simp only [List.getElem_cons_zero] at h0
    simp [mayAll, h0, h1]
  | [], _ :: _, h, _ => by simp at h
  | _ :: _, [], h, _ => by simp at h
theorem mayAll_len_no {cs : List ColD} {xs : List Val} (h : xs.length ≠ cs.length) : mayAll cs xs = false := by
  cases hm : mayAll cs xs with
  | false => rfl
  | true => exact absurd (mayAll_length hm) h
theorem mayAll_at : ∀ {cs : List ColD} {xs : List Val} (k : Nat) (h1 : k < cs.length) (h2 : k < xs.length), mayAll cs xs = true → mayC cs[k] xs[k] = true := fun {cs xs} k h1 h2 h => by
  cases hm : mayC cs[k] xs[k] with
  | true => rfl
  | false => rw [mayAll_no k h1 h2 hm] at h; cases h
/-- the values of places; places that are none are left out -/
def at_ (row : List Val) (k : Int) : Option Val := if 0 ≤ k ∧ k < row.length then row[k.toNat]? else none
def pickV (row : List Val) (places : List Int) : List Val := places.filterMap (at_ row)
theorem pickV_take_succ (row : List Val) (places : List Int) (k : Nat) (h : k < places.length) : pickV row (places.take (k + 1)) = pickV row (places.take k) ++ (match at_ row places[k] with | some x => [x] | none => []) := by
  unfold pickV
  rw [List.take_succ_eq_append_getElem h, List.filterMap_append]
  congr 1
  simp only [List.filterMap_cons, List.filterMap_nil]
  cases at_ row places[k] <;> rfl
theorem at_some {row : List Val} {k : Int} (h0 : 0 ≤ k) (h1 : k < row.length) : ∃ h : k.toNat < row.length, at_ row k = some row[k.toNat] := by
  have h : k.toNat < row.length := by omega
  refine ⟨h, ?_⟩
  unfold at_
  rw [if_pos ⟨h0, h1⟩, List.getElem?_eq_getElem h]
theorem at_none {row : List Val} {k : Int} (h : ¬ (0 ≤ k ∧ k < row.length)) : at_ row k = none := if_neg h
theorem pickV_length_le (row : List Val) (places : List Int) : (pickV row places).length ≤ places.length := List.length_filterMap_le _ _
def keyV (t : TabD) (row : List Val) : List Val := if mayAll t.cols row then pickV row t.key else []
/-- may a key's value be? -/
def fitC (t : TabD) (k : Int) (x : Val) : Bool := decide (0 ≤ k) && (decide (k < t.cols.length) && (rightB x.k x.i x.s && ((t.cols[k.toNat]?).map ColD.kind == some x.k)))
def fitAll (t : TabD) : List Int → List Val → Bool
  | [], [] => true
  | k :: ks, x :: xs => fitC t k x && fitAll t ks xs
  | _, _ => false
theorem fitAll_length {t : TabD} : ∀ {ks : List Int} {xs : List Val}, fitAll t ks xs = true → xs.length = ks.length
  | [], [], _ => rfl
  | _ :: _, _ :: _, h => congrArg (· + 1) (fitAll_length (by simp [fitAll] at h; exact h.2))
  | [], _ :: _, h => by simp [fitAll] at h
  | _ :: _, [], h => by simp [fitAll] at h
theorem fitAll_no {t : TabD} : ∀ {ks : List Int} {xs : List Val} (k : Nat) (h1 : k < ks.length) (h2 : k < xs.length), fitC t ks[k] xs[k] = false → fitAll t ks xs = false
  | [], _, _, h, _, _ => absurd h (by simp)
  | _ :: _, [], _, _, h, _ => absurd h (by simp)
  | c :: cs, x :: xs, 0, _, _, h => by simp [fitAll]; intro h'; simp at h; rw [h] at h'; cases h'
  | c :: cs, x :: xs, k + 1, h1, h2, h => by
    have := fitAll_no (t := t) (ks := cs) (xs := xs) k (by simpa using h1) (by simpa using h2) (by simpa using h)
    simp [fitAll, this]
theorem fitAll_yes {t : TabD} : ∀ {ks : List Int} {xs : List Val}, xs.length = ks.length → (∀ k (h1 : k < ks.length) (h2 : k < xs.length), fitC t ks[k] xs[k] = true) → fitAll t ks xs = true
  | [], [], _, _ => rfl
  | c :: cs, x :: xs, h, hk => by
    have h0 := hk 0 (by simp) (by simp)
    have h1 := fitAll_yes (t := t) (ks := cs) (xs := xs) (by simpa using h) fun k g1 g2 => hk (k + 1) (by simpa using g1) (by simpa using g2)
    simp only [List.getElem_cons_zero] at h0
    simp [fitAll, h0, h1]
  | [], _ :: _, h, _ => by simp at h
  | _ :: _, [], h, _ => by simp at h
theorem fitAll_len_no {t : TabD} {ks : List Int} {xs : List Val} (h : xs.length ≠ ks.length) : fitAll t ks xs = false := by
  cases hm : fitAll t ks xs with
  | false => rfl
  | true => exact absurd (fitAll_length hm) h
def headB (first : UInt8) (id : Int) : List UInt8 := first :: encL [⟨1, id, ⟨#[]⟩⟩]
def nameB (t : TabD) (key : List Val) : List UInt8 := if fitAll t t.key key then headB 114 t.id ++ (encSpec key).1 else []
end Go.Proofs.YtnlhjhpikjmoaaaGreatDoor
