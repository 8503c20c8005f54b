/- Vault: logs in memory: relations.
Vault: numbers as bytes, the bits. No walk.
Vault: the opener of a log that came in.
Vault: when two logs are the same. No walk. -/
import Derived.Test.YtnlhjhpikjmoaaaGreatDoorA5
import Derived.Test.YtnlhjhpikjmoaaaGreatDoorRelT
import Derived.Test.YtnlhjhpikjmoaaaGreatDoorC2
import Derived.Test.YtnlhjhpikjmoaaaGreatDoorOpL
namespace Go.Proofs.YtnlhjhpikjmoaaaGreatDoor
open Go.RowKit

def rEnt : Rel VEnt where
  sz := 3
  wt := 40
  rel ok w cs e := ∃ vd, cs = [.int .u64 (e.term : Int), .int .u64 (e.idx : Int), vd] ∧ RB ok w vd e.data ∧ e.term < 18446744073709551616 ∧ e.idx < 18446744073709551616
  len := by rintro ok w cs d ⟨a, rfl, _⟩; rfl
  one := by
    rintro ok w cs d ⟨a, rfl, h1, _⟩ u hu
    simp at hu
    rcases hu with rfl | rfl | rfl
    · rfl
    · rfl
    · exact h1.one
  kp := by
    rintro ok w w' cs d hk ⟨a, rfl, h1, h2⟩
    exact ⟨a, rfl, h1.kp hk, h2⟩
  mono := by
    rintro ok ok' w cs d hm ⟨a, rfl, h1, h2⟩
    exact ⟨a, rfl, h1.mono (by decide) hm, h2⟩
def vlCs (l : VLog) (vsd ves : Value) : Array Value := #[.int .u64 (l.term : Int), .int .i64 l.vote, .int .u64 (l.si : Int), .int .u64 (l.st : Int), vsd, ves]
/-- a log in memory, by its two slices -/
structure VLm (ok : Nat → Prop) (w : World) (vsd ves : Value) (l : VLog) : Prop where
  sd : RB ok w vsd l.sd
  es : RSl rEnt ok w ves l.es
  term : l.term < 18446744073709551616
  vote : I64 l.vote
  si : l.si < 18446744073709551616
  st : l.st < 18446744073709551616
section
variable {ok ok' : Nat → Prop} {w w' : World} {vsd ves : Value} {l : VLog}
theorem VLm.kp (h : VLm ok w vsd ves l) (hk : Kp ok w w') : VLm ok w' vsd ves l := ⟨h.sd.kp hk, h.es.kp hk, h.term, h.vote, h.si, h.st⟩
theorem VLm.below (h : VLm ok w vsd ves l) (hb : Below w.heap.size w w') : VLm ok w' vsd ves l := h.kp (.of_below hb)
theorem VLm.mono (h : VLm ok w vsd ves l) (hm : ∀ b, ok b → b < w.heap.size → ok' b) : VLm ok' w vsd ves l := ⟨h.sd.mono (by decide) hm, h.es.mono (by decide) hm, h.term, h.vote, h.si, h.st⟩
end
end Go.Proofs.YtnlhjhpikjmoaaaGreatDoor

namespace Go.Proofs.YtnlhjhpikjmoaaaGreatDoor
open Go.RowKit

set_option maxRecDepth 100000 in
theorem or128 : ∀ r, r < 256 → r ||| 128 = r % 128 + 128 := by decide
theorem wrap_u8' (v : Nat) : IntKind.u8.wrap (v : Int) = ((v % 256 : Nat) : Int) := by simp [IntKind.wrap, IntKind.bits, IntKind.signed]
theorem num_byte (v : Nat) : bits .or .u8 (IntKind.u8.wrap (v : Int)) 128 = ((UInt8.ofNat (v % 128 + 128)).toNat : Int) := by
  rw [wrap_u8']
  have h := u8_or_nat (v % 256) 128 (by omega) (by omega)
  refine h.trans ?_
  rw [or128 _ (by omega), show v % 256 % 128 = v % 128 by omega]
  simp only [UInt8.toNat_ofNat']
  omega
theorem last_byte {v : Nat} (h : v < 256) : IntKind.u8.wrap (v : Int) = ((UInt8.ofNat v).toNat : Int) := by
  rw [wrap_u8']
  simp only [UInt8.toNat_ofNat']
theorem numF_big {f v : Nat} (h : 128 ≤ v) : numF (f + 1) v = UInt8.ofNat (v % 128 + 128) :: numF f (v / 128) := by
  rw [numF, if_neg (by omega)]
theorem numF_little {f v : Nat} (h : v < 128) : numF f v = [UInt8.ofNat v] := by
  cases f with
  | zero => rfl
  | succ f => rw [numF, if_pos h]
def numsB (l : List Nat) : List UInt8 := (l.map numB).flatten
end Go.Proofs.YtnlhjhpikjmoaaaGreatDoor

namespace Go.Proofs.YtnlhjhpikjmoaaaGreatDoor
open Go.ChangeShapes Go.WideShapes Go.ChangeAt Go.RowKit Go.Deep

section
variable {H : Type} {enc : TypeId × Value → H} {P : Program} {W : World}
/-- the fields of a struct, of as many cells as each has -/
theorem opens_parts {t : TypeId} {fs : Array Field} {fuel : Nat} {cs : List Value} {x : DataW H × List MemPlace} (hs : P.underlying t = some (.struct fs))
    (h : DataW.trod enc P W 0 (fun _ => true) true fuel t cs = some x) (hw : ∀ n ∈ x.1.weights P t, n ≤ reachBytes) : cs.length = P.cellsOf t ∧
    ∀ (j : Nat) (f : Field), fs[j]? = some f → ∃ (y : DataW H × List MemPlace) (n : Nat), DataW.trod enc P W 0 (fun _ => true) true n f.type ((cs.drop f.offset).take (P.cellsOf f.type)) = some y ∧ ∀ k ∈ y.1.weights P f.type, k ≤ reachBytes := by
  obtain ⟨ys, n', _, rfl, hlen, hyl, hf⟩ := DataW.trod_struct hs h
  refine ⟨hlen, fun j f hj => ?_⟩
  have hjl : j < fs.size := (Array.getElem?_eq_some_iff.1 hj).1
  have h1 := hf j f hj
  have hys : ys[j]? = some (ys[j]'(by omega)) := List.getElem?_eq_getElem (by omega)
  refine ⟨_, n', h1.trans hys, fun k hk' => hw k ?_⟩
  simp only [DataW.weights, hs]
  refine DataW.weights_mem_each (j := j) (t := f.type) (d := (ys[j]'(by omega)).1) ?_ ?_ k hk'
  · have : fs.toList[j]? = some f := by simpa using hj
    simp [this]
  · simp [hys]
end
def rLog : Rel VLog where
  sz := 6
  wt := 80
  rel ok w cs l := ∃ vsd ves, cs = (vlCs l vsd ves).toList ∧ VLm ok w vsd ves l
  len := by rintro ok w cs d ⟨a, b, rfl, _⟩; rfl
  one := by
    rintro ok w cs d ⟨a, b, rfl, h⟩ u hu
    simp [vlCs] at hu
    rcases hu with rfl | rfl | rfl | rfl | rfl | rfl
    · rfl
    · rfl
    · rfl
    · rfl
    · exact h.sd.one
    · exact h.es.one
  kp := by
    rintro ok w w' cs d hk ⟨a, b, rfl, h⟩
    exact ⟨a, b, rfl, h.kp hk⟩
  mono := by
    rintro ok ok' w cs d hm ⟨a, b, rfl, h⟩
    exact ⟨a, b, rfl, h.mono hm⟩
theorem u64_of {k : Int} (h : (Lit.int .u64 k).wf = true) : ∃ n : Nat, k = (n : Int) ∧ n < 18446744073709551616 := by
  have h1 : IntKind.u64.min = 0 := rfl
  have h2 : IntKind.u64.max = 18446744073709551615 := rfl
  simp only [Lit.wf, Bool.and_eq_true, decide_eq_true_eq] at h
  exact ⟨k.toNat, by omega, by omega⟩
section
variable {H : Type} {enc : TypeId × Value → H} {W : World}
set_option maxRecDepth 100000 in
theorem opens_ent : Opens enc Tryz.prog W 50 rEnt := by
  intro fuel cs x h hw
  obtain ⟨hl, hf⟩ := opens_fields Tryz.underlying50 (by kernel_rfl) (by kernel_rfl) h hw
  obtain ⟨v0, y0, n0, e0, t0, _⟩ := hf 0 _ rfl
  obtain ⟨v1, y1, n1, e1, t1, _⟩ := hf 1 _ rfl
  obtain ⟨v2, y2, n2, e2, t2, k2⟩ := hf 2 _ rfl
  obtain ⟨k, e, _, w0⟩ := DataW.trod_int Tryz.underlying22 t0
  obtain ⟨m, e', _, w1⟩ := DataW.trod_int Tryz.underlying22 t1
  obtain ⟨l2, u2, e'', r2⟩ := opens_bytes _ _ _ t2 k2
  obtain ⟨k', rfl, hk'⟩ := u64_of w0
  obtain ⟨m', rfl, hm'⟩ := u64_of w1
  simp only [List.cons.injEq, and_true] at e e' e''
  subst e e' e''
  refine ⟨⟨k', m', l2⟩, v2, ?_, r2, hk', hm'⟩
  clear hk' hm' w0 w1
  match cs, hl with
  | [c0, c1, c2], _ =>
    simp only [List.getElem?_cons_zero, List.getElem?_cons_succ, Option.some.injEq] at e0 e1 e2
    rw [e0, e1, e2]
theorem opens_ents : Opens enc Tryz.prog W 28 (rSl rEnt (by decide)) := opens_slice Tryz.underlying28 (by kernel_rfl) (by kernel_rfl) _ opens_ent
set_option maxRecDepth 100000 in
theorem opens_log : Opens enc Tryz.prog W 30 rLog := by
  intro fuel cs x h hw
  obtain ⟨hl, hf⟩ := opens_parts Tryz.underlying30 h hw
  have hl6 : cs.length = 6 := hl.trans (by kernel_rfl)
  obtain ⟨y0, n0, t0, k0⟩ := hf 0 _ rfl
  obtain ⟨y1, n1, t1, k1⟩ := hf 1 _ rfl
  obtain ⟨y2, n2, t2, k2⟩ := hf 2 _ rfl
  match cs, hl6 with
  | [a0, a1, a2, a3, a4, a5], _ =>
    have t0' : DataW.trod enc Tryz.prog W 0 (fun _ => true) true n0 24 [a0, a1] = some y0 := t0
    have t1' : DataW.trod enc Tryz.prog W 0 (fun _ => true) true n1 27 [a2, a3, a4] = some y1 := t1
    have t2' : DataW.trod enc Tryz.prog W 0 (fun _ => true) true n2 28 [a5] = some y2 := t2
    obtain ⟨_, hf0⟩ := opens_fields Tryz.underlying24 (by kernel_rfl) (by kernel_rfl) t0' k0
    obtain ⟨_, hf1⟩ := opens_fields Tryz.underlying27 (by kernel_rfl) (by kernel_rfl) t1' k1
    obtain ⟨v0, z0, _, e0, u0, _⟩ := hf0 0 _ rfl
    obtain ⟨v1, z1, _, e1, u1, _⟩ := hf0 1 _ rfl
    obtain ⟨v2, z2, _, e2, u2, _⟩ := hf1 0 _ rfl
    obtain ⟨v3, z3, _, e3, u3, _⟩ := hf1 1 _ rfl
    obtain ⟨v4, z4, _, e4, u4, q4⟩ := hf1 2 _ rfl
    obtain ⟨i0, c0, _, w0⟩ := DataW.trod_int Tryz.underlying22 u0
    obtain ⟨i1, c1, _, w1⟩ := DataW.trod_int Tryz.underlying3 u1
    obtain ⟨i2, c2, _, w2⟩ := DataW.trod_int Tryz.underlying22 u2
    obtain ⟨i3, c3, _, w3⟩ := DataW.trod_int Tryz.underlying22 u3
    obtain ⟨l4, p4, c4, r4⟩ := opens_bytes _ _ _ u4 q4
    obtain ⟨l5, p5, c5, r5⟩ := opens_ents _ _ _ t2' k2
    obtain ⟨j0, rfl, hj0⟩ := u64_of w0
    obtain ⟨j2, rfl, hj2⟩ := u64_of w2
    obtain ⟨j3, rfl, hj3⟩ := u64_of w3
    simp only [List.cons.injEq, and_true] at c0 c1 c2 c3 c4 c5
    subst c0 c1 c2 c3 c4 c5
    simp only [List.getElem?_cons_zero, List.getElem?_cons_succ, Option.some.injEq] at e0 e1 e2 e3 e4
    subst e0 e1 e2 e3 e4
    exact ⟨⟨j0, i1, j2, j3, l4, l5⟩, _, _, rfl, r4, r5, hj0, i64_of w1, hj2, hj3⟩
end
end Go.Proofs.YtnlhjhpikjmoaaaGreatDoor

namespace Go.Proofs.YtnlhjhpikjmoaaaGreatDoor

def entEq (a b : VEnt) : Bool := decide (a.term = b.term) && (decide (a.idx = b.idx) && decide (a.data = b.data))
theorem entEq_iff (a b : VEnt) : entEq a b = true ↔ a = b := by
  cases a; cases b
  simp [entEq]
def sameE : List VEnt → List VEnt → Bool
  | [], [] => true
  | a :: x, b :: y => entEq a b && sameE x y
  | _, _ => false
theorem sameE_iff : ∀ a b : List VEnt, sameE a b = true ↔ a = b
  | [], [] => by simp [sameE]
  | [], b :: y => by simp [sameE]
  | a :: x, [] => by simp [sameE]
  | a :: x, b :: y => by simp [sameE, entEq_iff, sameE_iff x y]
def sameV (a b : VLog) : Bool := decide (a.term = b.term) && (decide (a.vote = b.vote) && (decide (a.si = b.si) && (decide (a.st = b.st) && (decide (a.sd = b.sd) && sameE a.es b.es))))
theorem sameV_iff (a b : VLog) : sameV a b = true ↔ a = b := by
  cases a; cases b
  simp [sameV, sameE_iff]
theorem sameV_refl (a : VLog) : sameV a a = true := (sameV_iff a a).2 rfl
end Go.Proofs.YtnlhjhpikjmoaaaGreatDoor
