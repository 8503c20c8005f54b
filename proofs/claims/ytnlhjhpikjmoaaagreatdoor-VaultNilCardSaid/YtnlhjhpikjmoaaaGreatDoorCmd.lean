/- Blocks read and written whole; what the cells of a command say. No program in sight. -/
import Derived.Test.YtnlhjhpikjmoaaaGreatDoorDat
import Derived.Test.YtnlhjhpikjmoaaaGreatDoorRelT
import Derived.Test.YtnlhjhpikjmoaaaGreatDoorReg
import Derived.Deep.MidRow
namespace Go.Proofs.YtnlhjhpikjmoaaaGreatDoor
open Go.RowKit

section
variable {w w' : World} {g : Nat} {T : TypeId} {C : Array Value}
theorem Blk.range (h : Blk w g T C) : w.rangeAt g 0 C.toList := fun j v hv => by
  rw [Nat.zero_add, h.cell j]
  simpa using hv
theorem Blk.there (h : Blk w g T C) : w.there g 0 C.size := fun j hj => by
  rw [Nat.zero_add]
  exact ⟨by rw [h.cell j, Array.getElem?_eq_getElem hj]; rfl, h.frozen j⟩
theorem Blk.setCells_at : ∀ (vs : List Value) (o : Nat) {w : World} {C : Array Value}, Blk w g T C → Blk (w.setCells g o vs) g T ((List.range vs.length).foldl (fun a i => a.setIfInBounds (o + i) (vs.getD i undef)) C)
  | [], _, _, _, h => h
  | v :: r, o, w, C, h => by
    have := Blk.setCells_at r (o + 1) (h.set_ o v)
    rw [World.setCells, List.length_cons, List.range_succ_eq_map, List.foldl_cons, List.foldl_map]
    simpa [Nat.add_assoc, Nat.add_comm 1] using this
theorem foldl_set (vs : List Value) : ∀ (n : Nat) (C : Array Value), n ≤ vs.length → C.size = vs.length → ((List.range n).foldl (fun a i => a.setIfInBounds (0 + i) (vs.getD i undef)) C).toList = vs.take n ++ C.toList.drop n ∧ ((List.range n).foldl (fun a i => a.setIfInBounds (0 + i) (vs.getD i undef)) C).size = vs.length
  | 0, C, _, hs => by simp [hs]
  | n + 1, C, hn, hs => by
    obtain ⟨h1, h2⟩ := foldl_set vs n C (by omega) hs
    rw [List.range_succ, List.foldl_append, List.foldl_cons, List.foldl_nil]
    refine ⟨?_, by simpa using h2⟩
    rw [Array.toList_setIfInBounds, h1, Nat.zero_add]
    have hl : (vs.take n).length = n := by simp; omega
    have hd : C.toList.drop n = C.toList[n]'(by simp [hs]; omega) :: C.toList.drop (n + 1) := List.drop_eq_getElem_cons (by simp [hs]; omega)
    rw [hd, List.set_append_right _ _ (by omega), hl, Nat.sub_self, List.set_cons_zero, List.take_succ_eq_append_getElem (by omega), List.append_assoc]
    simp [List.getD, List.getElem?_eq_getElem (show n < vs.length by omega)]
theorem Blk.setCells (h : Blk w g T C) (cs : Array Value) (hs : C.size = cs.size) : Blk (w.setCells g 0 cs.toList) g T cs := by
  have h1 := h.setCells_at cs.toList 0
  obtain ⟨h2, _⟩ := foldl_set cs.toList cs.toList.length C (Nat.le_refl _) (by simpa using hs)
  have h3 : (List.range cs.toList.length).foldl (fun a i => a.setIfInBounds (0 + i) (cs.toList.getD i undef)) C = cs := by
    refine Array.ext' ?_
    rw [h2, List.take_length, List.drop_of_length_le (by simp [hs]), List.append_nil]
  rwa [h3] at h1
theorem far_setCells {b : Nat} (hb : g ≠ b) : ∀ (vs : List Value) (o : Nat) {w : World}, Blk w g T C → Blk (w.setCells b o vs) g T C
  | [], _, _, h => h
  | v :: r, o, _, h => by rw [World.setCells]; exact far_setCells hb r (o + 1) (h.far hb v)
theorem Kp.setCells {ok : Nat → Prop} {a : World} {b : Nat} (hb : b < a.heap.size → ¬ ok b) : ∀ (vs : List Value) (o : Nat) {w : World}, Kp ok a w → Kp ok a (w.setCells b o vs)
  | [], _, _, h => h
  | v :: r, o, _, h => by rw [World.setCells]; exact Kp.setCells hb r (o + 1) (h.setCell (p := ⟨b, o, none⟩) hb v)
theorem below_setCells {B : Nat} {a : World} {b : Nat} (hb : B ≤ b) : ∀ (vs : List Value) (o : Nat) {w : World}, Below B a w → Below B a (w.setCells b o vs)
  | [], _, _, h => h
  | v :: r, o, _, h => by rw [World.setCells]; exact below_setCells hb r (o + 1) (h.setCell (p := ⟨b, o, none⟩) hb v)
@[simp] theorem size_setCells {b : Nat} : ∀ (vs : List Value) (o : Nat) {w : World}, (w.setCells b o vs).heap.size = w.heap.size
  | [], _, _ => rfl
  | v :: r, o, _ => by rw [World.setCells, size_setCells r (o + 1)]; simp
theorem Blk.loadAt {P : Program} {ty : TypeId} {d : TypeDesc} (h : Blk w g T C) (hu : P.underlying ty = some d) (hd : d.isRow = true) (hi : (P.info? ty).map (·.size) = some C.size) : (Instr.loadAt ty (.pointer (some ⟨g, 0, none⟩))).run P w = .ok (.agg C) w := by
  have := run_loadAt_mid (P := P) w g 0 ty C.toList d h.range hu hd (by simpa using hi)
  simpa using this
theorem Blk.loadVar {P : Program} {ty : TypeId} {d : TypeDesc} (h : Blk w g T C) (hu : P.underlying ty = some d) (hd : d.isRow = true) (hi : (P.info? ty).map (·.size) = some C.size) : (Go.loadVar ty ⟨g, 0, none⟩).run P w = .ok (.agg C) w := by
  have := run_loadVar_mid (P := P) w g 0 ty C.toList d h.range hu hd (by simpa using hi)
  simpa using this
theorem Blk.storeAt {P : Program} {ty : TypeId} (h : Blk w g T C) (cs : Array Value) (hs : C.size = cs.size) (hi : (P.info? ty).map (·.size) = some cs.size) (h1 : cs.all (·.oneCell') = true) : (Instr.storeAt ty (.pointer (some ⟨g, 0, none⟩)) (.agg cs)).run P w = .ok () (w.setCells g 0 cs.toList) :=
  run_storeAt_mid w g 0 ty cs (hs ▸ h.there) hi h1
variable {P : Program} {ops : Array Oper} {rest : List Oper} {o : Oper} {a : Act} {Q : Exit → Act → World → Prop}
/-- a block read whole, at the list of a plain region -/
theorem wpList_loadB (hgd : o.guard = none) {ty : TypeId} {x : Operand} (ho : o.op = .load ty x) (hx : a.eval x = .pointer (some ⟨g, 0, none⟩)) (hk : Blk w g T C) {d : TypeDesc} (hu : P.underlying ty = some d) (hd : d.isRow = true) (hi : (P.info? ty).map (·.size) = some C.size)
    (h : wpList P ops Q rest (a.put o.dst (.agg C)) w) : wpList P ops Q (o :: rest) a w := by
  have := wpList_load_mid (P := P) (ops := ops) (rest := rest) (op := o) (a := a) (w := w) (Q := Q) hgd ty x ho g 0 hx C.toList d hk.range hu hd (by simpa using hi)
  exact this (by simpa using h)
/-- .. written whole -/
theorem wpList_storeB (hgd : o.guard = none) {ty : TypeId} {x y : Operand} (ho : o.op = .store ty x y) (cs : Array Value) (hx : a.eval x = .pointer (some ⟨g, 0, none⟩)) (hy : a.eval y = .agg cs) (hk : Blk w g T C) (hs : C.size = cs.size) (hi : (P.info? ty).map (·.size) = some cs.size) (h1 : cs.all (·.oneCell') = true)
    (h : Blk (w.setCells g 0 cs.toList) g T cs → wpList P ops Q rest (a.put o.dst undef) (w.setCells g 0 cs.toList)) : wpList P ops Q (o :: rest) a w :=
  wpList_store_mid hgd ty x y ho g 0 cs hx hy (hs ▸ hk.there) hi h1 (h (hk.setCells cs hs))
end

/-- the world at a function's end under a name of its own -/
theorem name_post {P : Program} {f : Func} {R : Ending → World → Prop} {x : Exit} {a : Act} {W : World} (F : World → Prop) (hF : F W) (h : ∀ w1, F w1 → bodyPost P f R x a w1) : bodyPost P f R x a W := h _ hF
theorem asAddr_ok {P : Program} (p : Addr) (w : World) : (asAddr (.pointer (some p))).run P w = .ok p w := rfl

/-- a command, as far as the splitting of entries knows it -/
structure CmdD where
  kind : Int
  n : Int
  flag : Bool
  key : List UInt8
  from_ : List UInt8
  upto : List UInt8
  pairs : List PairD
def cmdCs (kind n : Int) (flag : Bool) (key fr ut pairs : Value) : Array Value :=
  #[.int .i64 kind, .int .i64 0, .int .u64 0, .int .i64 n, .int .i64 0, .int .i64 0, .bool flag, key, fr, ut, pairs, .slice none 0 0, .slice none 0 0, .int .i64 0, .string ⟨#[]⟩, .slice none 0 0, .slice none 0 0,
    .int .i64 0, .int .i64 0, .string ⟨#[]⟩, .slice none 0 0, .bool false, .int .i64 0, .bool false, .string ⟨#[]⟩]
theorem cmdCs_size (kind n : Int) (flag : Bool) (key fr ut pairs : Value) : (cmdCs kind n flag key fr ut pairs).size = 25 := rfl
theorem cmdCs_one {kind n : Int} {flag : Bool} {key fr ut pairs : Value} (h1 : key.oneCell' = true) (h2 : fr.oneCell' = true) (h3 : ut.oneCell' = true) (h4 : pairs.oneCell' = true) : (cmdCs kind n flag key fr ut pairs).all (·.oneCell') = true := by
  have e : ∀ v : Value, v.oneCell' = true → v.oneCell' = true := fun _ h => h
  simp only [cmdCs, List.all_toArray, List.all_cons, List.all_nil, h1, h2, h3, h4, Bool.true_and, Bool.and_true]
  rfl
/-- the parts of a command -/
structure CmdR (ok : Nat → Prop) (w : World) (key fr ut pairs : Value) (d : CmdD) : Prop where
  key : RB ok w key d.key
  fr : RB ok w fr d.from_
  upto : RB ok w ut d.upto
  pairs : RSl rPair ok w pairs d.pairs
section
variable {ok ok' : Nat → Prop} {w w' : World} {key fr ut pairs : Value} {d : CmdD}
theorem CmdR.below (h : CmdR ok w key fr ut pairs d) (hb : Below w.heap.size w w') : CmdR ok w' key fr ut pairs d :=
  ⟨h.key.below hb, h.fr.below hb, h.upto.below hb, h.pairs.below hb⟩
theorem CmdR.kp (hk : Kp ok w w') (h : CmdR ok w key fr ut pairs d) : CmdR ok w' key fr ut pairs d := ⟨h.key.kp hk, h.fr.kp hk, h.upto.kp hk, h.pairs.kp hk⟩
theorem CmdR.mono (hm : ∀ b, ok b → b < w.heap.size → ok' b) (h : CmdR ok w key fr ut pairs d) : CmdR ok' w key fr ut pairs d := ⟨h.key.mono (by decide) hm, h.fr.mono (by decide) hm, h.upto.mono (by decide) hm, h.pairs.mono (by decide) hm⟩
end
end Go.Proofs.YtnlhjhpikjmoaaaGreatDoor
