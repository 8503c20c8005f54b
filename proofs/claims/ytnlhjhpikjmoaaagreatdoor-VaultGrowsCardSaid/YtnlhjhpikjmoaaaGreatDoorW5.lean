/- Contracts: fault.Code, by errors.As.
Contracts: the bytes of values.
What the cells of pairs, owners, routes, spans say. No program in sight.
What the cells of values, columns, tables, indexes say. No program in sight.
Blocks read and written whole; what the cells of a command say. No program in sight.
The disk and the log as plain data: what each function of packages disk and wal computes. No program in sight.
The disk in memory: sectors, what waits.
Contracts: errors.Is of two error numbers; disk.fine, up, hit, Down, Size, New.
Structs and slices put together of parts of many cells. Contract: disk.New.
A write put together; contract: (*Disk).Write.
A region that draws its order, in which two lists of one's own are each made longer by one element, laid out in a block of its own: walked once. No program in sight.
Contract: (*Disk).Write. -/
import Derived.Test.YtnlhjhpikjmoaaaGreatDoorReg
import Derived.Test.YtnlhjhpikjmoaaaGreatDoorSeqG
import Derived.Deep.DeepCutAuto
import Derived.Deep.CutBlock
import Derived.WalkKit
import Derived.LaidEql
import Derived.Stop.Asserts
import Derived.RowKitTokens
import Derived.Deep.MidRow
import Derived.Lib.IfaceEq
import Derived.Laws.MakeOwn
import Derived.Great.BuildSlice
import Derived.Test.YtnlhjhpikjmoaaaGreatDoorSeq
import Derived.Outline
namespace Go.Proofs.YtnlhjhpikjmoaaaGreatDoor
open Go.RowKit
def ErrV : Nat → World → Value → Int → Prop
  | 0, _, v, c => v = .iface 40 (.int .i64 c)
  | k + 1, w, v, c => ∃ (b : Nat) (s u : Value), v = .iface 113 (.pointer (some ⟨b, 0, none⟩)) ∧ Blk w b 115 #[s, u] ∧ ErrV k w u c
theorem ErrV.below {w w' : World} (hb : Below w.heap.size w w') : ∀ {k : Nat} {v : Value} {c : Int}, ErrV k w v c → ErrV k w' v c
  | 0, _, _, h => h
  | _ + 1, _, _, ⟨b, s, u, h1, h2, h3⟩ => ⟨b, s, u, h1, h2.below hb h2.lt, ErrV.below hb h3⟩
theorem ErrV.form {w : World} : ∀ {k : Nat} {v : Value} {c : Int}, ErrV k w v c → ∃ t u, v = .iface t u
  | 0, _, _, h => ⟨_, _, h⟩
  | _ + 1, _, _, ⟨_, _, _, h, _⟩ => ⟨_, _, h⟩
end Go.Proofs.YtnlhjhpikjmoaaaGreatDoor
namespace Go.Proofs.YtnlhjhpikjmoaaaGreatDoor
open Go.RowKit
theorem Tryz.infoU8 : (Tryz.prog.info? 5).map (fun i => (i.zero, i.size, i.bytes)) = some (some (.int .u8 0), 1, 1) := by kernel_rfl
def OwnB (base : Nat) (w : World) (A : Option Addr) (n c : Nat) (l : List UInt8) : Prop := w.ownsRow base 5 1 (.slice A n c) n (bs l)
theorem OwnB.nil_ (base : Nat) (w : World) : OwnB base w none 0 0 [] := World.ownsRow_nil _ _ _ _
theorem OwnB.alloc {base : Nat} {w : World} {A : Option Addr} {n c : Nat} {l : List UInt8} (h : OwnB base w A n c l) (o : Obj) : OwnB base (w.alloc o) A n c l := World.ownsRow.alloc h o
theorem OwnB.mono {base B : Nat} {w : World} {A : Option Addr} {n c : Nat} {l : List UInt8} (h : OwnB B w A n c l) (hb : base ≤ B) : OwnB base w A n c l := by
  refine ⟨h.1, ?_⟩
  rcases h.2 with h2 | ⟨g, cap, cur, hv, hg, r⟩
  · exact .inl h2
  · exact .inr ⟨g, cap, cur, hv, Nat.le_trans hb hg, r⟩
theorem OwnB.belowB {base : Nat} {w w' : World} {A : Option Addr} {n c : Nat} {l : List UInt8} (h : OwnB base w A n c l) (hb : Below w.heap.size w w') : OwnB base w' A n c l := by
  refine ⟨h.1, ?_⟩
  rcases h.2 with h2 | ⟨g, cap, cur, hv, hg, hh, r⟩
  · exact .inl h2
  · exact .inr ⟨g, cap, cur, hv, hg, (hb.block g (Array.getElem?_eq_some_iff.1 hh).1).trans hh, r⟩
theorem OwnB.len {base : Nat} {w : World} {A : Option Addr} {n c : Nat} {l : List UInt8} (h : OwnB base w A n c l) : l.length = n := by
  have := h.1; simpa using this
theorem OwnB.rd {base : Nat} {w : World} {A : Option Addr} {n c : Nat} {l : List UInt8} (h : OwnB base w A n c l) : Rd w 1 A n (bs l) := Rd.of_own h
theorem wp_append_bytes {ops : Array Oper} {rest : List Oper} {o : Oper} {a : Act} {Q : Exit → Act → World → Prop} (hgd : o.guard = none) (s x : Operand)
    (ho : o.op = .call { callee := .builtin .append, args := #[s, x], argTypes := #[25, 25] })
    (base : Nat) (A0 : Option Addr) (n c0 : Nat) (l : List UInt8) (w : World) (hs : a.eval s = .slice A0 n c0) (hown : OwnB base w A0 n c0 l)
    (A : Option Addr) (m c : Nat) (l2 : List UInt8) (hx : a.eval x = .slice A m c) (hr : Rd w 1 A m (bs l2)) (hlen : n + m ≤ 140737488355328) (hbase : base ≤ w.heap.size)
    (h : ∀ A' c' w', OwnB base w' A' (n + m) c' (l ++ l2) → Below base w w' → wpList Tryz.prog ops Q rest (a.put o.dst (.slice A' (n + m) c')) w') : wpList Tryz.prog ops Q (o :: rest) a w := by
  obtain ⟨i0, hi0, hz0, hz1, hz2⟩ := info_parts Tryz.infoU8
  refine wpList_append_rd w hgd s x _ ho base 5 i0 _ 1 1 Tryz.underlying25 hi0 hz0 hz1 hz2 rfl (by omega) A0 n c0 (bs l) hs hown A m c (bs l2) hx hr (bs_one l2) (by unfold maxLen; omega) (by omega) hbase fun A' c' w' h2 h3 => h A' c' w' ?_ h3
  unfold OwnB
  rw [bs_append]
  exact h2
theorem wp_append_byte {ops : Array Oper} {rest : List Oper} {o : Oper} {a : Act} {Q : Exit → Act → World → Prop} (hgd : o.guard = none) (s x : Operand)
    (ho : o.op = .call { callee := .builtin .append, args := #[s, x], argTypes := #[25, 25] })
    (base : Nat) (A0 : Option Addr) (n c0 : Nat) (l : List UInt8) (w : World) (X : Int) (b : UInt8) (hX : X = (b.toNat : Int)) (hs : a.eval s = .slice A0 n c0) (hown : OwnB base w A0 n c0 l)
    (hx : a.eval x = .slice (some ⟨w.heap.size, 0, none⟩) 1 1) (hlen : n + 1 ≤ 140737488355328) (hbase : base ≤ w.heap.size)
    (h : ∀ A' c' w', OwnB base w' A' (n + 1) c' (l ++ [b]) → Below base w w' → wpList Tryz.prog ops Q rest (a.put o.dst (.slice A' (n + 1) c')) w') : wpList Tryz.prog ops Q (o :: rest) a (w.alloc (.cells #[.int .u8 X] 5)) := by
  subst hX
  refine wp_append_bytes hgd s x ho base A0 n c0 l _ hs (hown.alloc _) _ 1 1 [b] hx (Rd.new w _ 1 1 _ rfl) hlen (by simp; omega) fun A' c' w' h2 h3 => h A' c' w' h2 (((Below.refl _ _).alloc hbase _).trans h3)
theorem OwnB.cap {base : Nat} {w : World} {A : Option Addr} {n c : Nat} {l : List UInt8} (h : OwnB base w A n c l) : n ≤ c := by
  obtain ⟨A', c', hv, hc, _⟩ := own_slice w h
  simp only [Value.slice.injEq] at hv
  obtain ⟨_, _, rfl⟩ := hv
  exact hc
end Go.Proofs.YtnlhjhpikjmoaaaGreatDoor
namespace Go.Proofs.YtnlhjhpikjmoaaaGreatDoor
open Go.RowKit
def I64 (i : Int) : Prop := -9223372036854775808 ≤ i ∧ i < 9223372036854775808
structure PairD where
  k : List UInt8
  v : List UInt8
  n : Int
def rPair : Rel PairD where
  sz := 3
  wt := 56
  rel ok w cs p := ∃ a b, cs = [a, b, .int .i64 p.n] ∧ RB ok w a p.k ∧ RB ok w b p.v ∧ I64 p.n
  len := by rintro ok w cs d ⟨a, b, rfl, _⟩; rfl
  one := by
    rintro ok w cs d ⟨a, b, rfl, h1, h2, _⟩ u hu
    simp at hu
    rcases hu with rfl | rfl | rfl
    · exact h1.one
    · exact h2.one
    · rfl
  kp := by
    rintro ok w w' cs d hk ⟨a, b, rfl, h1, h2, h3⟩
    exact ⟨a, b, rfl, h1.kp hk, h2.kp hk, h3⟩
  mono := by
    rintro ok ok' w cs d hm ⟨a, b, rfl, h1, h2, h3⟩
    exact ⟨a, b, rfl, h1.mono (by decide) hm, h2.mono (by decide) hm, h3⟩
end Go.Proofs.YtnlhjhpikjmoaaaGreatDoor
namespace Go.Proofs.YtnlhjhpikjmoaaaGreatDoor
open Go.RowKit
def rInt : Rel Int where
  sz := 1
  wt := 8
  rel _ _ cs i := cs = [.int .i64 i] ∧ I64 i
  len := by rintro ok w cs d ⟨rfl, _⟩; rfl
  one := by
    rintro ok w cs d ⟨rfl, _⟩ u hu
    simp at hu
    subst hu
    rfl
  kp := fun _ h => h
  mono := fun _ h => h
def rVal : Rel Val where
  sz := 3
  wt := 32
  rel _ _ cs x := cs = x.cs ∧ x.ok
  len := by rintro ok w cs d ⟨rfl, _⟩; rfl
  one := by
    rintro ok w cs d ⟨rfl, _⟩ u hu
    simp [Val.cs] at hu
    rcases hu with rfl | rfl | rfl <;> rfl
  kp := fun _ h => h
  mono := fun _ h => h
structure ColD where
  name : ByteArray
  kind : Int
  null : Bool
def rCol : Rel ColD where
  sz := 3
  wt := 32
  rel _ _ cs c := cs = [.string c.name, .int .i64 c.kind, .bool c.null] ∧ I64 c.kind ∧ c.name.size ≤ 9223372036854775807
  len := by rintro ok w cs d ⟨rfl, _⟩; rfl
  one := by
    rintro ok w cs d ⟨rfl, _⟩ u hu
    simp at hu
    rcases hu with rfl | rfl | rfl <;> rfl
  kp := fun _ h => h
  mono := fun _ h => h
theorem chunks_vals {ok : Nat → Prop} {w : World} : ∀ {css : List (List Value)} {l : List Val}, Chunks rVal ok w css l → css.flatten = vcs l ∧ okVals l
  | [], [], _ => ⟨rfl, fun x hx => by cases hx⟩
  | _ :: _, x :: l, h => by
    obtain ⟨h1, h2⟩ := chunks_vals h.2
    refine ⟨by rw [List.flatten_cons, h1, h.1.1]; rfl, fun y hy => ?_⟩
    rcases List.mem_cons.1 hy with rfl | hy
    · exact h.1.2
    · exact h2 y hy
  | [], _ :: _, h => h.elim
  | _ :: _, [], h => h.elim
theorem vals_chunks (ok : Nat → Prop) (w : World) : ∀ l : List Val, okVals l → Chunks rVal ok w (l.map Val.cs) l ∧ (l.map Val.cs).flatten = vcs l
  | [], _ => ⟨trivial, rfl⟩
  | x :: l, h => ⟨⟨⟨rfl, h x (by simp)⟩, (vals_chunks ok w l fun y hy => h y (by simp [hy])).1⟩, by rw [List.map_cons, List.flatten_cons, (vals_chunks ok w l fun y hy => h y (by simp [hy])).2]; rfl⟩
abbrev RV (ok : Nat → Prop) (w : World) (v : Value) (l : List Val) : Prop := RSl rVal ok w v l
section
variable {ok : Nat → Prop} {w : World}
theorem RV.open_ {v : Value} {l : List Val} (h : RV ok w v l) : ∃ A c, v = .slice A l.length c ∧ l.length ≤ c ∧ l.length ≤ 4398046510976 ∧ Rd w 3 A l.length (vcs l) ∧ okVals l ∧ (0 < l.length → ∀ a, A = some a → ok a.block) := by
  obtain ⟨A, n, c, css, rfl, hc, hn, hb, hr, hch, ho⟩ := h
  subst hn
  obtain ⟨h1, h2⟩ := chunks_vals hch
  rw [h1] at hr
  exact ⟨A, c, rfl, hc, by simp [rVal] at hb; omega, hr, h2, ho⟩
theorem RV.mk_ {A : Option Addr} {n c : Nat} {l : List Val} (hr : Rd w 3 A n (vcs l)) (hc : n ≤ c) (hb : n ≤ 4398046510976) (hk : okVals l) (ho : 0 < n → ∀ a, A = some a → ok a.block) : RV ok w (.slice A n c) l := by
  obtain ⟨h1, h2⟩ := vals_chunks ok w l hk
  have hn : l.length = n := by have := hr.1; rw [vcs_length] at this; omega
  refine ⟨A, n, c, _, rfl, hc, hn, by simp [rVal]; omega, ?_, h1, ho⟩
  rw [h2]
  exact hr
end
structure TabD where
  id : Int
  name : ByteArray
  cols : List ColD
  key : List Int
structure TabR (ok : Nat → Prop) (w : World) (a b : Value) (d : TabD) : Prop where
  cols : RSl rCol ok w a d.cols
  key : RSl rInt ok w b d.key
  id : I64 d.id
  nm : d.name.size ≤ 9223372036854775807
theorem TabR.below {ok : Nat → Prop} {w w' : World} {a b : Value} {d : TabD} (h : TabR ok w a b d) (hb : Below w.heap.size w w') : TabR ok w' a b d := ⟨h.cols.below hb, h.key.below hb, h.id, h.nm⟩
def at_ (row : List Val) (k : Int) : Option Val := if 0 ≤ k ∧ k < row.length then row[k.toNat]? else none
end Go.Proofs.YtnlhjhpikjmoaaaGreatDoor
namespace Go.Proofs.YtnlhjhpikjmoaaaGreatDoor
open Go.RowKit
section
variable {w w' : World} {g : Nat} {T : TypeId} {C : Array Value}
theorem Blk.range (h : Blk w g T C) : w.rangeAt g 0 C.toList := fun j v hv => by
  rw [Nat.zero_add, h.cell j]
  simpa using hv
theorem Blk.there (h : Blk w g T C) : w.there g 0 C.size := fun j hj => by
  rw [Nat.zero_add]
  exact ⟨by rw [h.cell j, Array.getElem?_eq_getElem hj]; rfl, h.frozen j⟩
theorem Blk.setCells_at : ∀ (vs : List Value) (o : Nat) {w : World} {C : Array Value}, Blk w g T C → Blk (w.setCells g o vs) g T ((List.range vs.length).foldl (fun a i => a.setIfInBounds (o + i) (vs.getD i undef)) C)
  | [], _, _, _, h => h
  | v :: r, o, w, C, h => by
    have := Blk.setCells_at r (o + 1) (h.set_ o v)
    rw [World.setCells, List.length_cons, List.range_succ_eq_map, List.foldl_cons, List.foldl_map]
    simpa [Nat.add_assoc, Nat.add_comm 1] using this
theorem foldl_set (vs : List Value) : ∀ (n : Nat) (C : Array Value), n ≤ vs.length → C.size = vs.length → ((List.range n).foldl (fun a i => a.setIfInBounds (0 + i) (vs.getD i undef)) C).toList = vs.take n ++ C.toList.drop n ∧ ((List.range n).foldl (fun a i => a.setIfInBounds (0 + i) (vs.getD i undef)) C).size = vs.length
  | 0, C, _, hs => by simp [hs]
  | n + 1, C, hn, hs => by
    obtain ⟨h1, h2⟩ := foldl_set vs n C (by omega) hs
    rw [List.range_succ, List.foldl_append, List.foldl_cons, List.foldl_nil]
    refine ⟨?_, by simpa using h2⟩
    rw [Array.toList_setIfInBounds, h1, Nat.zero_add]
    have hl : (vs.take n).length = n := by simp; omega
    have hd : C.toList.drop n = C.toList[n]'(by simp [hs]; omega) :: C.toList.drop (n + 1) := List.drop_eq_getElem_cons (by simp [hs]; omega)
    rw [hd, List.set_append_right _ _ (by omega), hl, Nat.sub_self, List.set_cons_zero, List.take_succ_eq_append_getElem (by omega), List.append_assoc]
    simp [List.getD, List.getElem?_eq_getElem (show n < vs.length by omega)]
theorem Blk.setCells (h : Blk w g T C) (cs : Array Value) (hs : C.size = cs.size) : Blk (w.setCells g 0 cs.toList) g T cs := by
  have h1 := h.setCells_at cs.toList 0
  obtain ⟨h2, _⟩ := foldl_set cs.toList cs.toList.length C (Nat.le_refl _) (by simpa using hs)
  have h3 : (List.range cs.toList.length).foldl (fun a i => a.setIfInBounds (0 + i) (cs.toList.getD i undef)) C = cs := by
    refine Array.ext' ?_
    rw [h2, List.take_length, List.drop_of_length_le (by simp [hs]), List.append_nil]
  rwa [h3] at h1
theorem Kp.setCells {ok : Nat → Prop} {a : World} {b : Nat} (hb : b < a.heap.size → ¬ ok b) : ∀ (vs : List Value) (o : Nat) {w : World}, Kp ok a w → Kp ok a (w.setCells b o vs)
  | [], _, _, h => h
  | v :: r, o, _, h => by rw [World.setCells]; exact Kp.setCells hb r (o + 1) (h.setCell (p := ⟨b, o, none⟩) hb v)
theorem below_setCells {B : Nat} {a : World} {b : Nat} (hb : B ≤ b) : ∀ (vs : List Value) (o : Nat) {w : World}, Below B a w → Below B a (w.setCells b o vs)
  | [], _, _, h => h
  | v :: r, o, _, h => by rw [World.setCells]; exact below_setCells hb r (o + 1) (h.setCell (p := ⟨b, o, none⟩) hb v)
@[simp] theorem size_setCells {b : Nat} : ∀ (vs : List Value) (o : Nat) {w : World}, (w.setCells b o vs).heap.size = w.heap.size
  | [], _, _ => rfl
  | v :: r, o, _ => by rw [World.setCells, size_setCells r (o + 1)]; simp
theorem Blk.loadAt {P : Program} {ty : TypeId} {d : TypeDesc} (h : Blk w g T C) (hu : P.underlying ty = some d) (hd : d.isRow = true) (hi : (P.info? ty).map (·.size) = some C.size) : (Instr.loadAt ty (.pointer (some ⟨g, 0, none⟩))).run P w = .ok (.agg C) w := by
  have := run_loadAt_mid (P := P) w g 0 ty C.toList d h.range hu hd (by simpa using hi)
  simpa using this
theorem Blk.loadVar {P : Program} {ty : TypeId} {d : TypeDesc} (h : Blk w g T C) (hu : P.underlying ty = some d) (hd : d.isRow = true) (hi : (P.info? ty).map (·.size) = some C.size) : (Go.loadVar ty ⟨g, 0, none⟩).run P w = .ok (.agg C) w := by
  have := run_loadVar_mid (P := P) w g 0 ty C.toList d h.range hu hd (by simpa using hi)
  simpa using this
variable {P : Program} {ops : Array Oper} {rest : List Oper} {o : Oper} {a : Act} {Q : Exit → Act → World → Prop}
theorem wpList_storeB (hgd : o.guard = none) {ty : TypeId} {x y : Operand} (ho : o.op = .store ty x y) (cs : Array Value) (hx : a.eval x = .pointer (some ⟨g, 0, none⟩)) (hy : a.eval y = .agg cs) (hk : Blk w g T C) (hs : C.size = cs.size) (hi : (P.info? ty).map (·.size) = some cs.size) (h1 : cs.all (·.oneCell') = true)
    (h : Blk (w.setCells g 0 cs.toList) g T cs → wpList P ops Q rest (a.put o.dst undef) (w.setCells g 0 cs.toList)) : wpList P ops Q (o :: rest) a w :=
  wpList_store_mid hgd ty x y ho g 0 cs hx hy (hs ▸ hk.there) hi h1 (h (hk.setCells cs hs))
end
theorem asAddr_ok {P : Program} (p : Addr) (w : World) : (asAddr (.pointer (some p))).run P w = .ok p w := rfl
structure CmdD where
  kind : Int
  n : Int
  flag : Bool
  key : List UInt8
  from_ : List UInt8
  upto : List UInt8
  pairs : List PairD
structure CmdR (ok : Nat → Prop) (w : World) (key fr ut pairs : Value) (d : CmdD) : Prop where
  key : RB ok w key d.key
  fr : RB ok w fr d.from_
  upto : RB ok w ut d.upto
  pairs : RSl rPair ok w pairs d.pairs
section
variable {ok ok' : Nat → Prop} {w w' : World} {key fr ut pairs : Value} {d : CmdD}
theorem CmdR.below (h : CmdR ok w key fr ut pairs d) (hb : Below w.heap.size w w') : CmdR ok w' key fr ut pairs d :=
  ⟨h.key.below hb, h.fr.below hb, h.upto.below hb, h.pairs.below hb⟩
theorem CmdR.kp (hk : Kp ok w w') (h : CmdR ok w key fr ut pairs d) : CmdR ok w' key fr ut pairs d := ⟨h.key.kp hk, h.fr.kp hk, h.upto.kp hk, h.pairs.kp hk⟩
theorem CmdR.mono (hm : ∀ b, ok b → b < w.heap.size → ok' b) (h : CmdR ok w key fr ut pairs d) : CmdR ok' w key fr ut pairs d := ⟨h.key.mono (by decide) hm, h.fr.mono (by decide) hm, h.upto.mono (by decide) hm, h.pairs.mono (by decide) hm⟩
end
end Go.Proofs.YtnlhjhpikjmoaaaGreatDoor
namespace Go.Proofs.YtnlhjhpikjmoaaaGreatDoor
open Go.RowKit
structure DskD where
  kept : List (List UInt8)
  wait : List (Nat × List UInt8)
  down : Bool
  armed : Nat
def DskD.hit (d : DskD) : DskD × Bool := if d.armed = 0 then (d, false) else ({ d with armed := d.armed - 1, down := decide (d.armed - 1 = 0) }, decide (d.armed - 1 = 0))
def showW (i : Nat) (s : List UInt8) (l : List (Nat × List UInt8)) : List UInt8 := l.foldl (fun s p => if p.1 = i then p.2 else s) s
def DskD.shown (d : DskD) (i : Nat) : List UInt8 := showW i (d.kept.getD i []) d.wait
def DskD.read (d : DskD) (i : Int) : List UInt8 × Int := if d.down = true then ([], 3) else if i < 0 ∨ (d.kept.length : Int) ≤ i then ([], 1) else (d.shown i.toNat, 0)
def DskD.write (d : DskD) (i : Int) (b : List UInt8) : DskD × Int :=
  if d.down = true then (d, 3) else if i < 0 ∨ (d.kept.length : Int) ≤ i ∨ b.length ≠ 64 then (d, 1) else
  (({ d with wait := d.wait ++ [(i.toNat, b)] } : DskD).hit.1, if ({ d with wait := d.wait ++ [(i.toNat, b)] } : DskD).hit.2 = true then 3 else 0)
def keepW (k : List (List UInt8)) (l : List (Nat × List UInt8)) : List (List UInt8) := l.foldl (fun k p => k.set p.1 p.2) k
def DskD.flush (d : DskD) : DskD × Int :=
  if d.down = true then (d, 3) else if d.hit.2 = true then (d.hit.1, 3) else ({ d.hit.1 with kept := keepW d.kept d.wait, wait := [] }, 0)
def newD (n : Nat) : DskD := ⟨List.replicate n (List.replicate 64 0), [], false, 0⟩
structure DskD.Ok (d : DskD) : Prop where
  kept : ∀ s ∈ d.kept, s.length = 64
  wait : ∀ p ∈ d.wait, p.1 < d.kept.length ∧ p.2.length = 64
theorem keepW_len : ∀ (l : List (Nat × List UInt8)) (k : List (List UInt8)), (keepW k l).length = k.length
  | [], k => rfl
  | p :: l, k => by
    show (keepW (k.set p.1 p.2) l).length = _
    rw [keepW_len l, List.length_set]
theorem keepW_64 : ∀ (l : List (Nat × List UInt8)) (k : List (List UInt8)), (∀ s ∈ k, s.length = 64) → (∀ p ∈ l, p.2.length = 64) → ∀ s ∈ keepW k l, s.length = 64
  | [], k, h, _ => h
  | p :: l, k, h, hl => keepW_64 l (k.set p.1 p.2) (fun s hs => (List.mem_or_eq_of_mem_set hs).elim (h s) fun e => e ▸ hl p (by simp)) fun q hq => hl q (List.mem_cons_of_mem _ hq)
theorem showW_64 (i : Nat) : ∀ (l : List (Nat × List UInt8)) (s : List UInt8), s.length = 64 → (∀ p ∈ l, p.2.length = 64) → (showW i s l).length = 64
  | [], s, h, _ => h
  | p :: l, s, h, hl => by
    show (showW i (if p.1 = i then p.2 else s) l).length = 64
    refine showW_64 i l _ ?_ fun q hq => hl q (List.mem_cons_of_mem _ hq)
    split
    · exact hl p (by simp)
    · exact h
theorem DskD.shown_64 {d : DskD} (h : d.Ok) {i : Nat} (hi : i < d.kept.length) : (d.shown i).length = 64 :=
  showW_64 i _ _ (by rw [List.getD_eq_getElem?_getD, List.getElem?_eq_getElem hi]; exact h.kept _ (List.getElem_mem _)) fun p hp => (h.wait p hp).2
end Go.Proofs.YtnlhjhpikjmoaaaGreatDoor
namespace Go.Proofs.YtnlhjhpikjmoaaaGreatDoor
open Go.RowKit
theorem bs_len (l : List UInt8) : (bs l).length = l.length := by simp [bs]
def rWt : Rel (Nat × List UInt8) where
  sz := 65
  wt := 72
  rel _ _ cs p := cs = .int .i64 (p.1 : Int) :: bs p.2 ∧ p.2.length = 64
  len := by rintro ok w cs d ⟨rfl, h⟩; rw [List.length_cons, bs_len, h]
  one := by
    rintro ok w cs d ⟨rfl, _⟩ u hu
    rcases List.mem_cons.1 hu with rfl | hu
    · rfl
    · exact bs_one _ u hu
  kp := fun _ h => h
  mono := fun _ h => h
def secCells : List (List UInt8) → List Value
  | [] => []
  | s :: k => bs s ++ secCells k
theorem secCells_len : ∀ (k : List (List UInt8)), (∀ s ∈ k, s.length = 64) → (secCells k).length = k.length * 64
  | [], _ => rfl
  | s :: k, h => by
    rw [secCells, List.length_append, bs_len, h s (by simp), secCells_len k fun t ht => h t (List.mem_cons_of_mem _ ht), List.length_cons]
    omega
theorem secCells_get : ∀ (k : List (List UInt8)), (∀ s ∈ k, s.length = 64) → ∀ (i : Nat) (hi : i < k.length) (j : Nat), j < 64 → (secCells k)[i * 64 + j]? = (bs k[i])[j]?
  | s :: k, h, 0, _, j, hj => by
    rw [secCells, Nat.zero_mul, Nat.zero_add, List.getElem?_append_left (by rw [bs_len, h s (by simp)]; exact hj)]
    rfl
  | s :: k, h, i + 1, hi, j, hj => by
    have h0 := h s (by simp)
    rw [secCells, List.getElem?_append_right (by rw [bs_len, h0]; omega), bs_len, h0, show (i + 1) * 64 + j - 64 = i * 64 + j by omega]
    exact secCells_get k (fun t ht => h t (List.mem_cons_of_mem _ ht)) i (by simpa using hi) j hj
theorem secCells_split : ∀ (k : List (List UInt8)) (i : Nat) (hi : i < k.length) (s : List UInt8), secCells (k.set i s) = secCells (k.take i) ++ bs s ++ secCells (k.drop (i + 1))
  | t :: k, 0, _, s => by simp [secCells]
  | t :: k, i + 1, hi, s => by
    rw [List.set_cons_succ, List.take_succ_cons, List.drop_succ_cons, secCells, secCells, secCells_split k i (by simpa using hi) s]
    simp
def DiskR (ft : Nat → Prop) (w : World) (g : Nat) (d : DskD) : Prop :=
  ∃ kb vw, Blk w g 91 #[.slice (some ⟨kb, 0, none⟩) d.kept.length d.kept.length, vw, .bool d.down, .int .i64 (d.armed : Int)] ∧ Blk w kb 93 (secCells d.kept).toArray ∧
    OwnL rWt (fun _ => False) 0 95 w vw d.wait ∧ kb ≠ g ∧ some g ≠ vw.ownBlock ∧ some kb ≠ vw.ownBlock ∧ ft g ∧ ft kb ∧ (∀ b, vw.ownBlock = some b → ft b) ∧ d.Ok ∧ 1 ≤ d.kept.length ∧ d.kept.length ≤ 65536 ∧ d.armed < 9223372036854775808 ∧ d.wait.length ≤ 1000000000
theorem DiskR.kp {ft ok : Nat → Prop} {w w' : World} {g : Nat} {d : DskD} (h : DiskR ft w g d) (hk : Kp ok w w') (hok : ∀ b, ft b → ok b) : DiskR ft w' g d := by
  obtain ⟨kb, vw, h1, h2, h3, h4, h5, h6, h7, h8, h9, h10⟩ := h
  exact ⟨kb, vw, h1.kp hk (hok _ h7), h2.kp hk (hok _ h8), h3.kp hk (fun _ h => h.elim) fun b hb => hok b (h9 b hb), h4, h5, h6, h7, h8, h9, h10⟩
theorem DiskR.below {ft : Nat → Prop} {w w' : World} {g : Nat} {d : DskD} (h : DiskR ft w g d) (hb : Below w.heap.size w w') : DiskR ft w' g d := h.kp (.of_below hb (ok := fun _ => True)) fun _ _ => trivial
theorem DiskR.mono {ft ft' : Nat → Prop} {w : World} {g : Nat} {d : DskD} (h : DiskR ft w g d) (hm : ∀ b, ft b → b < w.heap.size → ft' b) : DiskR ft' w g d := by
  obtain ⟨kb, vw, h1, h2, h3, h4, h5, h6, h7, h8, h9, h10⟩ := h
  exact ⟨kb, vw, h1, h2, h3, h4, h5, h6, hm _ h7 h1.lt, hm _ h8 h2.lt, fun b hb => hm b (h9 b hb) (h3.lt b hb).2, h10⟩
theorem DiskR.lt {ft : Nat → Prop} {w : World} {g : Nat} {d : DskD} (h : DiskR ft w g d) : g < w.heap.size := by
  obtain ⟨kb, vw, h1, _⟩ := h
  exact h1.lt
theorem DiskR.ft {ft : Nat → Prop} {w : World} {g : Nat} {d : DskD} (h : DiskR ft w g d) : ft g := by
  obtain ⟨kb, vw, h1, h2, h3, h4, h5, h6, h7, _⟩ := h
  exact h7
theorem DiskR.ok {ft : Nat → Prop} {w : World} {g : Nat} {d : DskD} (h : DiskR ft w g d) : d.Ok ∧ 1 ≤ d.kept.length ∧ d.kept.length ≤ 65536 ∧ d.armed < 9223372036854775808 ∧ d.wait.length ≤ 1000000000 := by
  obtain ⟨kb, vw, h1, h2, h3, h4, h5, h6, h7, h8, h9, h10⟩ := h
  exact h10
theorem dk_cells {w : World} {g : Nat} {T : TypeId} {a b c d : Value} (h : Blk w g T #[a, b, c, d]) : w.cell? ⟨g, 0, none⟩ = some a ∧ w.cell? ⟨g, 1, none⟩ = some b ∧ w.cell? ⟨g, 2, none⟩ = some c ∧ w.cell? ⟨g, 3, none⟩ = some d := ⟨h.cell 0, h.cell 1, h.cell 2, h.cell 3⟩
theorem sec_range {w : World} {kb : Nat} {T : TypeId} {k : List (List UInt8)} (h : Blk w kb T (secCells k).toArray) (hk : ∀ s ∈ k, s.length = 64) {i : Nat} (hi : i < k.length) : w.rangeAt kb (i * 64) (bs k[i]) := fun j v hv => by
  have hj : j < 64 := by
    have := (List.getElem?_eq_some_iff.1 hv).1
    rw [bs_len, hk _ (List.getElem_mem _)] at this
    exact this
  rw [h.cell (i * 64 + j), List.getElem?_toArray, secCells_get k hk i hi j hj]
  exact hv
end Go.Proofs.YtnlhjhpikjmoaaaGreatDoor
namespace Go.Proofs.YtnlhjhpikjmoaaaGreatDoor
open Go.RowKit Go.Extern.Stop Go.Stop Go.Extern
theorem Tryz.isTypeOf (v : Value) (w : World) : (Extern.ReflectliteType.typeOf #[.iface 40 v]).run Tryz.prog w = .ok (.iface 149 (.agg #[typeHandle Tryz.prog 40])) w := by kernel_rfl
theorem Tryz.isComparable (w : World) : (callFunc 137 #[.agg #[typeHandle Tryz.prog 40]]).run Tryz.prog w = .ok (.value (.bool true)) w := by
  rw [@run_callFunc_extern Tryz.prog 137 _ (Extern.ReflectliteType.method fun t => do Go.Extern.Rtype.noPackHeld "Comparable" t; pure (.bool (← typeInfo t).comparable)) Tryz.func137 (by kernel_rfl) (by kernel_rfl) (by kernel_rfl) (by kernel_rfl)]
  kernel_rfl
theorem Tryz.isMethodComparable (v : Value) (w : World) : (Go.method 310 149 v "Comparable").run Tryz.prog w = .ok (137, v) w := by kernel_rfl
theorem Tryz.isComp : (Tryz.prog.info? 40).map (·.comparable) = some true := by kernel_rfl
theorem Tryz.noIs (v : Value) (xT : TypeId) (w : World) : (Instr.typeAssert (.iface 40 v) xT 177 true).run Tryz.prog w = .ok (.tuple #[.nilIface, .bool false]) w := run_typeAssert_lacksB Tryz.underlying177 (by kernel_rfl) (by kernel_rfl) v xT w
theorem Tryz.noUnwrap (v : Value) (xT : TypeId) (w : World) : (Instr.typeAssert (.iface 40 v) xT 157 true).run Tryz.prog w = .ok (.tuple #[.nilIface, .bool false]) w := run_typeAssert_lacksB Tryz.underlying157 (by kernel_rfl) (by kernel_rfl) v xT w
theorem Tryz.noUnwraps (v : Value) (xT : TypeId) (w : World) : (Instr.typeAssert (.iface 40 v) xT 159 true).run Tryz.prog w = .ok (.tuple #[.nilIface, .bool false]) w := run_typeAssert_lacksB Tryz.underlying159 (by kernel_rfl) (by kernel_rfl) v xT w
set_option maxRecDepth 100000 in
set_option maxHeartbeats 3200000 in
theorem errIs_any (a b : Int) (w : World) :
    Calls Tryz.prog 92 #[.iface 40 (.int .i64 a), .iface 40 (.int .i64 b)] w fun e w' => e = .returned (.bool (a == b)) ∧ w' = w := by
  have h8 := @run_callFunc_extern Tryz.prog 93 _ Extern.ReflectliteType.typeOf Tryz.func93 (by kernel_rfl) (by kernel_rfl) (by kernel_rfl) (by kernel_rfl)
  have tT := Tryz.isTypeOf
  have cT := Tryz.isComparable
  have mR := Tryz.isMethodComparable
  have nE := Tryz.noIs
  have uE := Tryz.noUnwrap
  have vE := Tryz.noUnwraps
  have heq := Lib.run_eql_iface_int (P := Tryz.prog) w (k := .i64) a b Tryz.underlying37 Tryz.isComp Tryz.underlying40
  cases hab : (a == b) <;> rw [hab] at heq
  · go_enter Tryz.func92, Tryz.ntmps92
    go_wp2
    refine wp_loop_rounds 1 ?_
    rw [rounds_succ]
    go_wp2
    go_ret
    exact ⟨rfl, rfl⟩
  · go_enter Tryz.func92, Tryz.ntmps92
    go_wp2
    refine wp_loop_rounds 1 ?_
    rw [rounds_succ]
    go_wp2
    go_ret
    exact ⟨rfl, rfl⟩
theorem fine_any (a : Int) (w : World) : Calls Tryz.prog 76 #[.iface 40 (.int .i64 a)] w fun e w' => e = .returned (.bool (a == 0)) ∧ w' = w := by
  go_enter Tryz.func76, Tryz.ntmps76
  go_wp2_with fail
  refine (errIs_any a 0 _).mono ?_
  rintro e w1 ⟨rfl, rfl⟩
  go_wp2
  go_ret
  exact ⟨rfl, rfl⟩
section
variable {ft : Nat → Prop} {g : Nat} {d : DskD} {w : World}
theorem up_any (h : DiskR ft w g d) : Calls Tryz.prog 75 #[.pointer (some ⟨g, 0, none⟩)] w fun e w' => e = .returned (.int .i64 (if d.down = true then 3 else 0)) ∧ w' = w := by
  obtain ⟨kb, vw, hb, _⟩ := h
  obtain ⟨c0, c1, c2, c3⟩ := dk_cells hb
  cases hd : d.down <;> rw [hd] at c2
  · go_enter Tryz.func75, Tryz.ntmps75
    go_wp2
    go_ret
    exact ⟨rfl, rfl⟩
  · go_enter Tryz.func75, Tryz.ntmps75
    go_wp2
    go_ret
    exact ⟨rfl, rfl⟩
theorem dDown_any (h : DiskR ft w g d) : Calls Tryz.prog 25 #[.pointer (some ⟨g, 0, none⟩)] w fun e w' => e = .returned (.bool d.down) ∧ w' = w := by
  obtain ⟨kb, vw, hb, _⟩ := h
  obtain ⟨c0, c1, c2, c3⟩ := dk_cells hb
  go_enter Tryz.func25, Tryz.ntmps25
  go_wp2
  go_ret
  exact ⟨rfl, rfl⟩
theorem dSize_any (h : DiskR ft w g d) : Calls Tryz.prog 47 #[.pointer (some ⟨g, 0, none⟩)] w fun e w' => e = .returned (.int .i64 (d.kept.length : Int)) ∧ w' = w := by
  obtain ⟨kb, vw, hb, _⟩ := h
  obtain ⟨c0, c1, c2, c3⟩ := dk_cells hb
  go_enter Tryz.func47, Tryz.ntmps47
  go_wp2
  go_ret
  exact ⟨rfl, rfl⟩
theorem hit_any (h : DiskR ft w g d) : Calls Tryz.prog 101 #[.pointer (some ⟨g, 0, none⟩)] w fun e w' => e = .returned (.bool d.hit.2) ∧ DiskR ft w' g d.hit.1 ∧ Kp (fun b => b ≠ g) w w' := by
  obtain ⟨kb, vw, h1, h2, h3, h4, h5, h6, h7, h8, h9, h10, h11, h12, h13, h14⟩ := h
  obtain ⟨c0, c1, c2, c3⟩ := dk_cells h1
  have fg := fun i => h1.frozen i
  by_cases ha : d.armed = 0
  · have t : ((d.armed : Int) == 0) = true := by rw [ha]; rfl
    have hh : d.hit = (d, false) := by unfold DskD.hit; rw [if_pos ha]
    rw [hh]
    have hR : DiskR ft w g d := ⟨kb, vw, h1, h2, h3, h4, h5, h6, h7, h8, h9, h10, h11, h12, h13, h14⟩
    clear h1 h2 h3 h9 h10
    go_enter Tryz.func101, Tryz.ntmps101
    go_wp2
    go_ret
    exact ⟨rfl, hR, Kp.refl _ _⟩
  · have t : ((d.armed : Int) == 0) = false := by simpa using ha
    have t' : decide ((d.armed : Int) = 0) = false := decide_eq_false (by omega)
    obtain ⟨k, hk⟩ : ∃ k, d.armed = k + 1 := ⟨d.armed - 1, by omega⟩
    have e1 : (d.armed : Int) - 1 = (k : Int) := by omega
    have hh : d.hit = ({ d with armed := k, down := decide (k = 0) }, decide (k = 0)) := by unfold DskD.hit; rw [if_neg ha, hk]; rfl
    rw [hh]
    have hfin : ∀ b, b = decide (k = 0) → DiskR ft ((w.setCell ⟨g, 3, none⟩ (.int .i64 (k : Int))).setCell ⟨g, 2, none⟩ (.bool b)) g { d with armed := k, down := decide (k = 0) } := fun b hb => by
      subst hb
      have hbb : Blk ((w.setCell ⟨g, 3, none⟩ (.int .i64 (k : Int))).setCell ⟨g, 2, none⟩ (.bool (decide (k = 0)))) g 91 #[.slice (some ⟨kb, 0, none⟩) d.kept.length d.kept.length, vw, .bool (decide (k = 0)), .int .i64 (k : Int)] := by simpa using (h1.set_ 3 (.int .i64 (k : Int))).set_ 2 (.bool (decide (k = 0)))
      have hK : Kp (fun b => b ≠ g) w ((w.setCell ⟨g, 3, none⟩ (.int .i64 (k : Int))).setCell ⟨g, 2, none⟩ (.bool (decide (k = 0)))) := ((Kp.refl _ _).setCell (fun _ h => h rfl) _).setCell (fun _ h => h rfl) _
      exact ⟨kb, vw, hbb, h2.kp hK h4, h3.kp hK (fun _ h => h.elim) (fun b hb e => h5 (by rw [← e]; exact hb.symm)), h4, h5, h6, h7, h8, h9, ⟨h10.kept, h10.wait⟩, h11, h12, by show k < _; omega, h14⟩
    have hK : ∀ b, Kp (fun b => b ≠ g) w ((w.setCell ⟨g, 3, none⟩ (.int .i64 (k : Int))).setCell ⟨g, 2, none⟩ (.bool b)) := fun b => ((Kp.refl _ _).setCell (fun _ h => h rfl) _).setCell (fun _ h => h rfl) _
    have HF := Lib.hid hfin
    clear hfin h1 h2 h3 h9 h10 hk ha hh
    by_cases k0 : k = 0
    · subst k0
      have u : (((0 : Nat) : Int) == 0) = true := rfl
      go_enter Tryz.func101, Tryz.ntmps101
      go_wp2
      go_ret
      simp only [e1, u]
      exact ⟨rfl, HF.out _ rfl, hK _⟩
    · have u : ((k : Int) == 0) = false := by simpa using k0
      have u' : decide ((k : Int) = 0) = false := decide_eq_false (by omega)
      have u2 : decide (k = 0) = false := decide_eq_false k0
      rw [u2]
      go_enter Tryz.func101, Tryz.ntmps101
      go_wp2
      go_ret
      simp only [e1, u]
      exact ⟨rfl, by have := HF.out _ u2.symm; rw [u2] at this; exact this, hK _⟩
end
end Go.Proofs.YtnlhjhpikjmoaaaGreatDoor
namespace Go.Proofs.YtnlhjhpikjmoaaaGreatDoor
open Go.RowKit
theorem zipFold : ∀ (vs : List Value) (k off : Nat) (cs : Array Value), off + k + vs.length ≤ cs.size → ((vs.zipIdx k).foldl (fun (cs : Array Value) (p : Value × Nat) => cs.setIfInBounds (off + p.2) p.1) cs).toList = cs.toList.take (off + k) ++ vs ++ cs.toList.drop (off + k + vs.length)
  | [], k, off, cs, _ => by simp
  | v :: vs, k, off, cs, h => by
    have ih := zipFold vs (k + 1) off (cs.setIfInBounds (off + k) v) (by simp only [Array.size_setIfInBounds]; simp at h; omega)
    rw [List.zipIdx_cons, List.foldl_cons, ih, Array.toList_setIfInBounds]
    have hk : off + k < cs.toList.length := by simp at h ⊢; omega
    rw [show off + (k + 1) = (off + k) + 1 by omega, List.drop_set_of_lt (by omega), List.take_succ_eq_append_getElem (by simpa using hk), List.take_set_of_le (Nat.le_refl _), List.getElem_set_self]
    simp only [List.append_assoc, List.singleton_append, List.length_cons]
    rw [show off + k + 1 + vs.length = off + k + (vs.length + 1) by omega]
theorem fill_part (vs cs : Array Value) (off : Nat) (h : off + vs.size ≤ cs.size) : (vs.zipIdx.foldl (fun cs (p : Value × Nat) => cs.setIfInBounds (off + p.2) p.1) cs).toList = cs.toList.take off ++ vs.toList ++ cs.toList.drop (off + vs.size) := by
  have := zipFold vs.toList 0 off cs (by simpa using h)
  rw [← Array.foldl_toList, Array.toList_zipIdx]
  simpa using this
theorem Tryz.infoSec : (Tryz.prog.info? 93).map (fun i => (i.zero, i.size, i.bytes)) = some (some (.agg (Array.replicate 64 (.int .u8 0))), 64, 64) := by kernel_rfl
theorem zero_sectors : ∀ n : Nat, secCells (List.replicate n (List.replicate 64 0)) = List.replicate (n * 64) (.int .u8 0)
  | 0 => rfl
  | n + 1 => by
    rw [List.replicate_succ, secCells, zero_sectors n, show bs (List.replicate 64 0) = List.replicate 64 (.int .u8 0) by simp [bs], List.replicate_append_replicate]
    congr 1
    omega
theorem made_sectors (n : Nat) : madeCells (Array.replicate 64 (.int .u8 0)) (n * 64) = (secCells (List.replicate n (List.replicate 64 0))).toArray := by
  rw [zero_sectors]
  apply Array.ext
  · simp [madeCells]
  · intro i h1 h2
    simp only [madeCells, Array.getElem_map, Array.getElem_range, Array.size_replicate, List.getElem_toArray, List.getElem_replicate]
    rw [getElem!_pos _ _ (by simp; omega), Array.getElem_replicate]
theorem newD_ok (n : Nat) : (newD n).Ok := ⟨fun s hs => by
  have := List.eq_of_mem_replicate hs
  rw [this]; rfl, fun p hp => by cases hp⟩
set_option maxRecDepth 100000 in
theorem dNew_any (n : Nat) (h1 : 1 ≤ n) (h2 : n ≤ 65536) (w : World) : Calls Tryz.prog 18 #[.int .i64 (n : Int)] w fun e w' => (∃ g, e = .returned (.tuple #[.pointer (some ⟨g, 0, none⟩), .int .i64 0]) ∧ w.heap.size ≤ g ∧ DiskR (fun b => w.heap.size ≤ b) w' g (newD n)) ∧ Below w.heap.size w w' := by
  obtain ⟨i, hi, hz, hs, hb⟩ := info_parts Tryz.infoSec
  have hm := run_make (P := Tryz.prog) w 88 93 i _ Tryz.underlying88 hi hz .i64 .i64 (n : Int) (n : Int) (by omega) (Int.le_refl _) (by rw [hb]; omega) (by omega)
  have hm2 : (Instr.makeSlice 88 (.int .i64 (n : Int)) (.int .i64 (n : Int))).run Tryz.prog w = .ok (.slice (some ⟨w.heap.size, 0, none⟩) n n) (w.alloc (.cells (secCells (List.replicate n (List.replicate 64 0))).toArray 93)) := by
    rw [hm, hs]
    simp only [Int.toNat_natCast]
    rw [← made_sectors]
    rfl
  clear hm
  have t1 : decide ((n : Int) < 1) = false := decide_eq_false (by omega)
  have t2 : decide ((65536 : Int) < (n : Int)) = false := decide_eq_false (by omega)
  have t3 : decide ((n : Int) ≤ 0) = false := decide_eq_false (by omega)
  obtain ⟨C, hC⟩ : ∃ C, C = (secCells (List.replicate n (List.replicate 64 0))).toArray := ⟨_, rfl⟩
  rw [← hC] at hm2
  have HC := Lib.hid hC
  clear hC hi hz hs hb
  go_enter Tryz.func18, Tryz.ntmps18
  go_wp2
  go_ret2
  have hal : Below w.heap.size w ((w.alloc (.cells C 93)).alloc (.cells #[.slice (some ⟨w.heap.size, 0, none⟩) n n, .slice none 0 0, .bool false, .int .i64 0] 91)) := ((Below.refl _ _).alloc (Nat.le_refl _) _).alloc (by simp) _
  refine ⟨⟨w.heap.size + 1, rfl, by omega, w.heap.size, .slice none 0 0, ?_, ?_, OwnL.nil_ _ _ _ _ _, by omega, by simp [Value.ownBlock], by simp [Value.ownBlock], by omega, Nat.le_refl _, (fun b hb => by cases hb), newD_ok n, ?_⟩, hal⟩
  · have : Blk ((w.alloc (.cells C 93)).alloc (.cells #[.slice (some ⟨w.heap.size, 0, none⟩) n n, .slice none 0 0, .bool false, .int .i64 0] 91)) (w.heap.size + 1) 91 #[.slice (some ⟨w.heap.size, 0, none⟩) n n, .slice none 0 0, .bool false, .int .i64 0] := Blk.new_ (by simp)
    simpa [newD] using this
  · have : Blk ((w.alloc (.cells C 93)).alloc (.cells #[.slice (some ⟨w.heap.size, 0, none⟩) n n, .slice none 0 0, .bool false, .int .i64 0] 91)) w.heap.size 93 C := (Blk.new w _ _).alloc _
    rw [HC.out] at this ⊢
    exact this
  · simp [newD]
    omega
end Go.Proofs.YtnlhjhpikjmoaaaGreatDoor
namespace Go.Proofs.YtnlhjhpikjmoaaaGreatDoor
open Go.RowKit
theorem fill_two (p : Nat → Option (Nat × Nat)) (Z : Array Value) (v0 v1 : Value) (a b : Nat) (h0 : p 0 = some (0, a)) (h1 : p 1 = some (a, b)) (s0 : v0.cells.size = a) (s1 : v1.cells.size = b) (hZ : Z.size = a + b) :
    Instr.fill p Z [(0, v0), (1, v1)] = some (v0.cells ++ v1.cells) := by
  unfold Instr.fill
  simp only [h0]
  have c0 : (v0.cells.size != a || decide (0 + v0.cells.size > Z.size)) = false := by simp [s0]; omega
  rw [if_neg (by simp [s0]; omega)]
  unfold Instr.fill
  simp only [h1]
  have hz1 : (v0.cells.zipIdx.foldl (fun cs (p : Value × Nat) => cs.setIfInBounds (0 + p.2) p.1) Z).size = a + b := by
    rw [← Array.length_toList, fill_part _ _ _ (by omega)]
    simp
    omega
  have hz2 : (v0.cells.zipIdx.foldl (fun cs (p : Value × Nat) => cs.setIfInBounds (0 + p.2) p.1) Z).toList = v0.cells.toList ++ Z.toList.drop a := by
    rw [fill_part _ _ _ (by omega)]
    simp [s0]
  rw [if_neg (by rw [hz1]; simp [s1])]
  unfold Instr.fill
  congr 1
  apply Array.ext'
  rw [fill_part _ _ _ (by rw [hz1]; omega), hz2]
  simp [s0, s1]
  omega
theorem fill_one (p : Nat → Option (Nat × Nat)) (Z : Array Value) (v0 : Value) (a : Nat) (h0 : p 0 = some (0, a)) (s0 : v0.cells.size = a) (hZ : Z.size = a) : Instr.fill p Z [(0, v0)] = some v0.cells := by
  unfold Instr.fill
  simp only [h0]
  rw [if_neg (by simp [s0]; omega)]
  unfold Instr.fill
  congr 1
  apply Array.ext'
  rw [fill_part _ _ _ (by omega)]
  simp [s0]
  omega
theorem Tryz.zeroWt (w : World) : (zeroValue 95).run Tryz.prog w = .ok (.agg (Array.replicate 65 undef |>.mapIdx fun i _ => if i = 0 then .int .i64 0 else .int .u8 0)) w := by kernel_rfl
theorem zWt_size : (Value.agg (Array.replicate 65 undef |>.mapIdx fun i _ => if i = 0 then .int .i64 0 else .int .u8 0)).cells.size = 65 := by simp [Value.cells]
theorem build_write (n : Int) (C : Array Value) (hC : C.size = 64) (w : World) : (Instr.build 95 #[(0, .int .i64 n), (1, .agg C)]).run Tryz.prog w = .ok (.agg (#[.int .i64 n] ++ C)) w := by
  unfold Instr.build
  simp only [Sem.run_bind, Tryz.zeroWt, Result.andThen_ok, run_underlying Tryz.underlying95]
  rw [show (Array.mapM (fun (f : Field) => (do let x ← sizeOf f.type; pure (f.offset, x) : Sem (Nat × Nat))) #[{ name := "at", type := 3, offset := 0, embedded := false, tag := "", pkgPath := "armoire/disk", byteOffset := 0 }, { name := "s", type := 93, offset := 1, embedded := false, tag := "", pkgPath := "armoire/disk", byteOffset := 8 }]).run Tryz.prog w = .ok #[(0, 1), (1, 64)] w by kernel_rfl]
  simp only [Result.andThen_ok]
  rw [fill_two _ _ (.int .i64 n) (.agg C) 1 64 rfl rfl rfl hC zWt_size]
  rfl
theorem Tryz.infoWt : (Tryz.prog.info? 95).map (fun i => (i.zero, i.size, i.bytes)) = some (some (.agg (Array.replicate 65 undef |>.mapIdx fun i _ => if i = 0 then .int .i64 0 else .int .u8 0)), 65, 72) := by kernel_rfl
theorem slice_write (C : Array Value) (hC : C.size = 65) (w : World) : (Instr.buildSlice 89 1 #[(0, .agg C)]).run Tryz.prog w = .ok (.slice (some ⟨w.heap.size, 0, none⟩) 1 1) (w.alloc (.cells C 95)) := by
  obtain ⟨i, hi, hz, hs, hb⟩ := info_parts Tryz.infoWt
  refine run_buildSlice w _ _ 1 _ C i _ Tryz.underlying89 hi hz (by rw [hs]; decide) (by rw [hs]; decide) ?_
  rw [hs]
  refine (fill_one _ _ (.agg C) 65 (by simp) hC (by simp)).trans rfl
end Go.Proofs.YtnlhjhpikjmoaaaGreatDoor
namespace Go.Proofs.YtnlhjhpikjmoaaaGreatDoor
open Go.RowKit
structure Pu (α : Type) where
  b : Nat
  a : Nat
  v : Value
  l : List α
  x : α
  cs : Array Value
def Ap (o1 o2 : Option Nat) : Prop := ∀ g, o1 = some g → o2 ≠ some g
theorem Ap.symm {o1 o2 : Option Nat} (h : Ap o1 o2) : Ap o2 o1 := fun g h1 h2 => h g h2 h1
theorem gives_app0' {α : Type} {E : Rel α} {okd : Nat → Prop} {base : Nat} {P : Program} {tS tE : TypeId} (hT : RowTy P tS tE E.sz E.wt) (hsz : 0 < E.sz) {o : Oper} {a : Act} {Φ : Value → World → Prop} (s x : Operand)
    (ho : o.op = .call { callee := .builtin .append, args := #[s, x], argTypes := #[tS, tS] })
    (v : Value) (l : List α) (w : World) (hs : a.eval s = v) (hown : OwnL E okd base tE w v l)
    (A : Option Addr) (c : Nat) (l2 : List α) (css : List (List Value)) (hx : a.eval x = .slice A l2.length c) (hr : Rd w E.sz A l2.length css.flatten) (hch : Chunks E (fun b => okd b ∧ some b ≠ v.ownBlock) w css l2)
    (hlen : (l.length + l2.length) * E.wt ≤ 140737488355328) (hlen2 : l.length + l2.length ≤ 140737488355328) (hbase : base ≤ w.heap.size)
    (h : ∀ v' w', OwnL E okd base tE w' v' (l ++ l2) → Kp (fun b => some b ≠ v.ownBlock) w w' → (v'.ownBlock = v.ownBlock ∨ v'.ownBlock = some w.heap.size) → Φ v' w') : Gives P o a w Φ := by
  obtain ⟨i, z, hi, hz, h1, h2, h3⟩ := hT.info
  obtain ⟨cso, hrow, hcho⟩ := hown
  have key : ∃ v' w', (Builtin.append_ #[tS, tS] o.type #[v, .slice A l2.length c]).run P w = .ok v' w' ∧ w'.ownsRow base tE E.sz v' (l.length + l2.length) (cso.flatten ++ css.flatten) ∧ w.grownBy w' v.ownBlock ∧ (v'.ownBlock = v.ownBlock ∨ v'.ownBlock = some w.heap.size) := by
    rcases A with _ | ad
    · have hm : l2.length = 0 := by
        rcases Nat.eq_zero_or_pos l2.length with h0 | h0
        · exact h0
        · obtain ⟨_, _, h, _⟩ := hr.2 h0
          cases h
      have hn : css.flatten = [] := List.eq_nil_of_length_eq_zero (by rw [hch.flat, hm]; simp)
      rw [hm, hn]
      exact ⟨v, w, run_append_nil_src w base tS o.type tE i E.sz hT.ht hi v _ _ hrow c, by simpa using hrow, World.grownBy.refl _ _, .inl rfl⟩
    · have hcells : ∀ j u, css.flatten[j]? = some u → w.cell? (ad.add j) = some u := by
        intro j u hu
        rcases Nat.eq_zero_or_pos l2.length with h0 | h0
        · have hn : css.flatten = [] := List.eq_nil_of_length_eq_zero (by rw [hch.flat, h0]; simp)
          rw [hn] at hu
          simp at hu
        · obtain ⟨b, off, h, hc⟩ := hr.2 h0
          injection h with h
          subst h
          rw [Addr.add_lit]
          exact hc j u hu
      obtain ⟨v', w', hrun, h4, h5, _, h6⟩ := run_append_own_at (P := P) w base tS o.type tE i z E.sz E.wt hT.ht hi hz h1 h2 h3 hsz v _ _ hrow ad l2.length c css.flatten hch.flat hcells hch.one (by unfold maxLen; omega) hlen hbase
      exact ⟨v', w', hrun, h4, h5, h6⟩
  obtain ⟨v', w', hrun, h4, h5, h6⟩ := key
  unfold Gives execOp
  simp only [ho, resolve, invoke, builtin, Sem.run_bind, Sem.run_pure, Result.andThen_ok, List.map_toArray, List.map_cons, List.map_nil, hs, hx, hrun, giv]
  refine h v' w' ⟨cso ++ css, ?_, ?_⟩ (.of_grown h5 fun _ h => h) h6
  · rw [List.length_append, List.flatten_append]; exact h4
  · have hk : Kp (fun b => okd b ∧ some b ≠ v.ownBlock) w w' := .of_grown h5 fun _ h => h.2
    refine ((hcho.mono (ok' := fun b => (okd b ∧ some b ≠ v.ownBlock) ∧ b < w.heap.size) fun b hb hlt => ⟨hb, hlt⟩).append (hch.mono (ok' := fun b => (okd b ∧ some b ≠ v.ownBlock) ∧ b < w.heap.size) fun b hb hlt => ⟨hb, hlt⟩)).kp (hk.mono fun b hb => hb.1) |>.mono fun b hb _ => ⟨hb.1.1, ?_⟩
    rcases h6 with h6 | h6
    · rw [h6]; exact hb.1.2
    · rw [h6]
      intro e
      have := Option.some.inj e
      omega
section
variable {α : Type}
def Pu.cur (p : Pu α) (M : Nat → Bool) (e : Nat → Value) : Value := if M p.a = true then e p.a else p.v
def Pu.now (p : Pu α) (M : Nat → Bool) : List α := if M p.a = true then p.l ++ [p.x] else p.l
def Pu.bx (p : Pu α) (M : Nat → Bool) (e : Nat → Value) : Option Nat := if M p.b = true ∧ M p.a = false then (e p.b).ownBlock else none
def Pu.bok (T : TypeId) (p : Pu α) (M : Nat → Bool) (e : Nat → Value) (w : World) : Prop := M p.b = true → M p.a = false → ∃ g, e p.b = .slice (some ⟨g, 0, none⟩) 1 1 ∧ Blk w g T p.cs
structure PuInv (E : Rel α) (okd : Nat → Prop) (base : Nat) (T : TypeId) (bad : Nat → Prop) (p q : Pu α) (w : World) (M : Nat → Bool) (e : Nat → Value) (w' : World) : Prop where
  kp : Kp (fun b => ¬ bad b) w w'
  op : OwnL E okd base T w' (p.cur M e) (p.now M)
  oq : OwnL E okd base T w' (q.cur M e) (q.now M)
  bp : p.bok T M e w'
  bq : q.bok T M e w'
  a1 : Ap (p.cur M e).ownBlock (q.cur M e).ownBlock
  a2 : Ap (p.bx M e) (p.cur M e).ownBlock
  a3 : Ap (p.bx M e) (q.cur M e).ownBlock
  a4 : Ap (q.bx M e) (p.cur M e).ownBlock
  a5 : Ap (q.bx M e) (q.cur M e).ownBlock
  a6 : Ap (p.bx M e) (q.bx M e)
variable {E : Rel α} {okd : Nat → Prop} {base : Nat} {T : TypeId} {bad : Nat → Prop} {p q : Pu α} {w w1 w2 : World} {M : Nat → Bool} {e : Nat → Value}
theorem PuInv.cong {e' : Nat → Value} (hM : ∀ d, M d = true → e d = e' d) (h : PuInv E okd base T bad p q w M e w1) : PuInv E okd base T bad p q w M e' w1 := by
  have c : ∀ r : Pu α, r.cur M e' = r.cur M e := fun r => by
    unfold Pu.cur
    split
    · rename_i hr; rw [hM _ hr]
    · rfl
  have b : ∀ r : Pu α, r.bx M e' = r.bx M e := fun r => by
    unfold Pu.bx
    split
    · rename_i hr; rw [hM _ hr.1]
    · rfl
  have k : ∀ r : Pu α, r.bok T M e w1 → r.bok T M e' w1 := fun r hr h1 h2 => by
    obtain ⟨g, he, hb⟩ := hr h1 h2
    exact ⟨g, by rw [← hM _ h1]; exact he, hb⟩
  exact ⟨h.kp, by rw [c]; exact h.op, by rw [c]; exact h.oq, k _ h.bp, k _ h.bq, by rw [c, c]; exact h.a1, by rw [b, c]; exact h.a2, by rw [b, c]; exact h.a3, by rw [b, c]; exact h.a4, by rw [b, c]; exact h.a5, by rw [b, b]; exact h.a6⟩
end
section
variable {α : Type} {P : Program} {ops : Array Oper} {w : World} {E : Rel α} {okd : Nat → Prop} {base : Nat} {T : TypeId} {bad : Nat → Prop} {p q : Pu α} {wild : List Nat} {v : Nat → Value} {Q : Act → World → Prop}
def Pu.apart (p q : Pu α) : Bool := p.b != p.a && (p.b != q.a && (p.b != q.b && (p.a != q.a && (p.a != q.b && q.b != q.a))))
end
end Go.Proofs.YtnlhjhpikjmoaaaGreatDoor
namespace Go.Proofs.YtnlhjhpikjmoaaaGreatDoor
open Go.RowKit
theorem Tryz.rowWt : RowTy Tryz.prog 89 95 65 72 := rowTy_mk Tryz.underlying89 (by kernel_rfl)
theorem Tryz.infoSec2 : (Tryz.prog.info? 93).map (·.size) = some 64 := by kernel_rfl
theorem still_ld {P : Program} {o : Oper} {a : Act} {w : World} {g k : Nat} {cs : Array Value} {ty : TypeId} {x : Operand} {d : TypeDesc} (ho : o.op = .load ty x) (hx : a.eval x = .pointer (some ⟨g, k, none⟩)) (hk : w.rangeAt g k cs.toList) (hu : P.underlying ty = some d) (hd : d.isRow = true) (hi : (P.info? ty).map (·.size) = some cs.size) : StillAt P o a w (.agg cs) := by
  have hr := run_loadVar_mid (P := P) w g k ty cs.toList d hk hu hd (by simpa using hi)
  refine .inl ?_
  unfold execOp
  simp only [ho, hx, Instr.loadAt, Instr.sureAddr, Sem.run_bind, Sem.run_pure, Result.andThen_ok, hr]
theorem still_arr {P : Program} {o : Oper} {a : Act} {w : World} {A : Option Addr} {n c m : Nat} {e : TypeId} {ty : TypeId} {x : Operand} (ho : o.op = .sliceToArrayPointer ty x) (hx : a.eval x = .slice A n c) (hu : P.underlying ty = some (.array m e)) (hn : m ≤ n) : StillAt P o a w (.pointer A) := by
  refine .inl ?_
  unfold execOp
  simp only [ho, hx, Instr.arrayAt, Sem.run_bind, run_underlying hu, Result.andThen_ok]
  rw [if_neg (by omega)]
  rfl
theorem still_build {P : Program} {o : Oper} {a : Act} {w : World} {ty : TypeId} {parts : List (Nat × Operand)} (vs : List (Nat × Value)) {u : Value} (ho : o.op = .build ty parts.toArray) (hx : (parts.map fun (i, x) => (i, a.eval x)) = vs) (h : (Instr.build ty vs.toArray).run P w = .ok u w) : StillAt P o a w u := by
  refine .inl ?_
  unfold execOp
  simp only [ho, List.map_toArray, hx, Sem.run_bind, h, Result.andThen_ok]
  rfl
theorem gives_bslice {P : Program} {o : Oper} {a : Act} {w w' : World} {Φ : Value → World → Prop} {ty : TypeId} {n : Nat} {parts : List (Nat × Operand)} (vs : List (Nat × Value)) {u : Value} (ho : o.op = .buildSlice ty n parts.toArray) (hx : (parts.map fun (i, x) => (i, a.eval x)) = vs) (h : (Instr.buildSlice ty n vs.toArray).run P w = .ok u w') (hp : Φ u w') : Gives P o a w Φ := by
  unfold Gives execOp
  simp only [ho, List.map_toArray, hx, Sem.run_bind, h, Result.andThen_ok]
  exact hp
set_option maxRecDepth 100000 in
set_option maxHeartbeats 6400000 in
theorem dWrite_any {ft okb : Nat → Prop} {g : Nat} {d : DskD} {w : World} (h : DiskR ft w g d) (vb : Value) (lb : List UInt8) (hb : RB okb w vb lb) (hbf : ∀ b, okb b → ¬ ft b) (p : Int) (hp : I64 p) (hwl : d.wait.length + 1 ≤ 1000000000) :
    Calls Tryz.prog 82 #[.pointer (some ⟨g, 0, none⟩), .int .i64 p, vb] w fun e w' => e = .returned (.int .i64 (d.write p lb).2) ∧ DiskR (fun b => ft b ∨ w.heap.size ≤ b) w' g (d.write p lb).1 ∧ Kp (fun b => ¬ ft b) w w' := by
  have hR := h
  have hR0 : DiskR (fun b => ft b ∨ w.heap.size ≤ b) w g d := h.mono fun b hb _ => .inl hb
  obtain ⟨kb, vw, h1, h2, h3, h4, h5, h6, h7, h8, h9, h10, h11, h12, h13, h14⟩ := h
  obtain ⟨c0, c1, c2, c3⟩ := dk_cells h1
  obtain ⟨A, c, rfl, hc, hlen, hrd, hob⟩ := hb.open_
  by_cases hd : d.down = true
  · have hw : d.write p lb = (d, 3) := by unfold DskD.write; rw [if_pos hd]
    rw [hw]
    clear h1 h2 h3 h9 h10 hrd hob hw
    go_enter Tryz.func82, Tryz.ntmps82
    go_wp2_with fail
    refine (up_any hR).mono ?_
    rw [if_pos hd]
    rintro e w1 ⟨rfl, rfl⟩
    go_wp2_with fail
    refine (fine_any 3 _).mono ?_
    rintro e w1 ⟨rfl, rfl⟩
    go_wp2
    go_ret
    exact ⟨rfl, hR0, Kp.refl _ _⟩
  by_cases hbad : p < 0 ∨ (d.kept.length : Int) ≤ p ∨ lb.length ≠ 64
  · have hw : d.write p lb = (d, 1) := by unfold DskD.write; rw [if_neg hd, if_pos hbad]
    rw [hw]
    clear h1 h2 h3 h9 h10 hrd hob hw
    go_enter Tryz.func82, Tryz.ntmps82
    go_wp2_with fail
    refine (up_any hR).mono ?_
    rw [if_neg hd]
    rintro e w1 ⟨rfl, rfl⟩
    go_wp2_with fail
    refine (fine_any 0 _).mono ?_
    rintro e w1 ⟨rfl, rfl⟩
    by_cases p0 : p < 0
    · have t1 : decide (p < 0) = true := decide_eq_true p0
      have t1' : decide (p ≤ -1) = true := decide_eq_true (by omega)
      go_wp2
      go_ret
      exact ⟨rfl, hR0, Kp.refl _ _⟩
    have t1 : decide (p < 0) = false := decide_eq_false p0
    by_cases p1 : (d.kept.length : Int) ≤ p
    · have t2 : decide ((d.kept.length : Int) ≤ p) = true := decide_eq_true p1
      go_wp2
      go_ret
      exact ⟨rfl, hR0, Kp.refl _ _⟩
    have t2 : decide ((d.kept.length : Int) ≤ p) = false := decide_eq_false p1
    have p2 : lb.length ≠ 64 := by omega
    have t3 : ((lb.length : Int) == 64) = false := by simpa using (show ¬ (lb.length : Int) = 64 by omega)
    have t3' : decide ((lb.length : Int) = 64) = false := decide_eq_false (by omega)
    go_wp2
    go_ret
    exact ⟨rfl, hR0, Kp.refl _ _⟩
  have hp0 : 0 ≤ p ∧ p < (d.kept.length : Int) ∧ lb.length = 64 := by omega
  obtain ⟨hp0, hp1, hl64⟩ := hp0
  obtain ⟨q, rfl⟩ : ∃ q : Nat, p = (q : Int) := ⟨p.toNat, by omega⟩
  obtain ⟨bb, boff, rfl, hcells⟩ := hrd.2 (by omega)
  have hbb : ¬ ft bb := hbf _ (hob (by omega) _ rfl)
  obtain ⟨d1, hd1⟩ : ∃ d1 : DskD, d1 = { d with wait := d.wait ++ [(q, lb)] } := ⟨_, rfl⟩
  have hw : d.write (q : Int) lb = (d1.hit.1, if d1.hit.2 = true then 3 else 0) := by
    unfold DskD.write
    rw [if_neg hd, if_neg hbad, hd1]
    rfl
  rw [hw]
  obtain ⟨hh, hhe⟩ : ∃ hh, hh = d1.hit.2 := ⟨_, rfl⟩
  simp only [← hhe]
  have HHE := Lib.hid hhe
  clear hhe
  have t1 : decide ((q : Int) < 0) = false := decide_eq_false (by omega)
  have t2 : decide ((d.kept.length : Int) ≤ (q : Int)) = false := decide_eq_false (by omega)
  have t2' : decide (d.kept.length ≤ q) = false := decide_eq_false (by omega)
  rw [hl64]
  have HD := Lib.hid hd
  have HD1 := Lib.hid hd1
  have HW := Lib.hid hw
  have HL := Lib.hid hl64
  have HQ : Hid (q < d.kept.length) := Lib.hid (by omega)
  clear hbad hp0 hp1 hp hd hd1 hw hl64 hc hlen hrd hob hb
  go_enter Tryz.func82, Tryz.ntmps82
  go_wp2_with fail
  refine (up_any hR).mono ?_
  rw [if_neg HD.out]
  rintro e w1 ⟨rfl, rfl⟩
  go_wp2_with fail
  refine (fine_any 0 _).mono ?_
  rintro e w1 ⟨rfl, rfl⟩
  go_upto_region 6 with fail
  have lw : ∀ s : Later w1, s.val.cell? ⟨g, 1, none⟩ = some vw := Later.cell c1
  have hbad1 : ¬ (bb = g ∨ some bb = vw.ownBlock) := fun e => e.elim (fun e => hbb (e ▸ h7)) fun e => hbb (h9 _ e.symm)
  obtain ⟨C, hC⟩ : ∃ C : Array Value, C = #[.int .i64 (q : Int)] ++ (bs lb).toArray := ⟨_, rfl⟩
  have hC0 : (bs lb).toArray.size = 64 := by rw [List.size_toArray, bs_len]; exact HL.out
  have hC1 : C.size = 65 := by rw [hC, Array.size_append, hC0]; rfl
  have hbw := build_write (q : Int) (bs lb).toArray hC0
  rw [← hC] at hbw
  have HBW := Lib.hid hbw
  clear hbw
  refine wp_seqB (fun b => b = g ∨ some b = vw.ownBlock) 11 [10, 11, 14] (by as_aux_lemma => kernel_rfl) (by as_aux_lemma => kernel_rfl) fun w4 hb4 => ?_
  refine seqB_pre 4 (by kernel_rfl) ?_
  simp only [List.take_succ_cons, List.take_zero, List.drop_succ_cons, List.drop_zero]
  repeat (go_big_quiet_step (fail))
  refine wpQuiet_nil ?_
  refine seqB_pre0 1 (by kernel_rfl) (by kernel_rfl) ?_
  simp only [List.take_succ_cons, List.take_zero, List.drop_succ_cons, List.drop_zero]
  repeat (go_big_quiet_step (fail))
  refine wpQuiet_nil ?_
  refine seqB_pre 2 (by kernel_rfl) ?_
  simp only [List.take_succ_cons, List.take_zero, List.drop_succ_cons, List.drop_zero]
  repeat (go_big_quiet_step (fail))
  refine wpQuiet_nil ?_
  refine seqB_still (.pointer (some ⟨bb, boff, none⟩)) rfl rfl (fun s => still_arr (n := 64) rfl rfl Tryz.underlying93 (Nat.le_refl _)) ?_
  simp only [Act.put, List.setIfInBounds_toArray, List.set_cons_succ, List.set_cons_zero]
  refine seqB_still (.agg (bs lb).toArray) rfl rfl (fun s => still_ld (g := bb) (k := boff) rfl rfl (fun j u hu => LaterB.cell (hcells j u (by simpa using hu)) hbad1 s) Tryz.underlying93 rfl (by rw [hC0]; exact Tryz.infoSec2)) ?_
  simp only [Act.put, List.setIfInBounds_toArray, List.set_cons_succ, List.set_cons_zero]
  refine seqB_still (.agg C) rfl rfl (fun s => still_build [(0, .int .i64 (q : Int)), (1, .agg (bs lb).toArray)] rfl rfl (HBW.out _)) ?_
  simp only [Act.put, List.setIfInBounds_toArray, List.set_cons_succ, List.set_cons_zero]
  refine seqB_wild0 hb4 rfl rfl fun K hK => ?_
  refine gives_bslice [(0, .agg C)] rfl rfl (slice_write C hC1 w4) ?_
  have hal : Below w4.heap.size w4 (w4.alloc (.cells C 95)) := (Below.refl _ _).alloc (Nat.le_refl _) _
  refine hK _ _ (hal) fun hb5 => ?_
  clear hK
  clear K
  simp only [Act.put, List.setIfInBounds_toArray, List.set_cons_succ, List.set_cons_zero]
  have hown : OwnL rWt (fun _ => False) 0 95 (w4.alloc (.cells C 95)) vw d.wait := h3.below hb5
  have kg5 := h1.below hb5 h1.lt
  have kk5 := h2.below hb5 h2.lt
  have hC2 : C.toList = .int .i64 (q : Int) :: bs lb := by rw [hC]; simp
  refine seqB_wild (Kp.of_below hb5) rfl rfl fun K hK => ?_
  refine gives_app0' (E := rWt) Tryz.rowWt (by decide) _ _ rfl vw d.wait _ rfl hown (some ⟨w4.heap.size, 0, none⟩) 1 [(q, lb)] [C.toList] rfl (show Rd _ 65 _ _ _ by simpa using Rd.new w4 95 65 1 C (by simpa using hC1)) (Chunks.single (E := rWt) (show rWt.rel _ _ C.toList (q, lb) from ⟨hC2, HL.out⟩)) ?_ ?_ (Nat.zero_le _) fun v' w6 hown6 hk6 hloc => ?_
  · show (d.wait.length + 1) * 72 ≤ _
    omega
  · show d.wait.length + 1 ≤ _
    omega
  have hkk : Kp (fun b => ¬ (b = g ∨ some b = vw.ownBlock)) (w4.alloc (.cells C 95)) w6 := hk6.mono fun b hb e => hb (.inr e)
  refine hK _ _ (hkk) fun hK6 => ?_
  clear hK
  clear K
  simp only [Act.put, List.setIfInBounds_toArray, List.set_cons_succ, List.set_cons_zero]
  refine seqB_pre 2 (by kernel_rfl) ?_
  simp only [List.take_succ_cons, List.take_zero, List.drop_succ_cons, List.drop_zero]
  repeat (go_big_quiet_step (fail))
  refine wpQuiet_nil ?_
  have kg6 := kg5.kp hk6 h5
  have kk6 := kk5.kp hk6 h6
  have fg6 := fun i => kg6.frozen i
  have c16 : w6.cell? ⟨g, 1, none⟩ = some vw := kg6.cell 1
  obtain ⟨A', c', rfl, _⟩ := hown6.form
  obtain ⟨nn, hnn⟩ : ∃ nn, nn = (d.wait ++ [(q, lb)]).length := ⟨_, rfl⟩
  rw [← hnn] at hown6 hloc ⊢
  have HNN := Lib.hid hnn
  clear hnn
  refine seqB_wild hK6 rfl rfl fun K hK => ?_
  unfold Gives
  go_simp
  have hkp : Kp (fun b => ¬ (b = g ∨ some b = vw.ownBlock)) w6 (w6.setCell ⟨g, 1, none⟩ (.slice A' nn c')) := (Kp.refl _ _).setCell (fun _ h => h (.inl rfl)) _
  refine hK _ _ hkp fun hK7 => ?_
  clear hK
  clear K
  simp only [Act.put, List.setIfInBounds_toArray, List.set_cons_succ, List.set_cons_zero]
  refine seqB_nil ?_
  have hgl : g < w1.heap.size := h1.lt
  have hz5 : w1.heap.size ≤ w4.heap.size := hb4.size
  have hng : (Value.slice A' nn c').ownBlock ≠ some g := by
    rcases hloc with e | e
    · rw [e]; exact fun e => h5 e.symm
    · rw [e]; intro e; have := Option.some.inj e; simp at this; omega
  have hnk : (Value.slice A' nn c').ownBlock ≠ some kb := by
    have := h2.lt
    rcases hloc with e | e
    · rw [e]; exact fun e => h6 e.symm
    · rw [e]; intro e; have := Option.some.inj e; simp at this; omega
  have kg7 := kg6.set_ 1 (.slice A' nn c')
  have kk7 := kk6.far (p := ⟨g, 1, none⟩) h4 (.slice A' nn c')
  have ho7 : OwnL rWt (fun _ => False) 0 95 (w6.setCell ⟨g, 1, none⟩ (.slice A' nn c')) (.slice A' nn c') (d.wait ++ [(q, lb)]) := hown6.kp (ok := fun b => b ≠ g) ((Kp.refl _ _).setCell (fun _ h => h rfl) _) (fun _ h => h.elim) fun b hb e => hng (by rw [hb, e])
  have hR7 : DiskR (fun b => ft b ∨ w1.heap.size ≤ b) (w6.setCell ⟨g, 1, none⟩ (.slice A' nn c')) g d1 := by
    rw [HD1.out]
    refine ⟨kb, .slice A' nn c', by simpa using kg7, kk7, ho7, h4, fun e => hng e.symm, fun e => hnk e.symm, .inl h7, .inl h8, fun b hb => ?_, ⟨h10.kept, fun x hx => ?_⟩, h11, h12, h13, ?_⟩
    · rcases hloc with e | e
      · exact .inl (h9 b (by rw [← e]; exact hb))
      · rw [e] at hb
        have := Option.some.inj hb
        simp at this
        exact .inr (by omega)
    · rcases List.mem_append.1 hx with hx | hx
      · exact h10.wait x hx
      · rw [List.mem_singleton.1 hx]
        exact ⟨HQ.out, HL.out⟩
    · show (d.wait ++ [(q, lb)]).length ≤ _
      rw [List.length_append]
      exact hwl
  have hKf : Kp (fun b => ¬ ft b) w1 (w6.setCell ⟨g, 1, none⟩ (.slice A' nn c')) := hK7.mono fun b hb e => e.elim (fun e => hb (e ▸ h7)) fun e => hb (h9 b e.symm)
  have HK := Lib.hid hKf
  have HR7 := Lib.hid hR7
  clear hKf hR7 ho7 kk7 kg7 hng hnk c16 fg6 kg6 kk6 hown6 hk6 hloc hK6 hK7 hkp hkk hown kg5 kk5 hal hb5 c0 c1 c2 c3 lw h1 h2 h3
  go_upto_region 7 with fail
  refine name_world (fun w7 => DiskR (fun b => ft b ∨ w1.heap.size ≤ b) w7 g d1 ∧ Kp (fun b => ¬ ft b) w1 w7) ⟨HR7.out, HK.out⟩ ?_
  clear HR7 HK
  rintro w7 ⟨hR7, hK7⟩
  have HH := Lib.hid (hit_any hR7)
  rw [← HHE.out] at HH
  clear HHE
  go_wp2_with fail
  refine HH.out.mono ?_
  rintro e w8 ⟨rfl, hR8, hK8⟩
  have hK9 : Kp (fun b => ¬ ft b) w1 w8 := hK7.trans (hK8.mono fun b hb e => hb (e ▸ h7))
  clear HH
  cases hh
  · go_wp2
    go_ret
    exact ⟨rfl, hR8, hK9⟩
  · go_wp2
    go_ret
    exact ⟨rfl, hR8, hK9⟩
end Go.Proofs.YtnlhjhpikjmoaaaGreatDoor
