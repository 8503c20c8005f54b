/- Memory words of this seat's proofs: a slice that reads as a list of cells; bytes; values of three cells. No program in sight.
Data with depth: what cells say of plain data, kept where memory is kept; lists of one's own that grow. No program in sight.
A block that is known whole. No program in sight.
Plain numbers: an integer's eight bytes.
Plain: the end of bytes, the order of texts. No program in sight.
Plain: the bytes of values stand in the values' order; what is written can be told apart. No program in sight.
Contracts of small functions: tuple.Right, armoireref03.Right, armoirelaw03.right, armoirehelp.Bytes.
A region that draws its order: first operations that are quiet in a class of worlds, in whatever order, then a tail in one forced order: walked once.
A region that draws its order, some of whose operations make memory or store: walked once, in the text's order; what such an operation leaves is said ahead. No program in sight.
Drawn regions walked once: the words for a walk. What an operation leaves is said by a specification of its own. No program in sight. -/
import Derived.WalkKit
import Derived.WalkSpells
import Derived.WalkLawsBesides
import Derived.BigQuiet
import Derived.Lib.Hide
import Derived.Laws.BytesArg
import Derived.Maps.AppendAt
import Derived.Laws.CopyOwn
import Derived.Laws.Bits64
import Derived.Laws.BitsAllLaws
import Derived.Test.YtnlhjhpikjmoaaaGreatDoorProg
import Derived.StillTail
namespace Go.Proofs.YtnlhjhpikjmoaaaGreatDoor
open Go.RowKit
def Keeps (w w' : World) : Prop := ∀ p u, w.cell? p = some u → w'.cell? p = some u
theorem Keeps.refl (w : World) : Keeps w w := fun _ _ h => h
theorem Keeps.trans {a b c : World} (h : Keeps a b) (k : Keeps b c) : Keeps a c := fun p u hu => k p u (h p u hu)
theorem Keeps.of_below {w w' : World} (hb : Below w.heap.size w w') : Keeps w w' := fun p _ hu => (hb.cell (p := p) (World.block_lt_of_cell? w p hu)).trans hu
def Rd (w : World) (sz : Nat) (A : Option Addr) (n : Nat) (xs : List Value) : Prop :=
  xs.length = n * sz ∧ (0 < n → ∃ b off, A = some ⟨b, off, none⟩ ∧ ∀ j u, xs[j]? = some u → w.cell? ⟨b, off + j, none⟩ = some u)
section
variable {w w' : World} {sz n : Nat} {A : Option Addr} {xs : List Value}
theorem Rd.keep (h : Rd w sz A n xs) (hk : Keeps w w') : Rd w' sz A n xs :=
  ⟨h.1, fun hn => let ⟨b, off, e, hc⟩ := h.2 hn; ⟨b, off, e, fun j u hu => hk _ _ (hc j u hu)⟩⟩
theorem Rd.below (h : Rd w sz A n xs) (hb : Below w.heap.size w w') : Rd w' sz A n xs := h.keep (.of_below hb)
theorem Rd.nil_ (A : Option Addr) : Rd w sz A 0 [] := ⟨by simp, fun h => absurd h (by omega)⟩
theorem Rd.of_own {base : Nat} {e : TypeId} {c : Nat} (h : w.ownsRow base e sz (.slice A n c) n xs) : Rd w sz A n xs := by
  refine ⟨h.1, fun hn => ?_⟩
  rcases h.2 with ⟨_, h0⟩ | ⟨g, cap, cur, hv, _, hh, _, _, _, ht⟩
  · omega
  · simp only [Value.slice.injEq] at hv
    obtain ⟨rfl, _, rfl⟩ := hv
    refine ⟨g, 0, rfl, fun j u hu => ?_⟩
    have := World.ownsRow.cells h (g := g) rfl j u hu
    rwa [Addr.add_lit] at this
theorem Rd.drop (h : Rd w sz A n xs) {k cap : Nat} (hk : k ≤ n) (hc : n ≤ cap) : Rd w sz (if cap = k then A else A.map (·.add (k * sz))) (n - k) (xs.drop (k * sz)) := by
  refine ⟨by rw [List.length_drop, h.1, Nat.sub_mul], fun hn => ?_⟩
  obtain ⟨b, off, rfl, hcell⟩ := h.2 (by omega)
  rw [if_neg (by omega)]
  refine ⟨b, off + k * sz, by simp [Addr.add_lit], fun j u hu => ?_⟩
  rw [Nat.add_assoc]
  exact hcell _ u (by rw [← hu, List.getElem?_drop])
theorem Rd.take (h : Rd w sz A n xs) {k : Nat} (hk : k ≤ n) : Rd w sz A k (xs.take (k * sz)) := by
  refine ⟨by rw [List.length_take, h.1]; exact Nat.min_eq_left (Nat.mul_le_mul_right _ hk), fun hn => ?_⟩
  obtain ⟨b, off, rfl, hcell⟩ := h.2 (by omega)
  refine ⟨b, off, rfl, fun j u hu => hcell _ u ?_⟩
  rw [List.getElem?_take] at hu
  split at hu
  · exact hu
  · cases hu
end
theorem Rd.new (w : World) (e : TypeId) (sz n : Nat) (cs : Array Value) (h : cs.size = n * sz) : Rd (w.alloc (.cells cs e)) sz (some ⟨w.heap.size, 0, none⟩) n cs.toList :=
  ⟨by simpa using h, fun _ => ⟨_, 0, rfl, fun j u hu => by simpa using hu⟩⟩
section
variable {P : Program} (w : World)
theorem run_append_nil_src (base : Nat) (t ty e : TypeId) (i : TypeInfo) (size : Nat) (ht : P.underlying t = some (.slice e)) (hi : P.info? e = some i)
    (v : Value) (n : Nat) (xs : List Value) (hown : w.ownsRow base e size v n xs) (c : Nat) : (Builtin.append_ #[t, t] ty #[v, .slice none 0 c]).run P w = .ok v w := by
  rcases hown.2 with ⟨rfl, rfl⟩ | ⟨g, cap, cur, rfl, _, _, hnc, _⟩
  · simp [Builtin.append_, run_underlying ht, sizeOf, typeInfo, hi, Builtin.lenOf, Builtin.firstCells]
  · simp [Builtin.append_, run_underlying ht, sizeOf, typeInfo, hi, Builtin.lenOf, Builtin.firstCells, hnc, storeCells]
theorem own_slice {base : Nat} {e : TypeId} {sz : Nat} {v : Value} {n : Nat} {xs : List Value} (h : w.ownsRow base e sz v n xs) : ∃ A c, v = .slice A n c ∧ n ≤ c ∧ c ≤ maxLen ∧ (∀ k, v.ownBlock = some k → base ≤ k) := by
  rcases h.2 with ⟨rfl, rfl⟩ | ⟨g, cap, cur, rfl, hb, _, hnc, hcm, _⟩
  · exact ⟨none, 0, rfl, Nat.le_refl _, Nat.zero_le _, fun k hk => by simp [Value.ownBlock] at hk⟩
  · exact ⟨_, cap, rfl, hnc, hcm, fun k hk => by simp [Value.ownBlock] at hk; omega⟩
theorem run_append_rd (base : Nat) (t ty e : TypeId) (i : TypeInfo) (z : Value) (size bytes : Nat) (ht : P.underlying t = some (.slice e)) (hi : P.info? e = some i) (hz : i.zero = some z)
    (hsize : i.size = size) (hby : i.bytes = bytes) (hzs : z.cells.size = size) (hsz : 0 < size)
    (A0 : Option Addr) (n c0 : Nat) (xs : List Value) (hown : w.ownsRow base e size (.slice A0 n c0) n xs) (A : Option Addr) (m c : Nat) (news : List Value) (hr : Rd w size A m news) (h1 : ∀ u ∈ news, u.oneCell' = true)
    (h63 : n + m ≤ maxLen) (hbytes : (n + m) * bytes ≤ 140737488355328) (hbase : base ≤ w.heap.size) :
    ∃ A' c' w', (Builtin.append_ #[t, t] ty #[.slice A0 n c0, .slice A m c]).run P w = .ok (.slice A' (n + m) c') w' ∧ w'.ownsRow base e size (.slice A' (n + m) c') (n + m) (xs ++ news) ∧ Below base w w' := by
  have hrow := (own_slice w hown).choose_spec.choose_spec.2.2.2
  rcases A with _ | ad
  · have hm : m = 0 := by
      rcases Nat.eq_zero_or_pos m with h0 | h0
      · exact h0
      · obtain ⟨_, _, h, _⟩ := hr.2 h0
        cases h
    subst hm
    have hn : news = [] := List.eq_nil_of_length_eq_zero (by simpa using hr.1)
    subst hn
    exact ⟨A0, c0, w, run_append_nil_src w base t ty e i size ht hi _ n xs hown c, by simpa using hown, Below.refl _ _⟩
  · have hcells : ∀ j u, news[j]? = some u → w.cell? (ad.add j) = some u := by
      intro j u hu
      rcases Nat.eq_zero_or_pos m with h0 | h0
      · subst h0
        have hn : news = [] := List.eq_nil_of_length_eq_zero (by simpa using hr.1)
        subst hn
        simp at hu
      · obtain ⟨b, off, h, hc⟩ := hr.2 h0
        injection h with h
        subst h
        rw [Addr.add_lit]
        exact hc j u hu
    obtain ⟨v', w', hrun, h2, h3, h4⟩ := run_append_own (P := P) w base t ty e i z size bytes ht hi hz hsize hby hzs hsz _ n xs hown ad m c news hr.1 hcells h1 h63 hbytes hbase
    obtain ⟨A', c', rfl, _⟩ := own_slice w' h2
    exact ⟨A', c', w', hrun, h2, (Below.refl _ _).grown h3 hbase hrow⟩
theorem wpList_append_rd {ops : Array Oper} {rest : List Oper} {o : Oper} {a : Act} {Q : Exit → Act → World → Prop} (hgd : o.guard = none) (s x : Operand) (t : TypeId)
    (ho : o.op = .call { callee := .builtin .append, args := #[s, x], argTypes := #[t, t] })
    (base : Nat) (e : TypeId) (i : TypeInfo) (z : Value) (size bytes : Nat) (ht : P.underlying t = some (.slice e)) (hi : P.info? e = some i) (hz : i.zero = some z)
    (hsize : i.size = size) (hby : i.bytes = bytes) (hzs : z.cells.size = size) (hsz : 0 < size)
    (A0 : Option Addr) (n c0 : Nat) (xs : List Value) (hs : a.eval s = .slice A0 n c0) (hown : w.ownsRow base e size (.slice A0 n c0) n xs)
    (A : Option Addr) (m c : Nat) (news : List Value) (hx : a.eval x = .slice A m c) (hr : Rd w size A m news) (h1 : ∀ u ∈ news, u.oneCell' = true)
    (h63 : n + m ≤ maxLen) (hbytes : (n + m) * bytes ≤ 140737488355328) (hbase : base ≤ w.heap.size)
    (h : ∀ A' c' w', w'.ownsRow base e size (.slice A' (n + m) c') (n + m) (xs ++ news) → Below base w w' → wpList P ops Q rest (a.put o.dst (.slice A' (n + m) c')) w') : wpList P ops Q (o :: rest) a w :=
  wpList_plain hgd fun _ hK => by
    obtain ⟨A', c', w', hrun, h2, h3⟩ := run_append_rd (P := P) w base t o.type e i z size bytes ht hi hz hsize hby hzs hsz A0 n c0 xs hown A m c news hr h1 h63 hbytes hbase
    unfold Oper.wp execOp
    simp only [ho, resolve, invoke, builtin, Sem.run_bind, Sem.run_pure, Result.andThen_ok, List.map_toArray, List.map_cons, List.map_nil, hs, hx, hrun]
    exact hK _ _ (h A' c' w' h2 h3)
end
structure Later (w : World) where
  val : World
  below : Below w.heap.size w val
instance later_nonempty (w : World) : Nonempty (Later w) := ⟨⟨w, Below.refl _ _⟩⟩
theorem Later.rd {w : World} {sz n : Nat} {A : Option Addr} {xs : List Value} (s : Later w) (h : Rd w sz A n xs) : Rd s.val sz A n xs := h.below s.below
theorem Later.cell {w : World} {p : Addr} {u : Value} (h : w.cell? p = some u) : ∀ s : Later w, s.val.cell? p = some u := fun s => (s.below.cell (p := p) (World.block_lt_of_cell? w p h)).trans h
theorem Later.call {P : Program} {f : FuncId} {args : Array Value} {w : World} {s : Later w} {v : Value} (h : Calls P f args s.val fun e w' => e = .returned v ∧ Below s.val.heap.size s.val w') :
    Calls P f args s.val fun e w'' => e = .returned v ∧ ∃ s' : Later w, w'' = s'.val :=
  h.mono fun _ w'' ⟨he, hb⟩ => ⟨he, ⟨w'', s.below.trans (hb.mono s.below.size)⟩, rfl⟩
def bs (l : List UInt8) : List Value := l.map fun b => .int .u8 (b.toNat : Int)
@[simp] theorem bs_length (l : List UInt8) : (bs l).length = l.length := by simp [bs]
@[simp] theorem bs_append (a b : List UInt8) : bs (a ++ b) = bs a ++ bs b := by simp [bs]
theorem bs_get (l : List UInt8) (k : Nat) (h : k < l.length) : (bs l)[k]? = some (.int .u8 ((l[k]).toNat : Int)) := by simp [bs, h]
theorem bs_take (l : List UInt8) (k : Nat) : (bs l).take k = bs (l.take k) := by simp [bs, List.map_take]
theorem bs_one (l : List UInt8) : ∀ u ∈ bs l, u.oneCell' = true := by
  intro u hu
  obtain ⟨_, _, rfl⟩ := List.mem_map.1 hu
  rfl
def str (l : List UInt8) : ByteArray := ⟨l.toArray⟩
@[simp] theorem str_size (l : List UInt8) : (str l).size = l.length := by simp [str, ByteArray.size]
theorem str_toList (l : List UInt8) : (str l).toList = l := by rw [ByteArray.toList_eq]; rfl
@[simp] theorem str_data (l : List UInt8) : (str l).data.toList = l := rfl
theorem Rd.byte {w : World} {A : Option Addr} {n : Nat} {l : List UInt8} (h : Rd w 1 A n (bs l)) {k : Nat} (hk : k < l.length) : ∃ b off, A = some ⟨b, off, none⟩ ∧ w.cell? ⟨b, off + k, none⟩ = some (.int .u8 ((l[k]).toNat : Int)) := by
  have hn := h.1
  rw [bs_length] at hn
  obtain ⟨b, off, e, hc⟩ := h.2 (by omega)
  exact ⟨b, off, e, hc k _ (bs_get l k hk)⟩
theorem Rd.byteB {w : World} {A : Option Addr} {n : Nat} {l : List UInt8} (h : Rd w 1 A n (bs l)) {k : Nat} (hk : k < l.length) : ∃ b off, A = some ⟨b, off, none⟩ ∧ b < w.heap.size ∧ w.cell? ⟨b, off + k, none⟩ = some (.int .u8 ((l[k]).toNat : Int)) := by
  obtain ⟨b, off, e, hc⟩ := h.byte hk
  exact ⟨b, off, e, World.block_lt_of_cell? w _ hc, hc⟩
theorem run_str {P : Program} {w : World} {A : Option Addr} {n c : Nat} {l : List UInt8} (src dst e : TypeId) (hs : P.underlying src = some (.slice e)) (he : P.underlying e = some (.int .u8)) (hd : P.underlying dst = some .string)
    (h : Rd w 1 A n (bs l)) : (convert src dst (.slice A n c)).run P w = .ok (.string (str l)) w := by
  have hn := h.1
  rw [bs_length, Nat.mul_one] at hn
  rcases Nat.eq_zero_or_pos n with h0 | h0
  · have hl : l = [] := List.eq_nil_of_length_eq_zero (by omega)
    subst hl
    subst h0
    rw [run_convert_bytes_string w src dst e A 0 c hs he hd]
    cases A <;> simp [Conv.bytesToString, str, ByteArray.empty, ByteArray.emptyWithCapacity] <;> rfl
  · obtain ⟨b, off, rfl, hc⟩ := h.2 h0
    have h1 := run_convert_bytes_arg (P := P) w src e hs he b off n c (l.map fun b => (b.toNat : Int)) (by simp [hn]) (fun i hi => by
      rw [hc i _ (bs_get l i (by omega))]
      simp [List.getD, show i < l.length by omega]) dst hd
    rw [h1]
    simp only [strOfNums, str, List.map_map]
    congr 3
    have : ((fun n : Int => UInt8.ofNat n.toNat) ∘ fun b : UInt8 => (b.toNat : Int)) = id := by
      funext x; simp
    simp [this]
structure Val where
  k : Int
  i : Int
  s : ByteArray
def Val.v (x : Val) : Value := .agg #[.int .i64 x.k, .int .i64 x.i, .string x.s]
def Val.cs (x : Val) : List Value := [.int .i64 x.k, .int .i64 x.i, .string x.s]
def vcs (l : List Val) : List Value := l.flatMap Val.cs
theorem vcs_length (l : List Val) : (vcs l).length = l.length * 3 := by
  induction l with
  | nil => rfl
  | cons a l ih => simp [vcs, Val.cs] at ih ⊢; omega
theorem vcs_drop (l : List Val) (k : Nat) : (vcs l).drop (k * 3) = vcs (l.drop k) := by
  induction k generalizing l with
  | zero => simp
  | succ k ih =>
    cases l with
    | nil => simp [vcs]
    | cons a l =>
      have : vcs (a :: l) = Val.cs a ++ vcs l := by simp [vcs]
      rw [this, show (k + 1) * 3 = (Val.cs a).length + k * 3 by simp [Val.cs]; omega, List.drop_append]
      simp [ih]
theorem vcs_get (l : List Val) (k : Nat) (h : k < l.length) : (vcs l)[k * 3]? = some (.int .i64 (l[k]).k) ∧ (vcs l)[k * 3 + 1]? = some (.int .i64 (l[k]).i) ∧ (vcs l)[k * 3 + 2]? = some (.string (l[k]).s) := by
  have e : (vcs l).drop (k * 3) = Val.cs l[k] ++ vcs (l.drop (k + 1)) := by rw [vcs_drop, List.drop_eq_getElem_cons h]; rfl
  have g : ∀ j, (vcs l)[k * 3 + j]? = (Val.cs l[k] ++ vcs (l.drop (k + 1)))[j]? := fun j => by rw [← e, List.getElem?_drop]
  refine ⟨?_, ?_, ?_⟩
  · have := g 0; simpa [Val.cs] using this
  · have := g 1; simpa [Val.cs] using this
  · have := g 2; simpa [Val.cs] using this
theorem Rd.val {w : World} {A : Option Addr} {n : Nat} {l : List Val} (h : Rd w 3 A n (vcs l)) {k : Nat} (hk : k < l.length) :
    ∃ b off, A = some ⟨b, off, none⟩ ∧ w.cell? ⟨b, off + k * 3, none⟩ = some (.int .i64 (l[k]).k) ∧ w.cell? ⟨b, off + k * 3 + 1, none⟩ = some (.int .i64 (l[k]).i) ∧ w.cell? ⟨b, off + k * 3 + 2, none⟩ = some (.string (l[k]).s) := by
  have hn := h.1
  rw [vcs_length] at hn
  obtain ⟨b, off, e, hc⟩ := h.2 (by omega)
  obtain ⟨g0, g1, g2⟩ := vcs_get l k hk
  exact ⟨b, off, e, hc _ _ g0, by rw [Nat.add_assoc]; exact hc _ _ g1, by rw [Nat.add_assoc]; exact hc _ _ g2⟩
def veq (a b : Val) : Bool := a.k == b.k && (a.i == b.i && a.s.toList == b.s.toList)
theorem veq_iff (a b : Val) : veq a b = true ↔ a = b := by
  obtain ⟨k, i, s⟩ := a
  obtain ⟨k', i', s'⟩ := b
  simp only [veq, ByteArray.toList_eq, Bool.and_eq_true, beq_iff_eq, Val.mk.injEq]
  constructor
  · rintro ⟨h1, h2, h3⟩
    exact ⟨h1, h2, ByteArray.ext (Array.toList_inj.1 h3)⟩
  · rintro ⟨rfl, rfl, rfl⟩
    exact ⟨rfl, rfl, rfl⟩
instance : DecidableEq Val := fun a b => decidable_of_iff (veq a b = true) (veq_iff a b)
def Val.ok (x : Val) : Prop := -9223372036854775808 ≤ x.i ∧ x.i < 9223372036854775808
def okVals (l : List Val) : Prop := ∀ x ∈ l, x.ok
theorem ret_bool {a b : Bool} (h : a = b) : Ending.returned (.bool a) = .returned (.bool b) := by rw [h]
theorem list_of {α : Type} {p : Nat → α → Prop} : ∀ (n : Nat), (∀ i, i < n → ∃ x, p i x) → ∃ l : List α, l.length = n ∧ ∀ i (h : i < l.length), p i l[i]
  | 0, _ => ⟨[], rfl, fun i h => by simp at h⟩
  | n + 1, h => by
    obtain ⟨l, hl, hp⟩ := list_of n fun i hi => h i (by omega)
    obtain ⟨x, hx⟩ := h n (by omega)
    refine ⟨l ++ [x], by simp [hl], fun i hi => ?_⟩
    rcases Nat.lt_or_ge i l.length with h1 | h1
    · rw [List.getElem_append_left h1]; exact hp i h1
    · have : i = n := by simp at hi; omega
      subst this
      rw [List.getElem_append_right h1]
      simp [hl]
      exact hx
end Go.Proofs.YtnlhjhpikjmoaaaGreatDoor
namespace Go.Proofs.YtnlhjhpikjmoaaaGreatDoor
open Go.RowKit
structure Kp (ok : Nat → Prop) (w w' : World) : Prop where
  os : w'.os = w.os
  tape : w'.tape = w.tape
  output : w'.output = w.output
  size : w.heap.size ≤ w'.heap.size
  block : ∀ k, k < w.heap.size → ok k → w'.heap[k]? = w.heap[k]?
section
variable {ok ok' : Nat → Prop} {w w' w'' : World} {B : Nat}
theorem Kp.refl (ok : Nat → Prop) (w : World) : Kp ok w w := ⟨rfl, rfl, rfl, Nat.le_refl _, fun _ _ _ => rfl⟩
theorem Kp.trans (h : Kp ok w w') (k : Kp ok w' w'') : Kp ok w w'' :=
  ⟨k.os.trans h.os, k.tape.trans h.tape, k.output.trans h.output, Nat.le_trans h.size k.size, fun i hi ho => (k.block i (Nat.lt_of_lt_of_le hi h.size) ho).trans (h.block i hi ho)⟩
theorem Kp.mono (h : Kp ok w w') (hm : ∀ b, ok' b → ok b) : Kp ok' w w' := ⟨h.os, h.tape, h.output, h.size, fun i hi ho => h.block i hi (hm i ho)⟩
theorem Kp.of_below (h : Below w.heap.size w w') : Kp ok w w' := ⟨h.os, h.tape, h.output, h.size, fun i hi _ => h.block i hi⟩
theorem Kp.of_belowB (h : Below B w w') (hB : ∀ b, ok b → b < w.heap.size → b < B) : Kp ok w w' := ⟨h.os, h.tape, h.output, h.size, fun i hi ho => h.block i (hB i ho hi)⟩
theorem Kp.of_grown {row : Option Nat} (h : w.grownBy w' row) (hr : ∀ b, ok b → some b ≠ row) : Kp ok w w' := ⟨h.os, h.tape, h.output, h.size, fun i hi ho => h.block i hi (hr i ho)⟩
theorem Kp.below (h : Kp ok w w') (hB : B ≤ w.heap.size) (ho : ∀ b, b < B → ok b) : Below B w w' := ⟨h.os, h.tape, h.output, h.size, fun i hi => h.block i (by omega) (ho i hi)⟩
theorem Kp.drew (h : Kp ok w w') : Kp ok w w'.drew := ⟨h.os, h.tape, h.output, h.size, h.block⟩
theorem Kp.alloc (h : Kp ok w w') (o : Obj) : Kp ok w (w'.alloc o) := h.trans (.of_below ((Below.refl _ _).alloc (Nat.le_refl _) _))
theorem Kp.setCell (h : Kp ok w w') {p : Addr} (hp : p.block < w.heap.size → ¬ ok p.block) (u : Value) : Kp ok w (w'.setCell p u) :=
  ⟨h.os, h.tape, h.output, by simpa using h.size, fun i hi ho => (Below.heap_setCell _ _ _ _ (fun e => by subst e; exact hp hi ho)).trans (h.block i hi ho)⟩
theorem Kp.cell (h : Kp ok w w') {p : Addr} {u : Value} (hp : ok p.block) (hc : w.cell? p = some u) : w'.cell? p = some u :=
  (World.cell?_of_block (w := w) (h.block p.block (World.block_lt_of_cell? w p hc) hp)).trans hc
end
structure Rel (α : Type) where
  sz : Nat
  wt : Nat
  rel : (Nat → Prop) → World → List Value → α → Prop
  len : ∀ {ok w cs d}, rel ok w cs d → cs.length = sz
  one : ∀ {ok w cs d}, rel ok w cs d → ∀ u ∈ cs, u.oneCell' = true
  kp : ∀ {ok w w' cs d}, Kp ok w w' → rel ok w cs d → rel ok w' cs d
  mono : ∀ {ok ok' : Nat → Prop} {w cs d}, (∀ b, ok b → b < w.heap.size → ok' b) → rel ok w cs d → rel ok' w cs d
def Chunks {α : Type} (E : Rel α) (ok : Nat → Prop) (w : World) : List (List Value) → List α → Prop
  | [], [] => True
  | cs :: css, d :: l => E.rel ok w cs d ∧ Chunks E ok w css l
  | _, _ => False
section
variable {α : Type} {E : Rel α} {ok ok' : Nat → Prop} {w w' : World}
theorem Chunks.length : ∀ {css : List (List Value)} {l : List α}, Chunks E ok w css l → css.length = l.length
  | [], [], _ => rfl
  | _ :: _, _ :: _, h => congrArg (· + 1) (Chunks.length h.2)
  | [], _ :: _, h => h.elim
  | _ :: _, [], h => h.elim
theorem Chunks.kp (hk : Kp ok w w') : ∀ {css : List (List Value)} {l : List α}, Chunks E ok w css l → Chunks E ok w' css l
  | [], [], _ => trivial
  | _ :: _, _ :: _, h => ⟨E.kp hk h.1, Chunks.kp hk h.2⟩
  | [], _ :: _, h => h.elim
  | _ :: _, [], h => h.elim
theorem Chunks.mono (hm : ∀ b, ok b → b < w.heap.size → ok' b) : ∀ {css : List (List Value)} {l : List α}, Chunks E ok w css l → Chunks E ok' w css l
  | [], [], _ => trivial
  | _ :: _, _ :: _, h => ⟨E.mono hm h.1, Chunks.mono hm h.2⟩
  | [], _ :: _, h => h.elim
  | _ :: _, [], h => h.elim
theorem Chunks.append : ∀ {css css' : List (List Value)} {l l' : List α}, Chunks E ok w css l → Chunks E ok w css' l' → Chunks E ok w (css ++ css') (l ++ l')
  | [], _, [], _, _, k => k
  | _ :: _, _, _ :: _, _, h, k => ⟨h.1, Chunks.append h.2 k⟩
  | [], _, _ :: _, _, h, _ => h.elim
  | _ :: _, _, [], _, h, _ => h.elim
theorem Chunks.flat : ∀ {css : List (List Value)} {l : List α}, Chunks E ok w css l → css.flatten.length = l.length * E.sz
  | [], [], _ => by simp
  | cs :: css, _ :: l, h => by
    have h1 := Chunks.flat h.2
    have h2 := E.len h.1
    rw [List.flatten_cons, List.length_append, h1, h2, List.length_cons, Nat.add_mul, Nat.one_mul, Nat.add_comm]
  | [], _ :: _, h => h.elim
  | _ :: _, [], h => h.elim
theorem Chunks.one : ∀ {css : List (List Value)} {l : List α}, Chunks E ok w css l → ∀ u ∈ css.flatten, u.oneCell' = true
  | [], [], _ => by simp
  | cs :: css, _ :: l, h => by
    intro u hu
    rw [List.flatten_cons, List.mem_append] at hu
    rcases hu with hu | hu
    · exact E.one h.1 u hu
    · exact Chunks.one h.2 u hu
  | [], _ :: _, h => h.elim
  | _ :: _, [], h => h.elim
theorem Chunks.get : ∀ {css : List (List Value)} {l : List α}, Chunks E ok w css l → ∀ (i : Nat) (hi : i < l.length), ∃ cs, E.rel ok w cs l[i] ∧ ∀ j u, cs[j]? = some u → css.flatten[i * E.sz + j]? = some u
  | [], [], _, i, hi => absurd hi (by simp)
  | cs :: css, d :: l, h, 0, _ => ⟨cs, h.1, fun j u hu => by
      rw [Nat.zero_mul, Nat.zero_add, List.flatten_cons, List.getElem?_append_left (List.getElem?_eq_some_iff.1 hu).1]; exact hu⟩
  | cs :: css, d :: l, h, i + 1, hi => by
    obtain ⟨cs', h1, h2⟩ := Chunks.get h.2 i (by simpa using hi)
    refine ⟨cs', by simpa using h1, fun j u hu => ?_⟩
    rw [List.flatten_cons, List.getElem?_append_right (by rw [E.len h.1, Nat.add_mul, Nat.one_mul]; omega), E.len h.1, ← h2 j u hu]
    congr 1
    rw [Nat.add_mul, Nat.one_mul]; omega
  | [], _ :: _, h, _, _ => h.elim
  | _ :: _, [], h, _, _ => h.elim
theorem Chunks.take : ∀ {css : List (List Value)} {l : List α}, Chunks E ok w css l → ∀ k, Chunks E ok w (css.take k) (l.take k) ∧ css.flatten.take (k * E.sz) = (css.take k).flatten
  | [], [], _, k => by simp [Chunks]
  | cs :: css, _ :: l, h, 0 => by simp [Chunks]
  | cs :: css, _ :: l, h, k + 1 => by
    obtain ⟨h1, h2⟩ := Chunks.take h.2 k
    refine ⟨⟨h.1, h1⟩, ?_⟩
    rw [List.flatten_cons, List.take_succ_cons, List.flatten_cons, ← h2, List.take_append, E.len h.1, List.take_of_length_le (by rw [E.len h.1, Nat.add_mul]; omega)]
    congr 2
    rw [Nat.add_mul, Nat.one_mul]; omega
  | [], _ :: _, h, _ => h.elim
  | _ :: _, [], h, _ => h.elim
theorem Chunks.drop : ∀ {css : List (List Value)} {l : List α}, Chunks E ok w css l → ∀ k, Chunks E ok w (css.drop k) (l.drop k) ∧ css.flatten.drop (k * E.sz) = (css.drop k).flatten
  | [], [], _, k => by simp [Chunks]
  | cs :: css, _ :: l, h, 0 => by simpa using h
  | cs :: css, _ :: l, h, k + 1 => by
    obtain ⟨h1, h2⟩ := Chunks.drop h.2 k
    refine ⟨h1, ?_⟩
    rw [List.flatten_cons, List.drop_succ_cons, ← h2, List.drop_append, E.len h.1, List.drop_of_length_le (by rw [E.len h.1, Nat.add_mul]; omega), List.nil_append]
    congr 1
    rw [Nat.add_mul, Nat.one_mul]; omega
  | [], _ :: _, h, _ => h.elim
  | _ :: _, [], h, _ => h.elim
theorem Chunks.single {cs : List Value} {d : α} (h : E.rel ok w cs d) : Chunks E ok w [cs] [d] := ⟨h, trivial⟩
def RSl (E : Rel α) (ok : Nat → Prop) (w : World) (v : Value) (l : List α) : Prop :=
  ∃ A n c css, v = .slice A n c ∧ n ≤ c ∧ l.length = n ∧ n * E.wt ≤ 140737488351232 ∧ Rd w E.sz A n css.flatten ∧ Chunks E ok w css l ∧ (0 < n → ∀ a, A = some a → ok a.block)
theorem RSl.nil_ (E : Rel α) (ok : Nat → Prop) (w : World) : RSl E ok w (.slice none 0 0) [] := ⟨none, 0, 0, [], rfl, Nat.le_refl _, rfl, by simp, Rd.nil_ _, trivial, fun h => absurd h (by omega)⟩
theorem RSl.one {v : Value} {l : List α} (h : RSl E ok w v l) : v.oneCell' = true := by
  obtain ⟨A, n, c, css, rfl, _⟩ := h; rfl
theorem RSl.kp {v : Value} {l : List α} (hk : Kp ok w w') (h : RSl E ok w v l) : RSl E ok w' v l := by
  obtain ⟨A, n, c, css, rfl, hc, hn, hb, hr, hch, ho⟩ := h
  refine ⟨A, n, c, css, rfl, hc, hn, hb, ⟨hr.1, fun h0 => ?_⟩, hch.kp hk, ho⟩
  obtain ⟨b, off, rfl, hcell⟩ := hr.2 h0
  exact ⟨b, off, rfl, fun j u hu => hk.cell (p := ⟨b, off + j, none⟩) (show ok b from ho h0 ⟨b, off, none⟩ rfl) (hcell j u hu)⟩
theorem RSl.mono {v : Value} {l : List α} (hsz : 0 < E.sz) (hm : ∀ b, ok b → b < w.heap.size → ok' b) (h : RSl E ok w v l) : RSl E ok' w v l := by
  obtain ⟨A, n, c, css, rfl, hc, hn, hb, hr, hch, ho⟩ := h
  refine ⟨A, n, c, css, rfl, hc, hn, hb, hr, hch.mono hm, fun h0 a ha => ?_⟩
  obtain ⟨b, off, rfl, hcell⟩ := hr.2 h0
  obtain rfl : a = ⟨b, off, none⟩ := (Option.some.inj ha).symm
  have hl : 0 < css.flatten.length := by rw [hch.flat, hn]; exact Nat.mul_pos h0 hsz
  have := hcell 0 _ (List.getElem?_eq_getElem hl)
  exact hm b (ho h0 _ rfl) (World.block_lt_of_cell? w _ this)
theorem RSl.below {v : Value} {l : List α} (h : RSl E ok w v l) (hb : Below w.heap.size w w') : RSl E ok w' v l := h.kp (.of_below hb)
theorem RSl.form {v : Value} {l : List α} (h : RSl E ok w v l) : ∃ A c, v = .slice A l.length c ∧ l.length ≤ c ∧ l.length * E.wt ≤ 140737488351232 := by
  obtain ⟨A, n, c, css, rfl, hc, hn, hb, _⟩ := h
  subst hn
  exact ⟨A, c, rfl, hc, hb⟩
theorem RSl.at_ {v : Value} {l : List α} (h : RSl E ok w v l) {i : Nat} (hi : i < l.length) :
    ∃ b off c cs, v = .slice (some ⟨b, off, none⟩) l.length c ∧ ok b ∧ E.rel ok w cs l[i] ∧ ∀ j u, cs[j]? = some u → w.cell? ⟨b, off + i * E.sz + j, none⟩ = some u := by
  obtain ⟨A, n, c, css, rfl, hc, hn, hb, hr, hch, ho⟩ := h
  subst hn
  have h0 : 0 < l.length := by omega
  obtain ⟨b, off, rfl, hcell⟩ := hr.2 h0
  obtain ⟨cs, h1, h2⟩ := hch.get i hi
  exact ⟨b, off, c, cs, rfl, ho h0 _ rfl, h1, fun j u hu => by rw [Nat.add_assoc]; exact hcell _ u (h2 j u hu)⟩
theorem RSl.take {A : Option Addr} {n c : Nat} {l : List α} (h : RSl E ok w (.slice A n c) l) {k : Nat} (hk : k ≤ n) : RSl E ok w (.slice A k c) (l.take k) := by
  obtain ⟨A', n', c', css, hv, hc, hn, hb, hr, hch, ho⟩ := h
  simp only [Value.slice.injEq] at hv
  obtain ⟨rfl, rfl, rfl⟩ := hv
  obtain ⟨h1, h2⟩ := hch.take k
  have h3 := hr.take hk
  rw [h2] at h3
  exact ⟨A, k, c, _, rfl, by omega, by rw [List.length_take]; omega, Nat.le_trans (Nat.mul_le_mul_right _ hk) hb, h3, h1, fun h0 => ho (by omega)⟩
theorem RSl.drop {A : Option Addr} {n c : Nat} {l : List α} (h : RSl E ok w (.slice A n c) l) {k : Nat} (hk : k ≤ n) : RSl E ok w (.slice (if c = k then A else A.map (·.add (k * E.sz))) (n - k) (c - k)) (l.drop k) := by
  obtain ⟨A', n', c', css, hv, hc, hn, hb, hr, hch, ho⟩ := h
  simp only [Value.slice.injEq] at hv
  obtain ⟨rfl, rfl, rfl⟩ := hv
  obtain ⟨h1, h2⟩ := hch.drop k
  have h3 := hr.drop hk hc
  rw [h2] at h3
  refine ⟨_, n - k, c - k, _, rfl, by omega, by rw [List.length_drop]; omega, Nat.le_trans (Nat.mul_le_mul_right _ (Nat.sub_le _ _)) hb, h3, h1, fun h0 a ha => ?_⟩
  rw [if_neg (by omega)] at ha
  cases A with
  | none => simp at ha
  | some a' =>
    simp only [Option.map_some, Option.some.injEq] at ha
    subst ha
    have : (a'.add (k * E.sz)).block = a'.block := by unfold Addr.add; split <;> rfl
    rw [this]
    exact ho (by omega) _ rfl
end
def rSl {α : Type} (E : Rel α) (hsz : 0 < E.sz) : Rel (List α) where
  sz := 1
  wt := 24
  rel ok w cs l := ∃ v, cs = [v] ∧ RSl E ok w v l
  len := by rintro ok w cs d ⟨v, rfl, _⟩; rfl
  one := by
    rintro ok w cs d ⟨v, rfl, h⟩ u hu
    simp at hu
    subst hu
    exact h.one
  kp := by
    rintro ok w w' cs d hk ⟨v, rfl, h⟩
    exact ⟨v, rfl, h.kp hk⟩
  mono := by
    rintro ok ok' w cs d hm ⟨v, rfl, h⟩
    exact ⟨v, rfl, h.mono hsz hm⟩
def rU8 : Rel UInt8 where
  sz := 1
  wt := 1
  rel _ _ cs b := cs = [.int .u8 (b.toNat : Int)]
  len := by rintro ok w cs d rfl; rfl
  one := by
    rintro ok w cs d rfl u hu
    simp at hu
    subst hu
    rfl
  kp := fun _ h => h
  mono := fun _ h => h
theorem chunks_bytes {ok : Nat → Prop} {w : World} : ∀ {css : List (List Value)} {l : List UInt8}, Chunks rU8 ok w css l → css.flatten = bs l
  | [], [], _ => rfl
  | _ :: _, _ :: _, h => by rw [List.flatten_cons, chunks_bytes h.2, show _ = _ from h.1]; rfl
  | [], _ :: _, h => h.elim
  | _ :: _, [], h => h.elim
theorem bytes_chunks (ok : Nat → Prop) (w : World) : ∀ l : List UInt8, Chunks rU8 ok w (l.map fun b => [.int .u8 (b.toNat : Int)]) l ∧ (l.map fun b => [Value.int .u8 (b.toNat : Int)]).flatten = bs l
  | [] => ⟨trivial, rfl⟩
  | b :: l => ⟨⟨rfl, (bytes_chunks ok w l).1⟩, by rw [List.map_cons, List.flatten_cons, (bytes_chunks ok w l).2]; rfl⟩
abbrev RB (ok : Nat → Prop) (w : World) (v : Value) (l : List UInt8) : Prop := RSl rU8 ok w v l
section
variable {ok : Nat → Prop} {w : World}
theorem RB.open_ {v : Value} {l : List UInt8} (h : RB ok w v l) : ∃ A c, v = .slice A l.length c ∧ l.length ≤ c ∧ l.length ≤ 140737488351232 ∧ Rd w 1 A l.length (bs l) ∧ (0 < l.length → ∀ a, A = some a → ok a.block) := by
  obtain ⟨A, n, c, css, rfl, hc, hn, hb, hr, hch, ho⟩ := h
  subst hn
  rw [chunks_bytes hch] at hr
  exact ⟨A, c, rfl, hc, by simpa [rU8] using hb, hr, ho⟩
theorem RB.mk_ {A : Option Addr} {n c : Nat} {l : List UInt8} (hr : Rd w 1 A n (bs l)) (hc : n ≤ c) (hb : n ≤ 140737488351232) (ho : 0 < n → ∀ a, A = some a → ok a.block) : RB ok w (.slice A n c) l := by
  obtain ⟨h1, h2⟩ := bytes_chunks ok w l
  have hn : l.length = n := by have := hr.1; simpa using this
  refine ⟨A, n, c, _, rfl, hc, hn, by simpa [rU8] using hb, ?_, h1, ho⟩
  rw [h2]
  exact hr
end
def OwnL {α : Type} (E : Rel α) (okd : Nat → Prop) (base : Nat) (T : TypeId) (w : World) (v : Value) (l : List α) : Prop :=
  ∃ css, w.ownsRow base T E.sz v l.length css.flatten ∧ Chunks E (fun b => okd b ∧ some b ≠ v.ownBlock) w css l
section
variable {α : Type} {E : Rel α} {okd ok : Nat → Prop} {base : Nat} {T : TypeId} {w w' : World} {v : Value} {l : List α}
theorem OwnL.nil_ (E : Rel α) (okd : Nat → Prop) (base : Nat) (T : TypeId) (w : World) : OwnL E okd base T w (.slice none 0 0) [] := ⟨[], World.ownsRow_nil _ _ _ _, trivial⟩
theorem OwnL.form (h : OwnL E okd base T w v l) : ∃ A c, v = .slice A l.length c ∧ l.length ≤ c := by
  obtain ⟨css, ho, _⟩ := h
  obtain ⟨A, c, rfl, hc, _⟩ := own_slice w ho
  exact ⟨A, c, rfl, hc⟩
theorem OwnL.lt (h : OwnL E okd base T w v l) : ∀ k, v.ownBlock = some k → base ≤ k ∧ k < w.heap.size := by
  obtain ⟨css, ho, _⟩ := h
  exact World.ownsRow.lt ho
theorem OwnL.kp (h : OwnL E okd base T w v l) (hk : Kp ok w w') (hok : ∀ b, okd b → ok b) (hrow : ∀ b, v.ownBlock = some b → ok b) : OwnL E okd base T w' v l := by
  have hlt := h.lt
  obtain ⟨css, ho, hch⟩ := h
  refine ⟨css, ?_, hch.kp (hk.mono fun b hb => hok b hb.1)⟩
  refine ⟨ho.1, ?_⟩
  rcases ho.2 with h2 | ⟨g, cap, cur, hv, hg, hh, r⟩
  · exact .inl h2
  · have hb : v.ownBlock = some g := by rw [hv]; rfl
    exact .inr ⟨g, cap, cur, hv, hg, (hk.block g (hlt g hb).2 (hrow g hb)).trans hh, r⟩
theorem OwnL.below (h : OwnL E okd base T w v l) (hb : Below w.heap.size w w') : OwnL E okd base T w' v l := h.kp (ok := fun _ => True) (.of_below hb) (fun _ _ => trivial) (fun _ _ => trivial)
theorem OwnL.bel (h : OwnL E okd base T w v l) (hk : Kp (fun b => some b ≠ v.ownBlock) w w') (hbase : base ≤ w.heap.size) : Below base w w' :=
  hk.below hbase fun b hb e => by have := h.lt b e.symm; omega
theorem OwnL.rsl (h : OwnL E okd base T w v l) (hsz : 0 < E.sz) (hb : l.length * E.wt ≤ 140737488351232) (hrow : ∀ b, base ≤ b → ok b) (hd : ∀ b, okd b → ok b) : RSl E ok w v l := by
  have hlt := h.lt
  obtain ⟨css, ho, hch⟩ := h
  obtain ⟨A, c, rfl, hc, _⟩ := own_slice w ho
  refine ⟨A, l.length, c, css, rfl, hc, rfl, hb, Rd.of_own ho, hch.mono fun b hb _ => hd b hb.1, fun _ a ha => ?_⟩
  subst ha
  exact hrow _ (hlt _ rfl).1
end
structure RowTy (P : Program) (tS tE : TypeId) (sz wt : Nat) : Prop where
  ht : P.underlying tS = some (.slice tE)
  info : ∃ i z, P.info? tE = some i ∧ i.zero = some z ∧ i.size = sz ∧ i.bytes = wt ∧ z.cells.size = sz
theorem rowTy_mk {P : Program} {tS tE : TypeId} {sz wt : Nat} (ht : P.underlying tS = some (.slice tE)) (h : ((P.info? tE).any fun i => i.size == sz && (i.bytes == wt && i.zero.any fun z => z.cells.size == sz)) = true) : RowTy P tS tE sz wt := by
  refine ⟨ht, ?_⟩
  cases hi : P.info? tE with
  | none => rw [hi] at h; cases h
  | some i =>
    rw [hi] at h
    simp only [Option.any_some, Bool.and_eq_true, beq_iff_eq] at h
    obtain ⟨h1, h2, h3⟩ := h
    cases hz : i.zero with
    | none => rw [hz] at h3; cases h3
    | some z =>
      rw [hz] at h3
      simp only [Option.any_some, beq_iff_eq] at h3
      exact ⟨i, z, rfl, hz, h1, h2, h3⟩
section
variable {α : Type} {E : Rel α} {okd : Nat → Prop} {base : Nat} {P : Program} {tS tE : TypeId}
theorem wp_app (hT : RowTy P tS tE E.sz E.wt) (hsz : 0 < E.sz) {ops : Array Oper} {rest : List Oper} {o : Oper} {a : Act} {Q : Exit → Act → World → Prop} (hgd : o.guard = none) (s x : Operand)
    (ho : o.op = .call { callee := .builtin .append, args := #[s, x], argTypes := #[tS, tS] })
    (v : Value) (l : List α) (w : World) (hs : a.eval s = v) (hown : OwnL E okd base tE w v l)
    (A : Option Addr) (c : Nat) (l2 : List α) (css : List (List Value)) (hx : a.eval x = .slice A l2.length c) (hr : Rd w E.sz A l2.length css.flatten) (hch : Chunks E (fun b => okd b ∧ some b ≠ v.ownBlock) w css l2)
    (hlen : (l.length + l2.length) * E.wt ≤ 140737488355328) (hlen2 : l.length + l2.length ≤ 140737488355328) (hbase : base ≤ w.heap.size)
    (h : ∀ v' w', OwnL E okd base tE w' v' (l ++ l2) → Kp (fun b => some b ≠ v.ownBlock) w w' → (v'.ownBlock = v.ownBlock ∨ v'.ownBlock = some w.heap.size) → wpList P ops Q rest (a.put o.dst v') w') : wpList P ops Q (o :: rest) a w := by
  obtain ⟨i, z, hi, hz, h1, h2, h3⟩ := hT.info
  obtain ⟨cso, hrow, hcho⟩ := hown
  have key : ∃ v' w', (Builtin.append_ #[tS, tS] o.type #[v, .slice A l2.length c]).run P w = .ok v' w' ∧ w'.ownsRow base tE E.sz v' (l.length + l2.length) (cso.flatten ++ css.flatten) ∧ w.grownBy w' v.ownBlock ∧ (v'.ownBlock = v.ownBlock ∨ v'.ownBlock = some w.heap.size) := by
    rcases A with _ | ad
    · have hm : l2.length = 0 := by
        rcases Nat.eq_zero_or_pos l2.length with h0 | h0
        · exact h0
        · obtain ⟨_, _, h, _⟩ := hr.2 h0
          cases h
      have hn : css.flatten = [] := List.eq_nil_of_length_eq_zero (by rw [hch.flat, hm]; simp)
      rw [hm, hn]
      exact ⟨v, w, run_append_nil_src w base tS o.type tE i E.sz hT.ht hi v _ _ hrow c, by simpa using hrow, World.grownBy.refl _ _, .inl rfl⟩
    · have hcells : ∀ j u, css.flatten[j]? = some u → w.cell? (ad.add j) = some u := by
        intro j u hu
        rcases Nat.eq_zero_or_pos l2.length with h0 | h0
        · have hn : css.flatten = [] := List.eq_nil_of_length_eq_zero (by rw [hch.flat, h0]; simp)
          rw [hn] at hu
          simp at hu
        · obtain ⟨b, off, h, hc⟩ := hr.2 h0
          injection h with h
          subst h
          rw [Addr.add_lit]
          exact hc j u hu
      obtain ⟨v', w', hrun, h4, h5, _, h6⟩ := run_append_own_at (P := P) w base tS o.type tE i z E.sz E.wt hT.ht hi hz h1 h2 h3 hsz v _ _ hrow ad l2.length c css.flatten hch.flat hcells hch.one (by unfold maxLen; omega) hlen hbase
      exact ⟨v', w', hrun, h4, h5, h6⟩
  obtain ⟨v', w', hrun, h4, h5, h6⟩ := key
  refine wpList_plain hgd fun _ hK => ?_
  unfold Oper.wp execOp
  simp only [ho, resolve, invoke, builtin, Sem.run_bind, Sem.run_pure, Result.andThen_ok, List.map_toArray, List.map_cons, List.map_nil, hs, hx, hrun]
  refine hK _ _ (h v' w' ⟨cso ++ css, ?_, ?_⟩ (.of_grown h5 fun _ h => h) h6)
  · rw [List.length_append, List.flatten_append]; exact h4
  · have hk : Kp (fun b => okd b ∧ some b ≠ v.ownBlock) w w' := .of_grown h5 fun _ h => h.2
    refine ((hcho.mono (ok' := fun b => (okd b ∧ some b ≠ v.ownBlock) ∧ b < w.heap.size) fun b hb hlt => ⟨hb, hlt⟩).append (hch.mono (ok' := fun b => (okd b ∧ some b ≠ v.ownBlock) ∧ b < w.heap.size) fun b hb hlt => ⟨hb, hlt⟩)).kp (hk.mono fun b hb => hb.1) |>.mono fun b hb _ => ⟨hb.1.1, ?_⟩
    rcases h6 with h6 | h6
    · rw [h6]; exact hb.1.2
    · rw [h6]
      intro e
      have := Option.some.inj e
      omega
theorem wp_app1 (hT : RowTy P tS tE E.sz E.wt) (hsz : 0 < E.sz) {ops : Array Oper} {rest : List Oper} {o : Oper} {a : Act} {Q : Exit → Act → World → Prop} (hgd : o.guard = none) (s x : Operand)
    (ho : o.op = .call { callee := .builtin .append, args := #[s, x], argTypes := #[tS, tS] })
    (v : Value) (l : List α) (w : World) (cs : Array Value) (d : α) (hs : a.eval s = v) (hown : OwnL E okd base tE w v l)
    (hx : a.eval x = .slice (some ⟨w.heap.size, 0, none⟩) 1 1) (hd : E.rel (fun b => okd b ∧ some b ≠ v.ownBlock) w cs.toList d)
    (hlen : (l.length + 1) * E.wt ≤ 140737488355328) (hlen2 : l.length + 1 ≤ 140737488355328) (hbase : base ≤ w.heap.size)
    (h : ∀ v' w', OwnL E okd base tE w' v' (l ++ [d]) → Kp (fun b => some b ≠ v.ownBlock) w w' → (v'.ownBlock = v.ownBlock ∨ v'.ownBlock = some (w.heap.size + 1)) → wpList P ops Q rest (a.put o.dst v') w') : wpList P ops Q (o :: rest) a (w.alloc (.cells cs tE)) := by
  have hal : Below w.heap.size w (w.alloc (.cells cs tE)) := (Below.refl _ _).alloc (Nat.le_refl _) _
  have hd' := E.kp (.of_below hal) hd
  refine wp_app hT hsz hgd s x ho v l _ hs (hown.below hal) (some ⟨w.heap.size, 0, none⟩) 1 [d] [cs.toList] hx ?_ (Chunks.single hd') hlen hlen2 (by simp; omega) fun v' w' h1 h2 h3 => h v' w' h1 ((Kp.of_below hal).trans h2) (by simpa using h3)
  have := Rd.new w tE E.sz 1 cs (by have := E.len hd; simpa using this)
  simpa using this
end
end Go.Proofs.YtnlhjhpikjmoaaaGreatDoor
namespace Go.Proofs.YtnlhjhpikjmoaaaGreatDoor
open Go.RowKit
def Blk (w : World) (g : Nat) (t : TypeId) (cs : Array Value) : Prop := w.heap[g]? = some (.cells cs t (0, 0))
section
variable {w w' : World} {g : Nat} {t : TypeId} {cs : Array Value}
theorem Blk.lt (h : Blk w g t cs) : g < w.heap.size := by
  rcases Nat.lt_or_ge g w.heap.size with hlt | hge
  · exact hlt
  · unfold Blk at h; rw [Array.getElem?_eq_none hge] at h; cases h
theorem Blk.cell (h : Blk w g t cs) (i : Nat) : w.cell? ⟨g, i, none⟩ = cs[i]? := cell_of_row w g i cs t (0, 0) h
theorem Blk.frozen (h : Blk w g t cs) (i : Nat) : w.frozen? ⟨g, i, none⟩ = false := by
  unfold Blk at h
  simp [World.frozen?, h]
theorem Blk.new (w : World) (t : TypeId) (cs : Array Value) : Blk (w.alloc (.cells cs t)) w.heap.size t cs := heap_alloc_new w _
theorem Blk.new_ {w : World} {g : Nat} {t : TypeId} {cs : Array Value} (hg : g = w.heap.size) : Blk (w.alloc (.cells cs t)) g t cs := by subst hg; exact Blk.new w t cs
theorem Blk.drew (h : Blk w g t cs) : Blk w.drew g t cs := h
theorem Blk.alloc (h : Blk w g t cs) (o : Obj) : Blk (w.alloc o) g t cs := (Below.heap_alloc w o g h.lt).trans h
theorem Blk.set_ (h : Blk w g t cs) (i : Nat) (u : Value) : Blk (w.setCell ⟨g, i, none⟩ u) g t (cs.setIfInBounds i u) := by
  unfold Blk at h ⊢
  simp [World.setCell, Array.getElem?_modify, h]
theorem Blk.far (h : Blk w g t cs) {p : Addr} (hp : g ≠ p.block) (u : Value) : Blk (w.setCell p u) g t cs := (Below.heap_setCell w p u g hp).trans h
theorem Blk.below {B : Nat} (h : Blk w g t cs) (hb : Below B w w') (hg : g < B) : Blk w' g t cs := (hb.block g hg).trans h
theorem Blk.kp {ok : Nat → Prop} (h : Blk w g t cs) (hk : Kp ok w w') (hg : ok g) : Blk w' g t cs := (hk.block g h.lt hg).trans h
end
theorem name_world {P : Program} {c : Code} {Q : Exit → Act → World → Prop} {a : Act} {W : World} (F : World → Prop) (hF : F W) (h : ∀ w1, F w1 → c.wp P Q a w1) : c.wp P Q a W := h _ hF
theorem Blk.later {w : World} {g : Nat} {t : TypeId} {cs : Array Value} (h : Blk w g t cs) {i : Nat} {u : Value} (hu : cs[i]? = some u) : ∀ s : Later w, s.val.cell? ⟨g, i, none⟩ = some u := fun s => (Blk.cell (h.below s.below h.lt) i).trans hu
end Go.Proofs.YtnlhjhpikjmoaaaGreatDoor
namespace Go.Proofs.YtnlhjhpikjmoaaaGreatDoor
def be8 (u : Nat) : List UInt8 := [UInt8.ofNat (u / 72057594037927936), UInt8.ofNat (u / 281474976710656), UInt8.ofNat (u / 1099511627776), UInt8.ofNat (u / 4294967296), UInt8.ofNat (u / 16777216), UInt8.ofNat (u / 65536), UInt8.ofNat (u / 256), UInt8.ofNat u]
theorem be8_length (u : Nat) : (be8 u).length = 8 := rfl
theorem be8_get (u k : Nat) (h : k < 8) : (be8 u)[k]? = some (UInt8.ofNat (u / 2 ^ (56 - 8 * k))) := by
  match k, h with
  | 0, _ => rfl
  | 1, _ => rfl
  | 2, _ => rfl
  | 3, _ => rfl
  | 4, _ => rfl
  | 5, _ => rfl
  | 6, _ => rfl
  | 7, _ => simp [be8]
end Go.Proofs.YtnlhjhpikjmoaaaGreatDoor
namespace Go.Proofs.YtnlhjhpikjmoaaaGreatDoor
def rightB (k i : Int) (s : ByteArray) : Bool :=
  if k == 0 then i == 0 && s.toList.isEmpty
  else if k == 1 then s.toList.isEmpty
  else if k == 2 then i == 0 && decide ((s.size : Int) ≤ 20)
  else false
def Val.right (x : Val) : Bool := rightB x.k x.i x.s
theorem toList_inj {s t : ByteArray} (h : s.toList = t.toList) : s = t := by rw [ByteArray.toList_eq, ByteArray.toList_eq] at h; exact ByteArray.ext (Array.toList_inj.1 h)
end Go.Proofs.YtnlhjhpikjmoaaaGreatDoor
namespace Go.Proofs.YtnlhjhpikjmoaaaGreatDoor
open Go.RowKit
set_option maxHeartbeats 400000 in
theorem bytes_any (A1 A2 : Option Addr) (n1 c1 n2 c2 : Nat) (l1 l2 : List UInt8) (w : World) (h1 : Rd w 1 A1 n1 (bs l1)) (h2 : Rd w 1 A2 n2 (bs l2)) :
    Calls Tryz.prog 28 #[.slice A1 n1 c1, .slice A2 n2 c2] w fun e w' => e = .returned (.bool (l1 == l2)) ∧ w = w' := by
  have e1 := run_str (c := c1) (P := Tryz.prog) 25 9 5 Tryz.underlying25 Tryz.underlying5 Tryz.underlying9 h1
  have e2 := run_str (c := c2) (P := Tryz.prog) 25 9 5 Tryz.underlying25 Tryz.underlying5 Tryz.underlying9 h2
  go_enter Tryz.func28, Tryz.ntmps28
  go_wp2
  go_ret
  exact ⟨ret_bool (by rw [str_toList, str_toList]), rfl⟩
end Go.Proofs.YtnlhjhpikjmoaaaGreatDoor
namespace Go.Proofs.YtnlhjhpikjmoaaaGreatDoor
open Go.RowKit
section
variable {P : Program} {ops : Array Oper} {md : Region.Mode}
def waitsB (md : Region.Mode) (ops : Array Oper) : Nat → Nat → Nat → Bool
  | 0, _, _ => false
  | f + 1, j, d => match ops[j]? with
    | some o => o.after.any fun e => Region.binds md e && (e.on == d || waitsB md ops f e.on d)
    | none => false
def Closed (md : Region.Mode) (ops : Array Oper) (L : Array Bool) : Prop := ∀ j oj, ops[j]? = some oj → L.getD j false = true → ∀ e ∈ oj.after, Region.binds md e = true → L.getD e.on false = true
theorem waits_of {L : Array Bool} (hc : Closed md ops L) : ∀ (f j d : Nat), (∀ oj, ops[j]? = some oj → ∀ e ∈ oj.after, Region.binds md e = true → L.getD e.on false = true) → waitsB md ops f j d = true → L.getD d false = true
  | 0, _, _, _, h => by simp [waitsB] at h
  | f + 1, j, d, hj, h => by
    unfold waitsB at h
    split at h
    · rename_i o ho
      obtain ⟨e, he, hb⟩ := Array.any_eq_true'.1 h
      simp only [Bool.and_eq_true, Bool.or_eq_true, beq_iff_eq] at hb
      have h1 := hj o ho e he hb.1
      rcases hb.2 with h2 | h2
      · rw [← h2]; exact h1
      · exact waits_of hc f e.on d (fun oj hoj e' he' hb' => hc e.on oj hoj h1 e' he' hb') h2
    · cases h
theorem waits_closed {L : Array Bool} (hc : Closed md ops L) {f j d : Nat} (hj : L.getD j false = true) (h : waitsB md ops f j d = true) : L.getD d false = true :=
  waits_of hc f j d (fun oj hoj e he hb => hc j oj hoj hj e he hb) h
def plainOp : Op → Bool
  | .move .. | .assign .. | .pick .. | .build .. | .load .. | .binOp .. | .unOp .. | .convert .. | .fieldAddr .. | .field .. | .indexAddr .. | .index .. | .slice .. | .extract .. | .makeInterface .. => true
  | _ => false
theorem run_v_no (s : Sem Value) (w w' : World) (f : FuncId) (args : Array Value) : (do let x ← s; pure (Next.value x) : Sem Next).run P w ≠ .ok (.enter f args) w' := by
  rw [Sem.run_bind]
  cases s.run P w with
  | ok x w1 =>
    simp only [Result.andThen_ok, Sem.run_pure]
    intro h
    cases h
  | halt x w1 =>
    intro h
    cases h
theorem plain_no {o : Oper} (h : plainOp o.op = true) (ρ : Operand → Value) (w w' : World) (f : FuncId) (args : Array Value) : (execOp ρ o).run P w ≠ .ok (.enter f args) w' := by
  obtain ⟨dst, op, type, pos, after, guard⟩ := o
  cases op <;> simp only [plainOp] at h <;> first | (exact absurd h (by decide)) | skip
  all_goals simp only [execOp]
  all_goals first
    | exact run_v_no _ _ _ _ _
    | (intro h2; cases h2; done)
    | skip
  all_goals
    rw [Sem.run_bind]
    intro h2
    cases hq : (asBool _).run P w <;> rw [hq] at h2
    · simp only [Result.andThen_ok, Sem.run_pure] at h2
      cases h2
    · cases h2
def manyB (md : Region.Mode) (ops : Array Oper) (n : Nat) (wild : List Nat) : Bool :=
  Region.noSelect ops && decide (n ≤ ops.size) && (List.range n).all fun j => match ops[j]? with
    | none => false
    | some oj => (wild.contains j || plainOp oj.op) && (oj.after.all fun e => !Region.binds md e || decide (e.on < j)) &&
      (List.range j).all fun i => match ops[i]? with
        | none => false
        | some oi => ((oj.after.any fun e => Region.binds md e && e.on == i) || oi.apart ops oj) && (match oi.dst with | some d => oj.dst != some d | none => true)
structure ManyOk (md : Region.Mode) (ops : Array Oper) (n : Nat) (wild : List Nat) : Prop where
  le : n ≤ ops.size
  sel : ∀ (j : Nat) (o : Oper) cs b, ops[j]? = some o → o.op ≠ .select cs b
  plain : ∀ j oj, j < n → ops[j]? = some oj → j ∉ wild → plainOp oj.op = true
  back : ∀ j oj, j < n → ops[j]? = some oj → ∀ e ∈ oj.after, Region.binds md e = true → e.on < j
  free : ∀ (i j : Nat) (oi oj : Oper), i < j → j < n → ops[i]? = some oi → ops[j]? = some oj → (∃ e ∈ oj.after, Region.binds md e = true ∧ e.on = i) ∨ oi.apart ops oj = true
  dsts : ∀ (i j : Nat) (oi oj : Oper), i < j → j < n → ops[i]? = some oi → ops[j]? = some oj → ∀ d, oi.dst = some d → oj.dst ≠ some d
theorem many_ok {n : Nat} {wild : List Nat} (h : manyB md ops n wild = true) : ManyOk md ops n wild := by
  simp only [manyB, Bool.and_eq_true, List.all_eq_true, List.mem_range, decide_eq_true_eq] at h
  obtain ⟨⟨h0, hle⟩, h1⟩ := h
  have key : ∀ (j : Nat) (oj : Oper), j < n → ops[j]? = some oj → ((wild.contains j || plainOp oj.op) = true ∧ (oj.after.all fun e => !Region.binds md e || decide (e.on < j)) = true) ∧
      ∀ i, i < j → (match ops[i]? with
        | none => false
        | some oi => ((oj.after.any fun e => Region.binds md e && e.on == i) || oi.apart ops oj) && (match oi.dst with | some d => oj.dst != some d | none => true)) = true := by
    intro j oj hjn hj
    have h2 := h1 j hjn
    rw [hj] at h2
    simpa only [Bool.and_eq_true, List.all_eq_true, List.mem_range] using h2
  have key2 : ∀ (i j : Nat) (oi oj : Oper), i < j → j < n → ops[i]? = some oi → ops[j]? = some oj → ((oj.after.any fun e => Region.binds md e && e.on == i) || oi.apart ops oj) = true ∧ (match oi.dst with | some d => oj.dst != some d | none => true) = true := by
    intro i j oi oj hij hjn hi hj
    have h2 := (key j oj hjn hj).2 i hij
    rw [hi] at h2
    simpa only [Bool.and_eq_true] using h2
  refine ⟨hle, Region.noSelect_spec h0, fun j oj hjn hj hw => ?_, fun j oj hjn hj e he hb => ?_, fun i j oi oj hij hjn hi hj => ?_, fun i j oi oj hij hjn hi hj d hd => ?_⟩
  · have h2 := (key j oj hjn hj).1.1
    simpa [hw] using h2
  · have h2 := Array.all_eq_true_iff_forall_mem.1 (key j oj hjn hj).1.2 e he
    simpa [hb] using h2
  · have h2 := (key2 i j oi oj hij hjn hi hj).1
    simp only [Bool.or_eq_true] at h2
    rcases h2 with h2 | h2
    · obtain ⟨e, he, hb⟩ := Array.any_eq_true'.1 h2
      simp only [Bool.and_eq_true, beq_iff_eq] at hb
      exact .inl ⟨e, he, hb⟩
    · exact .inr h2
  · have h2 := (key2 i j oi oj hij hjn hi hj).2
    rw [hd] at h2
    simpa using h2
def dstOf (ops : Array Oper) (k : Nat) : Option Tmp := (ops[k]?).bind (·.dst)
def fr (ops : Array Oper) (a : Act) (S : Nat → Bool) (e : Nat → Value) : Nat → Act
  | 0 => a
  | k + 1 => if S k then (fr ops a S e k).put (dstOf ops k) (e k) else fr ops a S e k
def upd (e : Nat → Value) (k : Nat) (x : Value) : Nat → Value := fun i => if i = k then x else e i
def on (S : Nat → Bool) (k : Nat) : Nat → Bool := fun i => i == k || S i
theorem fr_congr {ops : Array Oper} {a : Act} {S S' : Nat → Bool} {e e' : Nat → Value} : ∀ n, (∀ i, i < n → S i = S' i ∧ (S i = true → e i = e' i)) → fr ops a S e n = fr ops a S' e' n
  | 0, _ => rfl
  | n + 1, h => by
    have ih := fr_congr (ops := ops) (a := a) n fun i hi => h i (by omega)
    obtain ⟨h1, h2⟩ := h n (by omega)
    unfold fr
    rw [ih, ← h1]
    cases hS : S n
    · rfl
    · simp only [if_true]; rw [h2 hS]
theorem fr_lex {a : Act} {e : Nat → Value} (k : Nat) : ∀ n, k ≤ n → fr ops a (fun i => decide (i < k)) e n = fr ops a (fun _ => true) e k
  | 0, h => by obtain rfl : k = 0 := by omega
               rfl
  | n + 1, h => by
    by_cases hk : k = n + 1
    · subst hk
      exact fr_congr _ fun i hi => ⟨by simp [hi], fun _ => rfl⟩
    · have ih := fr_lex (a := a) (e := e) k n (by omega)
      show (if decide (n < k) = true then _ else _) = _
      rw [if_neg (by simp; omega)]
      exact ih
theorem fr_set {n0 : Nat} {wild : List Nat} (hm : ManyOk md ops n0 wild) {a : Act} {S : Nat → Bool} {e : Nat → Value} {k : Nat} {x : Value} (hS : S k = false) : ∀ n, k < n → n ≤ n0 → fr ops a (on S k) (upd e k x) n = (fr ops a S e n).put (dstOf ops k) x
  | 0, h, _ => absurd h (by omega)
  | n + 1, h, hn => by
    by_cases hk : k = n
    · subst hk
      have hc : fr ops a (on S k) (upd e k x) k = fr ops a S e k := fr_congr k fun i hi => ⟨by simp [on]; omega, fun _ => by simp [upd]; omega⟩
      unfold fr
      rw [hc, hS, if_pos (by simp [on]), if_neg (by simp)]
      simp [upd]
    · have ih := fr_set hm (x := x) (a := a) (e := e) hS n (by omega) (by omega)
      have e1 : on S k n = S n := by simp [on]; omega
      have e2 : upd e k x n = e n := by simp [upd]; omega
      unfold fr
      rw [ih, e1, e2]
      cases hSn : S n
      · simp
      · simp only [if_true]
        refine Act.put_comm _ _ _ fun d hd => ?_
        obtain ⟨ok, hok⟩ : ∃ o, ops[k]? = some o := ⟨_, Array.getElem?_eq_getElem (by have := hm.le; omega)⟩
        obtain ⟨on', hon⟩ : ∃ o, ops[n]? = some o := ⟨_, Array.getElem?_eq_getElem (by have := hm.le; omega)⟩
        unfold dstOf at hd ⊢
        rw [hok] at hd
        rw [hon]
        exact hm.dsts k n ok on' (by omega) (by omega) hok hon d hd
def Ag (ops : Array Oper) (o : Oper) (a a' : Act) : Prop := a.tmps.size = a'.tmps.size ∧ ∀ t ∈ o.looksAt ops, a.tmps[t]? = a'.tmps[t]?
theorem Ag.exec {o : Oper} {a a' : Act} (hs : ∀ cs b, o.op ≠ .select cs b) (h : Ag ops o a a') : execOp a.eval o = execOp a'.eval o :=
  execOp_congr o hs fun x hx => by
    cases x with
    | tmp t =>
      have := h.2 t (List.mem_append_left _ (List.mem_filterMap.2 ⟨.tmp t, by simpa using hx, rfl⟩))
      simp [Act.eval, Array.getD_eq_getD_getElem?, this]
    | _ => rfl
theorem Ag.wanted {o : Oper} {a a' : Act} (h : Ag ops o a a') : Region.wanted o (yielded ops a.tmps) = Region.wanted o (yielded ops a'.tmps) := by
  unfold Region.wanted
  cases hg : o.guard with
  | none => rfl
  | some gw =>
    obtain ⟨g, want⟩ := gw
    have hy : yielded ops a.tmps g = yielded ops a'.tmps g := by
      unfold yielded
      cases ht : (ops[g]?).bind (·.dst) with
      | none => rfl
      | some t =>
        have := h.2 t (by simp [Oper.looksAt, hg, ht])
        simp only [Option.bind_some, this]
    simp only [hy]
theorem put_size (a : Act) (d : Option Tmp) (v : Value) : (a.put d v).tmps.size = a.tmps.size := by cases d <;> simp [Act.put]
theorem put_at (a : Act) (d : Option Tmp) (v : Value) (t : Nat) (h : d ≠ some t) : (a.put d v).tmps[t]? = a.tmps[t]? := by
  cases d with
  | none => rfl
  | some d =>
    have : d ≠ t := fun e => h (by rw [e])
    simp [Act.put, Array.getElem?_setIfInBounds_ne this]
theorem put_both {a a' : Act} (d : Option Tmp) (v : Value) (t : Nat) (hs : a.tmps.size = a'.tmps.size) (h : a.tmps[t]? = a'.tmps[t]?) : (a.put d v).tmps[t]? = (a'.put d v).tmps[t]? := by
  by_cases e : d = some t
  · subst e
    simp [Act.put, Array.getElem?_setIfInBounds, hs]
  · rw [put_at _ _ _ _ e, put_at _ _ _ _ e, h]
theorem ag_fr {o : Oper} {a : Act} {S1 S2 : Nat → Bool} {e1 e2 : Nat → Value} : ∀ n, (∀ k, k < n → S1 k = true → S2 k = true → e1 k = e2 k) → (∀ k, k < n → S1 k ≠ S2 k → ∀ d, dstOf ops k = some d → d ∉ o.looksAt ops) →
    Ag ops o (fr ops a S1 e1 n) (fr ops a S2 e2 n)
  | 0, _, _ => ⟨rfl, fun _ _ => rfl⟩
  | n + 1, h1, h2 => by
    obtain ⟨i1, i2⟩ := ag_fr n (fun k hk => h1 k (by omega)) (fun k hk => h2 k (by omega))
    unfold fr
    cases hS1 : S1 n <;> cases hS2 : S2 n
    · exact ⟨i1, i2⟩
    · simp only [if_true, Bool.false_eq_true, if_false]
      exact ⟨by rw [put_size]; exact i1, fun t ht => by rw [put_at _ _ _ _ (fun e => h2 n (by omega) (by rw [hS1, hS2]; simp) t e ht)]; exact i2 t ht⟩
    · simp only [if_true, Bool.false_eq_true, if_false]
      exact ⟨by rw [put_size]; exact i1, fun t ht => by rw [put_at _ _ _ _ (fun e => h2 n (by omega) (by rw [hS1, hS2]; simp) t e ht)]; exact i2 t ht⟩
    · simp only [if_true]
      rw [h1 n (by omega) hS1 hS2]
      exact ⟨by rw [put_size, put_size]; exact i1, fun t ht => put_both _ _ _ i1 (i2 t ht)⟩
def giv (P : Program) (Φ : Value → World → Prop) : Result Next → Prop
  | .ok (.value x) w' => Φ x w'
  | .ok .skip w' => Φ undef w'
  | .ok (.enter f args) w' => Calls P f args w' fun e w'' => ∃ x, e = .returned x ∧ Φ x w''
  | _ => False
def Gives (P : Program) (o : Oper) (a : Act) (w : World) (Φ : Value → World → Prop) : Prop := giv P Φ ((execOp a.eval o).run P w)
theorem Gives.wp {o : Oper} {a : Act} {w : World} {Φ : Value → World → Prop} {K : Act → World → Prop} {Q : Exit → Act → World → Prop} (h : Gives P o a w Φ) (hK : ∀ x w', Φ x w' → K (a.put o.dst x) w') : o.wp P a w K Q := by
  unfold Gives at h
  unfold Oper.wp
  generalize (execOp a.eval o).run P w = r at *
  cases r with
  | ok n w' =>
    cases n <;> simp only [giv] at h <;> simp only [Oper.upon]
    case value u => exact hK _ _ h
    case skip => exact hK _ _ h
    case enter f args => exact h.mono fun e w'' ⟨x, he, hx⟩ => by subst he; exact hK _ _ hx
  | halt x w' => simp only [giv] at h
theorem Gives.congr {o : Oper} {a a' : Act} {w : World} {Φ : Value → World → Prop} (he : execOp a.eval o = execOp a'.eval o) (h : Gives P o a' w Φ) : Gives P o a w Φ := by
  unfold Gives at *
  rw [he]
  exact h
theorem Gives.mono {o : Oper} {a : Act} {w : World} {Φ Ψ : Value → World → Prop} (h : Gives P o a w Φ) (hK : ∀ x w', Φ x w' → Ψ x w') : Gives P o a w Ψ := by
  unfold Gives at *
  generalize (execOp a.eval o).run P w = r at *
  cases r with
  | ok n w' =>
    cases n <;> simp only [giv] at h ⊢
    case value u => exact hK _ _ h
    case skip => exact hK _ _ h
    case enter f args => exact h.mono fun e w'' ⟨x, he, hx⟩ => ⟨x, he, hK _ _ hx⟩
  | halt x w' => simp only [giv] at h
variable (P md ops)
variable (Inv : (Nat → Bool) → World → Prop) (V : Nat → Value → World → Prop) (wild : List Nat)
def WildStep (v : Nat → Value) (E : Nat → Prop) (k : Nat) (o : Oper) (a : Act) : Prop :=
  ∀ (M : Nat → Bool) (w : World), M k = false → (∀ st, waitsB md ops ops.size st k = true → M st = false) → (∀ d, E d → waitsB md ops ops.size k d = true → M d = true) → Inv M w → (∀ d, M d = true → V d (v d) w) →
    Gives P o a w fun x w' => V k x w' ∧ Inv (on M k) w' ∧ ∀ j x', j ≠ k → V j x' w → V j x' w'
def wantedAt (a : Act) (e : Nat → Value) (k : Nat) (o : Oper) : Bool := Region.wanted o (yielded ops (fr ops a (fun _ => true) e k).tmps)
variable {P md ops Inv V wild}
theorem WildStep.more {v : Nat → Value} {E E' : Nat → Prop} {k : Nat} {o : Oper} {a : Act} (h : WildStep P ops md Inv V v E k o a) (hE : ∀ d, E d → E' d) : WildStep P ops md Inv V v E' k o a :=
  fun M w h1 h2 h3 h4 h5 => h M w h1 h2 (fun d hd => h3 d (hE d hd)) h4 h5
theorem all_listed {n : Nat} {wild : List Nat} (hm : ManyOk md ops n wild) {L : Array Bool} (hs : L.size = ops.size) (hr : Region.ready md ops L = []) : ∀ i, i < n → L.getD i false = true := by
  intro i
  induction i using Nat.strongRecOn with
  | _ i ih =>
    intro hi
    cases hl : L.getD i false with
    | true => rfl
    | false =>
      have hi' : i < ops.size := by have := hm.le; omega
      have hmem : i ∈ Region.ready md ops L := mem_ready.2 ⟨getD_in (by omega) hl, ops[i], Array.getElem?_eq_getElem hi', fun e he hb => ih e.on (hm.back i _ hi (Array.getElem?_eq_getElem hi') e he hb) (by
        have := hm.back i _ hi (Array.getElem?_eq_getElem hi') e he hb
        omega)⟩
      rw [hr] at hmem
      cases hmem
theorem countP_one {p q : Nat → Bool} {j : Nat} (hj : p j = true) (hq : q j = false) (h : ∀ i, i ≠ j → q i = p i) : ∀ n, j < n → (List.range n).countP p = (List.range n).countP q + 1
  | 0, hn => absurd hn (by omega)
  | n + 1, hn => by
    rw [List.range_succ, List.countP_append, List.countP_append]
    by_cases hjn : j = n
    · subst hjn
      have : (List.range j).countP p = (List.range j).countP q := List.countP_congr fun i hi => by
        have := List.mem_range.1 hi
        rw [h i (by omega)]
      rw [this]
      simp [hj, hq]
    · have ih := countP_one hj hq h n (by omega)
      rw [ih]
      simp only [List.countP_cons, List.countP_nil]
      rw [h n (by omega)]
      omega
theorem setL_at {L : Array Bool} {n j : Nat} (hs : L.size = n) (hj : j < n) (i : Nat) : (L.setIfInBounds j true).getD i false = on (L.getD · false) j i := by
  unfold on
  by_cases h : i = j
  · subst h
    simp [hs, hj]
  · rw [getD_set_ne false (Ne.symm h)]
    simp [h]
end
end Go.Proofs.YtnlhjhpikjmoaaaGreatDoor
namespace Go.Proofs.YtnlhjhpikjmoaaaGreatDoor
open Go.RowKit
structure Sp where
  sh : Value → Prop
  wit : Value
  shw : sh wit
  F : Value → World → Prop
  shF : ∀ x w, F x w → sh x
  st : ∀ x w1 w2, Below w1.heap.size w1 w2 → F x w1 → F x w2
def Sp.any : Sp := ⟨fun _ => True, undef, trivial, fun _ _ => True, fun _ _ _ => trivial, fun _ _ _ _ h => h⟩
def Sp.val (u : Value) : Sp := ⟨fun x => x = u, u, rfl, fun x _ => x = u, fun _ _ h => h, fun _ _ _ _ h => h⟩
def Sp.rsl {α : Type} (E : Rel α) (ok : Nat → Prop) (l : List α) : Sp :=
  ⟨fun x => ∃ A c, x = .slice A l.length c ∧ l.length ≤ c, .slice none l.length l.length, ⟨none, l.length, rfl, Nat.le_refl _⟩, fun x w => RSl E ok w x l, fun x w h => by obtain ⟨A, c, hv, hc, _⟩ := h.form; exact ⟨A, c, hv, hc⟩, fun _ _ _ hb h => h.below hb⟩
def Sp.rb (ok : Nat → Prop) (l : List UInt8) : Sp := Sp.rsl rU8 ok l
section
variable {P : Program} {ops : Array Oper} {md : Region.Mode} {w : World} {L : List (Nat × Sp)} {wild : List Nat} {v : Nat → Value} {Q : Act → World → Prop}
@[go_sem] theorem giv_enter {Φ : Value → World → Prop} {f : FuncId} {args : Array Value} {w' : World} : giv P Φ (.ok (.enter f args) w') = Calls P f args w' fun e w'' => ∃ x, e = .returned x ∧ Φ x w'' := rfl
@[go_sem] theorem giv_value {Φ : Value → World → Prop} {x : Value} {w' : World} : giv P Φ (.ok (.value x) w') = Φ x w' := rfl
@[go_sem] theorem giv_skip {Φ : Value → World → Prop} {w' : World} : giv P Φ (.ok .skip w') = Φ undef w' := rfl
end
end Go.Proofs.YtnlhjhpikjmoaaaGreatDoor
