/- Memory words of this seat's proofs: a slice that reads as a list of cells; bytes; values of three cells. No program in sight.
slices.Sorted(maps.Keys(m)) at two map types, by the shelf's contracts.
Plain numbers: an integer's eight bytes.
Plain: the end of bytes, the order of texts. No program in sight.
Plain: the bytes of values stand in the values' order; what is written can be told apart. No program in sight.
Contracts of small functions: tuple.Right, armoireref03.Right, armoirelaw03.right, armoirehelp.Bytes.
Contracts: the bytes of values.
Contracts: CopyBytes, Clone, End, ref End, Begins, and bytes of one's own.
Data with depth: what cells say of plain data, kept where memory is kept; lists of one's own that grow. No program in sight.
A block that is known whole. No program in sight. -/
import Derived.WalkKit
import Derived.WalkSpells
import Derived.WalkLawsBesides
import Derived.BigQuiet
import Derived.Lib.Hide
import Derived.Laws.BytesArg
import Derived.Maps.AppendAt
import Derived.Laws.CopyOwn
import Derived.Shelf.SlIter.Nil
import Derived.Shelf.SortM.Plain
import Derived.Shelf.SortM.SortNone
import Derived.Test.YtmiceacjpadllaaGreatDoorProg
import Derived.Laws.Bits64
import Derived.Laws.BitsAllLaws
namespace Go.Proofs.YtmiceacjpadllaaGreatDoor
open Go.RowKit
def Keeps (w w' : World) : Prop := ∀ p u, w.cell? p = some u → w'.cell? p = some u
theorem Keeps.refl (w : World) : Keeps w w := fun _ _ h => h
theorem Keeps.trans {a b c : World} (h : Keeps a b) (k : Keeps b c) : Keeps a c := fun p u hu => k p u (h p u hu)
theorem Keeps.of_below {w w' : World} (hb : Below w.heap.size w w') : Keeps w w' := fun p _ hu => (hb.cell (p := p) (World.block_lt_of_cell? w p hu)).trans hu
def Rd (w : World) (sz : Nat) (A : Option Addr) (n : Nat) (xs : List Value) : Prop :=
  xs.length = n * sz ∧ (0 < n → ∃ b off, A = some ⟨b, off, none⟩ ∧ ∀ j u, xs[j]? = some u → w.cell? ⟨b, off + j, none⟩ = some u)
section
variable {w w' : World} {sz n : Nat} {A : Option Addr} {xs : List Value}
theorem Rd.keep (h : Rd w sz A n xs) (hk : Keeps w w') : Rd w' sz A n xs :=
  ⟨h.1, fun hn => let ⟨b, off, e, hc⟩ := h.2 hn; ⟨b, off, e, fun j u hu => hk _ _ (hc j u hu)⟩⟩
theorem Rd.below (h : Rd w sz A n xs) (hb : Below w.heap.size w w') : Rd w' sz A n xs := h.keep (.of_below hb)
theorem Rd.nil_ (A : Option Addr) : Rd w sz A 0 [] := ⟨by simp, fun h => absurd h (by omega)⟩
theorem Rd.of_own {base : Nat} {e : TypeId} {c : Nat} (h : w.ownsRow base e sz (.slice A n c) n xs) : Rd w sz A n xs := by
  refine ⟨h.1, fun hn => ?_⟩
  rcases h.2 with ⟨_, h0⟩ | ⟨g, cap, cur, hv, _, hh, _, _, _, ht⟩
  · omega
  · simp only [Value.slice.injEq] at hv
    obtain ⟨rfl, _, rfl⟩ := hv
    refine ⟨g, 0, rfl, fun j u hu => ?_⟩
    have := World.ownsRow.cells h (g := g) rfl j u hu
    rwa [Addr.add_lit] at this
theorem Rd.drop (h : Rd w sz A n xs) {k cap : Nat} (hk : k ≤ n) (hc : n ≤ cap) : Rd w sz (if cap = k then A else A.map (·.add (k * sz))) (n - k) (xs.drop (k * sz)) := by
  refine ⟨by rw [List.length_drop, h.1, Nat.sub_mul], fun hn => ?_⟩
  obtain ⟨b, off, rfl, hcell⟩ := h.2 (by omega)
  rw [if_neg (by omega)]
  refine ⟨b, off + k * sz, by simp [Addr.add_lit], fun j u hu => ?_⟩
  rw [Nat.add_assoc]
  exact hcell _ u (by rw [← hu, List.getElem?_drop])
theorem Rd.take (h : Rd w sz A n xs) {k : Nat} (hk : k ≤ n) : Rd w sz A k (xs.take (k * sz)) := by
  refine ⟨by rw [List.length_take, h.1]; exact Nat.min_eq_left (Nat.mul_le_mul_right _ hk), fun hn => ?_⟩
  obtain ⟨b, off, rfl, hcell⟩ := h.2 (by omega)
  refine ⟨b, off, rfl, fun j u hu => hcell _ u ?_⟩
  rw [List.getElem?_take] at hu
  split at hu
  · exact hu
  · cases hu
end
theorem Rd.new (w : World) (e : TypeId) (sz n : Nat) (cs : Array Value) (h : cs.size = n * sz) : Rd (w.alloc (.cells cs e)) sz (some ⟨w.heap.size, 0, none⟩) n cs.toList :=
  ⟨by simpa using h, fun _ => ⟨_, 0, rfl, fun j u hu => by simpa using hu⟩⟩
section
variable {P : Program} (w : World)
theorem run_append_nil_src (base : Nat) (t ty e : TypeId) (i : TypeInfo) (size : Nat) (ht : P.underlying t = some (.slice e)) (hi : P.info? e = some i)
    (v : Value) (n : Nat) (xs : List Value) (hown : w.ownsRow base e size v n xs) (c : Nat) : (Builtin.append_ #[t, t] ty #[v, .slice none 0 c]).run P w = .ok v w := by
  rcases hown.2 with ⟨rfl, rfl⟩ | ⟨g, cap, cur, rfl, _, _, hnc, _⟩
  · simp [Builtin.append_, run_underlying ht, sizeOf, typeInfo, hi, Builtin.lenOf, Builtin.firstCells]
  · simp [Builtin.append_, run_underlying ht, sizeOf, typeInfo, hi, Builtin.lenOf, Builtin.firstCells, hnc, storeCells]
theorem own_slice {base : Nat} {e : TypeId} {sz : Nat} {v : Value} {n : Nat} {xs : List Value} (h : w.ownsRow base e sz v n xs) : ∃ A c, v = .slice A n c ∧ n ≤ c ∧ c ≤ maxLen ∧ (∀ k, v.ownBlock = some k → base ≤ k) := by
  rcases h.2 with ⟨rfl, rfl⟩ | ⟨g, cap, cur, rfl, hb, _, hnc, hcm, _⟩
  · exact ⟨none, 0, rfl, Nat.le_refl _, Nat.zero_le _, fun k hk => by simp [Value.ownBlock] at hk⟩
  · exact ⟨_, cap, rfl, hnc, hcm, fun k hk => by simp [Value.ownBlock] at hk; omega⟩
theorem run_append_rd (base : Nat) (t ty e : TypeId) (i : TypeInfo) (z : Value) (size bytes : Nat) (ht : P.underlying t = some (.slice e)) (hi : P.info? e = some i) (hz : i.zero = some z)
    (hsize : i.size = size) (hby : i.bytes = bytes) (hzs : z.cells.size = size) (hsz : 0 < size)
    (A0 : Option Addr) (n c0 : Nat) (xs : List Value) (hown : w.ownsRow base e size (.slice A0 n c0) n xs) (A : Option Addr) (m c : Nat) (news : List Value) (hr : Rd w size A m news) (h1 : ∀ u ∈ news, u.oneCell' = true)
    (h63 : n + m ≤ maxLen) (hbytes : (n + m) * bytes ≤ 140737488355328) (hbase : base ≤ w.heap.size) :
    ∃ A' c' w', (Builtin.append_ #[t, t] ty #[.slice A0 n c0, .slice A m c]).run P w = .ok (.slice A' (n + m) c') w' ∧ w'.ownsRow base e size (.slice A' (n + m) c') (n + m) (xs ++ news) ∧ Below base w w' := by
  have hrow := (own_slice w hown).choose_spec.choose_spec.2.2.2
  rcases A with _ | ad
  · have hm : m = 0 := by
      rcases Nat.eq_zero_or_pos m with h0 | h0
      · exact h0
      · obtain ⟨_, _, h, _⟩ := hr.2 h0
        cases h
    subst hm
    have hn : news = [] := List.eq_nil_of_length_eq_zero (by simpa using hr.1)
    subst hn
    exact ⟨A0, c0, w, run_append_nil_src w base t ty e i size ht hi _ n xs hown c, by simpa using hown, Below.refl _ _⟩
  · have hcells : ∀ j u, news[j]? = some u → w.cell? (ad.add j) = some u := by
      intro j u hu
      rcases Nat.eq_zero_or_pos m with h0 | h0
      · subst h0
        have hn : news = [] := List.eq_nil_of_length_eq_zero (by simpa using hr.1)
        subst hn
        simp at hu
      · obtain ⟨b, off, h, hc⟩ := hr.2 h0
        injection h with h
        subst h
        rw [Addr.add_lit]
        exact hc j u hu
    obtain ⟨v', w', hrun, h2, h3, h4⟩ := run_append_own (P := P) w base t ty e i z size bytes ht hi hz hsize hby hzs hsz _ n xs hown ad m c news hr.1 hcells h1 h63 hbytes hbase
    obtain ⟨A', c', rfl, _⟩ := own_slice w' h2
    exact ⟨A', c', w', hrun, h2, (Below.refl _ _).grown h3 hbase hrow⟩
theorem wpList_append_rd {ops : Array Oper} {rest : List Oper} {o : Oper} {a : Act} {Q : Exit → Act → World → Prop} (hgd : o.guard = none) (s x : Operand) (t : TypeId)
    (ho : o.op = .call { callee := .builtin .append, args := #[s, x], argTypes := #[t, t] })
    (base : Nat) (e : TypeId) (i : TypeInfo) (z : Value) (size bytes : Nat) (ht : P.underlying t = some (.slice e)) (hi : P.info? e = some i) (hz : i.zero = some z)
    (hsize : i.size = size) (hby : i.bytes = bytes) (hzs : z.cells.size = size) (hsz : 0 < size)
    (A0 : Option Addr) (n c0 : Nat) (xs : List Value) (hs : a.eval s = .slice A0 n c0) (hown : w.ownsRow base e size (.slice A0 n c0) n xs)
    (A : Option Addr) (m c : Nat) (news : List Value) (hx : a.eval x = .slice A m c) (hr : Rd w size A m news) (h1 : ∀ u ∈ news, u.oneCell' = true)
    (h63 : n + m ≤ maxLen) (hbytes : (n + m) * bytes ≤ 140737488355328) (hbase : base ≤ w.heap.size)
    (h : ∀ A' c' w', w'.ownsRow base e size (.slice A' (n + m) c') (n + m) (xs ++ news) → Below base w w' → wpList P ops Q rest (a.put o.dst (.slice A' (n + m) c')) w') : wpList P ops Q (o :: rest) a w :=
  wpList_plain hgd fun _ hK => by
    obtain ⟨A', c', w', hrun, h2, h3⟩ := run_append_rd (P := P) w base t o.type e i z size bytes ht hi hz hsize hby hzs hsz A0 n c0 xs hown A m c news hr h1 h63 hbytes hbase
    unfold Oper.wp execOp
    simp only [ho, resolve, invoke, builtin, Sem.run_bind, Sem.run_pure, Result.andThen_ok, List.map_toArray, List.map_cons, List.map_nil, hs, hx, hrun]
    exact hK _ _ (h A' c' w' h2 h3)
end
structure Later (w : World) where
  val : World
  below : Below w.heap.size w val
instance later_nonempty (w : World) : Nonempty (Later w) := ⟨⟨w, Below.refl _ _⟩⟩
theorem Later.rd {w : World} {sz n : Nat} {A : Option Addr} {xs : List Value} (s : Later w) (h : Rd w sz A n xs) : Rd s.val sz A n xs := h.below s.below
theorem Later.cell {w : World} {p : Addr} {u : Value} (h : w.cell? p = some u) : ∀ s : Later w, s.val.cell? p = some u := fun s => (s.below.cell (p := p) (World.block_lt_of_cell? w p h)).trans h
theorem Later.call {P : Program} {f : FuncId} {args : Array Value} {w : World} {s : Later w} {v : Value} (h : Calls P f args s.val fun e w' => e = .returned v ∧ Below s.val.heap.size s.val w') :
    Calls P f args s.val fun e w'' => e = .returned v ∧ ∃ s' : Later w, w'' = s'.val :=
  h.mono fun _ w'' ⟨he, hb⟩ => ⟨he, ⟨w'', s.below.trans (hb.mono s.below.size)⟩, rfl⟩
theorem wp_region_later {P : Program} {id : Nat} {Q : Exit → Act → World → Prop} {a : Act} {w : World} {l : List Oper} (hm : P.follows .mixedOrders = true) (hB : Region.lexB .any l.toArray = true)
    (h : wpQuiet P l.toArray (fun w' => ∃ s : Later w, w' = s.val) (fun a' => ∀ s : Later w, Q .normal a' s.val) l a) : (Code.region id l.toArray true).wp P Q a w :=
  wp_region_quiet (C := fun w' => ∃ s : Later w, w' = s.val) hm hB ⟨⟨w.drew, (Below.refl _ _).drew⟩, rfl⟩ (by
    have key : ∀ (l' : List Oper) (a : Act), wpQuiet P l.toArray (fun w' => ∃ s : Later w, w' = s.val) (fun a' => ∀ s : Later w, Q .normal a' s.val) l' a → wpQuiet P l.toArray (fun w' => ∃ s : Later w, w' = s.val) (fun a' => ∀ w', (∃ s : Later w, w' = s.val) → Q .normal a' w') l' a := by
      intro l'
      induction l' with
      | nil => exact fun a h w' ⟨s, hs⟩ => hs ▸ h s
      | cons o l' ih =>
        intro a h
        unfold wpQuiet at h ⊢
        split
        · rename_i hw
          rw [if_pos hw] at h
          exact Oper.quiet_mono ih h
        · rename_i hw
          rw [if_neg hw] at h
          exact ih _ h
    simpa using key _ _ h)
def bs (l : List UInt8) : List Value := l.map fun b => .int .u8 (b.toNat : Int)
@[simp] theorem bs_length (l : List UInt8) : (bs l).length = l.length := by simp [bs]
@[simp] theorem bs_append (a b : List UInt8) : bs (a ++ b) = bs a ++ bs b := by simp [bs]
theorem bs_get (l : List UInt8) (k : Nat) (h : k < l.length) : (bs l)[k]? = some (.int .u8 ((l[k]).toNat : Int)) := by simp [bs, h]
theorem bs_one (l : List UInt8) : ∀ u ∈ bs l, u.oneCell' = true := by
  intro u hu
  obtain ⟨_, _, rfl⟩ := List.mem_map.1 hu
  rfl
def str (l : List UInt8) : ByteArray := ⟨l.toArray⟩
@[simp] theorem str_size (l : List UInt8) : (str l).size = l.length := by simp [str, ByteArray.size]
theorem str_toList (l : List UInt8) : (str l).toList = l := by rw [ByteArray.toList_eq]; rfl
@[simp] theorem str_data (l : List UInt8) : (str l).data.toList = l := rfl
theorem run_str {P : Program} {w : World} {A : Option Addr} {n c : Nat} {l : List UInt8} (src dst e : TypeId) (hs : P.underlying src = some (.slice e)) (he : P.underlying e = some (.int .u8)) (hd : P.underlying dst = some .string)
    (h : Rd w 1 A n (bs l)) : (convert src dst (.slice A n c)).run P w = .ok (.string (str l)) w := by
  have hn := h.1
  rw [bs_length, Nat.mul_one] at hn
  rcases Nat.eq_zero_or_pos n with h0 | h0
  · have hl : l = [] := List.eq_nil_of_length_eq_zero (by omega)
    subst hl
    subst h0
    rw [run_convert_bytes_string w src dst e A 0 c hs he hd]
    cases A <;> simp [Conv.bytesToString, str, ByteArray.empty, ByteArray.emptyWithCapacity] <;> rfl
  · obtain ⟨b, off, rfl, hc⟩ := h.2 h0
    have h1 := run_convert_bytes_arg (P := P) w src e hs he b off n c (l.map fun b => (b.toNat : Int)) (by simp [hn]) (fun i hi => by
      rw [hc i _ (bs_get l i (by omega))]
      simp [List.getD, show i < l.length by omega]) dst hd
    rw [h1]
    simp only [strOfNums, str, List.map_map]
    congr 3
    have : ((fun n : Int => UInt8.ofNat n.toNat) ∘ fun b : UInt8 => (b.toNat : Int)) = id := by
      funext x; simp
    simp [this]
structure Val where
  k : Int
  i : Int
  s : ByteArray
def Val.v (x : Val) : Value := .agg #[.int .i64 x.k, .int .i64 x.i, .string x.s]
def Val.cs (x : Val) : List Value := [.int .i64 x.k, .int .i64 x.i, .string x.s]
def vcs (l : List Val) : List Value := l.flatMap Val.cs
theorem vcs_length (l : List Val) : (vcs l).length = l.length * 3 := by
  induction l with
  | nil => rfl
  | cons a l ih => simp [vcs, Val.cs] at ih ⊢; omega
theorem vcs_drop (l : List Val) (k : Nat) : (vcs l).drop (k * 3) = vcs (l.drop k) := by
  induction k generalizing l with
  | zero => simp
  | succ k ih =>
    cases l with
    | nil => simp [vcs]
    | cons a l =>
      have : vcs (a :: l) = Val.cs a ++ vcs l := by simp [vcs]
      rw [this, show (k + 1) * 3 = (Val.cs a).length + k * 3 by simp [Val.cs]; omega, List.drop_append]
      simp [ih]
theorem vcs_get (l : List Val) (k : Nat) (h : k < l.length) : (vcs l)[k * 3]? = some (.int .i64 (l[k]).k) ∧ (vcs l)[k * 3 + 1]? = some (.int .i64 (l[k]).i) ∧ (vcs l)[k * 3 + 2]? = some (.string (l[k]).s) := by
  have e : (vcs l).drop (k * 3) = Val.cs l[k] ++ vcs (l.drop (k + 1)) := by rw [vcs_drop, List.drop_eq_getElem_cons h]; rfl
  have g : ∀ j, (vcs l)[k * 3 + j]? = (Val.cs l[k] ++ vcs (l.drop (k + 1)))[j]? := fun j => by rw [← e, List.getElem?_drop]
  refine ⟨?_, ?_, ?_⟩
  · have := g 0; simpa [Val.cs] using this
  · have := g 1; simpa [Val.cs] using this
  · have := g 2; simpa [Val.cs] using this
theorem Rd.val {w : World} {A : Option Addr} {n : Nat} {l : List Val} (h : Rd w 3 A n (vcs l)) {k : Nat} (hk : k < l.length) :
    ∃ b off, A = some ⟨b, off, none⟩ ∧ w.cell? ⟨b, off + k * 3, none⟩ = some (.int .i64 (l[k]).k) ∧ w.cell? ⟨b, off + k * 3 + 1, none⟩ = some (.int .i64 (l[k]).i) ∧ w.cell? ⟨b, off + k * 3 + 2, none⟩ = some (.string (l[k]).s) := by
  have hn := h.1
  rw [vcs_length] at hn
  obtain ⟨b, off, e, hc⟩ := h.2 (by omega)
  obtain ⟨g0, g1, g2⟩ := vcs_get l k hk
  exact ⟨b, off, e, hc _ _ g0, by rw [Nat.add_assoc]; exact hc _ _ g1, by rw [Nat.add_assoc]; exact hc _ _ g2⟩
def veq (a b : Val) : Bool := a.k == b.k && (a.i == b.i && a.s.toList == b.s.toList)
theorem veq_iff (a b : Val) : veq a b = true ↔ a = b := by
  obtain ⟨k, i, s⟩ := a
  obtain ⟨k', i', s'⟩ := b
  simp only [veq, ByteArray.toList_eq, Bool.and_eq_true, beq_iff_eq, Val.mk.injEq]
  constructor
  · rintro ⟨h1, h2, h3⟩
    exact ⟨h1, h2, ByteArray.ext (Array.toList_inj.1 h3)⟩
  · rintro ⟨rfl, rfl, rfl⟩
    exact ⟨rfl, rfl, rfl⟩
instance : DecidableEq Val := fun a b => decidable_of_iff (veq a b = true) (veq_iff a b)
def Val.ok (x : Val) : Prop := -9223372036854775808 ≤ x.i ∧ x.i < 9223372036854775808
def okVals (l : List Val) : Prop := ∀ x ∈ l, x.ok
theorem ret_bool {a b : Bool} (h : a = b) : Ending.returned (.bool a) = .returned (.bool b) := by rw [h]
theorem list_of {α : Type} {p : Nat → α → Prop} : ∀ (n : Nat), (∀ i, i < n → ∃ x, p i x) → ∃ l : List α, l.length = n ∧ ∀ i (h : i < l.length), p i l[i]
  | 0, _ => ⟨[], rfl, fun i h => by simp at h⟩
  | n + 1, h => by
    obtain ⟨l, hl, hp⟩ := list_of n fun i hi => h i (by omega)
    obtain ⟨x, hx⟩ := h n (by omega)
    refine ⟨l ++ [x], by simp [hl], fun i hi => ?_⟩
    rcases Nat.lt_or_ge i l.length with h1 | h1
    · rw [List.getElem_append_left h1]; exact hp i h1
    · have : i = n := by simp at hi; omega
      subst this
      rw [List.getElem_append_right h1]
      simp [hl]
      exact hx
end Go.Proofs.YtmiceacjpadllaaGreatDoor
namespace Go.Proofs.YtmiceacjpadllaaGreatDoor
open Go.RowKit Go.Maps Go.Sort Go.Shelf Go.ChangeShapes Go.WideShapes Go.MapKept Go.ChangeMaps
def keysP_ren : Go.Shelf.Ren := ⟨fun | 7 => 83 | 10 => 121 | n => n, fun | 23 => 165 | 26 => 9 | 3 => 97 | 28 => 163 | 0 => 0 | 27 => 162 | 33 => 204 | 4 => 4 | n => n, fun | n => n⟩
theorem keysP : Go.Proofs.SlLaysZ.n7 Tryz.prog keysP_ren where
  mixed := by kernel_rfl
  f7 := ⟨"maps.Keys[map[string]armoire/api.Pair,string,armoire/api.Pair]", by decide, Tryz.func83.trans (congrArg some (by kernel_rfl))⟩
  f10 := ⟨"maps.Keys[map[string]armoire/api.Pair,string,armoire/api.Pair]$1", by decide, Tryz.func121.trans (congrArg some (by kernel_rfl))⟩
  t0 := Tryz.underlying0
  a0 := Tryz.isAgg0
  z0 := Tryz.sizeOf0
  v0 := Tryz.zeroValue0
  t4 := Tryz.underlying4
  a4 := Tryz.isAgg4
  z4 := Tryz.sizeOf4
  v4 := Tryz.zeroValue4
  t23 := Tryz.underlying165
  a23 := Tryz.isAgg165
  z23 := Tryz.sizeOf165
  v23 := Tryz.zeroValue165
  t26 := Tryz.underlying9
  a26 := Tryz.isAgg9
  z26 := Tryz.sizeOf9
  v26 := Tryz.zeroValue9
  t27 := Tryz.underlying162
  a27 := Tryz.isAgg162
  z27 := Tryz.sizeOf162
  v27 := Tryz.zeroValue162
  t28 := Tryz.underlying163
  a28 := Tryz.isAgg163
  z28 := Tryz.sizeOf163
  v28 := Tryz.zeroValue163
  t33 := Tryz.underlying204
  a33 := Tryz.isAgg204
  z33 := Tryz.sizeOf204
  v33 := Tryz.zeroValue204
def keysW_ren : Go.Shelf.Ren := ⟨fun | 7 => 90 | 10 => 122 | n => n, fun | 23 => 166 | 26 => 9 | 3 => 105 | 28 => 163 | 0 => 0 | 27 => 162 | 33 => 204 | 4 => 4 | n => n, fun | n => n⟩
theorem keysW : Go.Proofs.SlLaysZ.n7 Tryz.prog keysW_ren where
  mixed := by kernel_rfl
  f7 := ⟨"maps.Keys[map[string]armoire/api.Write,string,armoire/api.Write]", by decide, Tryz.func90.trans (congrArg some (by kernel_rfl))⟩
  f10 := ⟨"maps.Keys[map[string]armoire/api.Write,string,armoire/api.Write]$1", by decide, Tryz.func122.trans (congrArg some (by kernel_rfl))⟩
  t0 := Tryz.underlying0
  a0 := Tryz.isAgg0
  z0 := Tryz.sizeOf0
  v0 := Tryz.zeroValue0
  t4 := Tryz.underlying4
  a4 := Tryz.isAgg4
  z4 := Tryz.sizeOf4
  v4 := Tryz.zeroValue4
  t23 := Tryz.underlying166
  a23 := Tryz.isAgg166
  z23 := Tryz.sizeOf166
  v23 := Tryz.zeroValue166
  t26 := Tryz.underlying9
  a26 := Tryz.isAgg9
  z26 := Tryz.sizeOf9
  v26 := Tryz.zeroValue9
  t27 := Tryz.underlying162
  a27 := Tryz.isAgg162
  z27 := Tryz.sizeOf162
  v27 := Tryz.zeroValue162
  t28 := Tryz.underlying163
  a28 := Tryz.isAgg163
  z28 := Tryz.sizeOf163
  v28 := Tryz.zeroValue163
  t33 := Tryz.underlying204
  a33 := Tryz.isAgg204
  z33 := Tryz.sizeOf204
  v33 := Tryz.zeroValue204
def sortedS_ren : Go.Shelf.Ren := ⟨fun | 6 => 82 | 8 => 119 | 9 => 120 | 11 => 144 | 13 => 134 | 12 => 145 | 23 => 177 | 24 => 178 | 14 => 183 | 15 => 184 | 16 => 185 | 17 => 186 | 18 => 187 | 19 => 188 | 20 => 189 | 21 => 190 | 22 => 191 | 25 => 219 | 26 => 214 | 27 => 215 | 28 => 220 | 29 => 221 | 30 => 222 | 31 => 238 | n => n, fun | 26 => 9 | 28 => 163 | 24 => 160 | 0 => 0 | 3 => 3 | 37 => 190 | 48 => 205 | 50 => 28 | 4 => 4 | 40 => 251 | 39 => 250 | 45 => 149 | 5 => 5 | 9 => 9 | 51 => 292 | 55 => 295 | 57 => 313 | 58 => 314 | 33 => 204 | n => n, fun | n => n⟩
theorem sortedS : Go.Proofs.SlLaysZ.n6 Tryz.prog sortedS_ren where
  mixed := by kernel_rfl
  f6 := ⟨"slices.Sorted[string]", by decide, Tryz.func82.trans (congrArg some (by kernel_rfl))⟩
  f8 := ⟨"slices.Collect[string]", by decide, Tryz.func119.trans (congrArg some (by kernel_rfl))⟩
  f11 := ⟨"slices.AppendSeq[[]string,string]", by decide, Tryz.func144.trans (congrArg some (by kernel_rfl))⟩
  t0 := Tryz.underlying0
  a0 := Tryz.isAgg0
  z0 := Tryz.sizeOf0
  v0 := Tryz.zeroValue0
  t24 := Tryz.underlying160
  a24 := Tryz.isAgg160
  z24 := Tryz.sizeOf160
  v24 := Tryz.zeroValue160
  t26 := Tryz.underlying9
  a26 := Tryz.isAgg9
  z26 := Tryz.sizeOf9
  v26 := Tryz.zeroValue9
  t28 := Tryz.underlying163
  a28 := Tryz.isAgg163
  z28 := Tryz.sizeOf163
  v28 := Tryz.zeroValue163
  i26 := by kernel_rfl
def sortS_ren : Go.Shelf.Ren := ⟨fun | 6 => 120 | 8 => 134 | 9 => 145 | 19 => 177 | 20 => 178 | 21 => 183 | 22 => 184 | 23 => 185 | 24 => 186 | 25 => 187 | 26 => 188 | 27 => 189 | 28 => 190 | 29 => 191 | 36 => 219 | 31 => 214 | 32 => 215 | 37 => 220 | 38 => 221 | 39 => 222 | 41 => 238 | n => n, fun | 27 => 160 | 29 => 9 | 3 => 3 | 32 => 190 | 26 => 160 | 0 => 0 | 44 => 205 | 46 => 28 | 4 => 4 | 36 => 251 | 35 => 250 | 41 => 149 | 5 => 5 | 9 => 9 | 53 => 292 | 57 => 295 | 63 => 313 | 64 => 314 | n => n, fun | n => n⟩
theorem sortS : Go.Proofs.SlLaysM.n6 Tryz.prog sortS_ren where
  mixed := by kernel_rfl
  f6 := ⟨"slices.Sort[[]string,string]", by decide, Tryz.func120.trans (congrArg some (by kernel_rfl))⟩
  f8 := Tryz.func134.trans (congrArg some (by kernel_rfl))
  f9 := ⟨"slices.pdqsortOrdered[string]", by decide, Tryz.func145.trans (congrArg some (by kernel_rfl))⟩
  f19 := Tryz.func177.trans (congrArg some (by kernel_rfl))
  f20 := Tryz.func178.trans (congrArg some (by kernel_rfl))
  f21 := ⟨"slices.insertionSortOrdered[string]", by decide, Tryz.func183.trans (congrArg some (by kernel_rfl))⟩
  f22 := ⟨"slices.heapSortOrdered[string]", by decide, Tryz.func184.trans (congrArg some (by kernel_rfl))⟩
  f23 := ⟨"slices.breakPatternsOrdered[string]", by decide, Tryz.func185.trans (congrArg some (by kernel_rfl))⟩
  f24 := ⟨"slices.choosePivotOrdered[string]", by decide, Tryz.func186.trans (congrArg some (by kernel_rfl))⟩
  f25 := ⟨"slices.reverseRangeOrdered[string]", by decide, Tryz.func187.trans (congrArg some (by kernel_rfl))⟩
  f26 := ⟨"slices.partialInsertionSortOrdered[string]", by decide, Tryz.func188.trans (congrArg some (by kernel_rfl))⟩
  f27 := ⟨"cmp.Less[string]", by decide, Tryz.func189.trans (congrArg some (by kernel_rfl))⟩
  f28 := ⟨"slices.partitionEqualOrdered[string]", by decide, Tryz.func190.trans (congrArg some (by kernel_rfl))⟩
  f29 := ⟨"slices.partitionOrdered[string]", by decide, Tryz.func191.trans (congrArg some (by kernel_rfl))⟩
  f31 := Tryz.func214.trans (congrArg some (by kernel_rfl))
  f32 := Tryz.func215.trans (congrArg some (by kernel_rfl))
  f36 := ⟨"slices.siftDownOrdered[string]", by decide, Tryz.func219.trans (congrArg some (by kernel_rfl))⟩
  f37 := ⟨"slices.medianAdjacentOrdered[string]", by decide, Tryz.func220.trans (congrArg some (by kernel_rfl))⟩
  f38 := ⟨"slices.medianOrdered[string]", by decide, Tryz.func221.trans (congrArg some (by kernel_rfl))⟩
  f39 := ⟨"cmp.isNaN[string]", by decide, Tryz.func222.trans (congrArg some (by kernel_rfl))⟩
  f41 := ⟨"slices.order2Ordered[string]", by decide, Tryz.func238.trans (congrArg some (by kernel_rfl))⟩
  t0 := Tryz.underlying0
  a0 := Tryz.isAgg0
  z0 := Tryz.sizeOf0
  v0 := Tryz.zeroValue0
  t3 := Tryz.underlying3
  a3 := Tryz.isAgg3
  z3 := Tryz.sizeOf3
  v3 := Tryz.zeroValue3
  t4 := Tryz.underlying4
  a4 := Tryz.isAgg4
  z4 := Tryz.sizeOf4
  v4 := Tryz.zeroValue4
  t5 := Tryz.underlying5
  a5 := Tryz.isAgg5
  z5 := Tryz.sizeOf5
  v5 := Tryz.zeroValue5
  t9 := Tryz.underlying9
  a9 := Tryz.isAgg9
  z9 := Tryz.sizeOf9
  v9 := Tryz.zeroValue9
  t26 := Tryz.underlying160
  a26 := Tryz.isAgg160
  z26 := Tryz.sizeOf160
  v26 := Tryz.zeroValue160
  t27 := Tryz.underlying160
  a27 := Tryz.isAgg160
  z27 := Tryz.sizeOf160
  v27 := Tryz.zeroValue160
  t29 := Tryz.underlying9
  a29 := Tryz.isAgg9
  z29 := Tryz.sizeOf9
  v29 := Tryz.zeroValue9
  t32 := Tryz.underlying190
  a32 := Tryz.isAgg190
  z32 := Tryz.sizeOf190
  v32 := Tryz.zeroValue190
  t35 := Tryz.underlying250
  a35 := Tryz.isAgg250
  z35 := Tryz.sizeOf250
  v35 := Tryz.zeroValue250
  t36 := Tryz.underlying251
  a36 := Tryz.isAgg251
  z36 := Tryz.sizeOf251
  v36 := Tryz.zeroValue251
  t41 := Tryz.underlying149
  a41 := Tryz.isAgg149
  z41 := Tryz.sizeOf149
  v41 := Tryz.zeroValue149
  t44 := Tryz.underlying205
  a44 := Tryz.isAgg205
  z44 := Tryz.sizeOf205
  v44 := Tryz.zeroValue205
  t46 := Tryz.underlying28
  a46 := Tryz.isAgg28
  z46 := Tryz.sizeOf28
  v46 := Tryz.zeroValue28
  t53 := Tryz.underlying292
  a53 := Tryz.isAgg292
  z53 := Tryz.sizeOf292
  v53 := Tryz.zeroValue292
  t57 := Tryz.underlying295
  a57 := Tryz.isAgg295
  z57 := Tryz.sizeOf295
  v57 := Tryz.zeroValue295
  t63 := Tryz.underlying313
  a63 := Tryz.isAgg313
  z63 := Tryz.sizeOf313
  v63 := Tryz.zeroValue313
  t64 := Tryz.underlying314
  a64 := Tryz.isAgg314
  z64 := Tryz.sizeOf314
  v64 := Tryz.zeroValue314
theorem sortsS (m : Nat) : AnyZ.SortsIn Tryz.prog sortedS_ren Fence.wide m :=
  ⟨fun blk off cap ss W hH hblk hsz => callsIn_wide.2 (AnyM.slices_Sort_string sortS blk off cap ss W hH hblk hsz),
   fun p cap W => callsIn_wide.2 (AnyM.slices_Sort_string_none sortS p cap W)⟩
theorem size_nilMap {H : Type} : Maps.size (.map [] : DataW H) = 0 := rfl
theorem maps_KeysP (mb : Option Nat) (W : World) : Calls Tryz.prog 83 #[.map mb] W fun e w' => e = .returned (.func (.func 121) #[] #[.pointer (some ⟨W.heap.size, 0, none⟩)]) ∧ w' = W.alloc (.cells #[.map mb] 165) :=
  callsIn_wide.1 (AnyZ.keys_in keysP Fence.wide 5 trivial rfl mb W)
set_option maxHeartbeats 1000000 in
theorem sorted_keysP {H : Type} (b nn : Nat) (D0 : DataW H) (R : Value → Option (DataW H × List MemPlace)) (w : World) (hown : w.ownsMap Tryz.prog 9 R b nn D0) (hmax : Maps.size D0 ≤ maxLen) (hbytes : Maps.size D0 * 16 ≤ 140737488355328) :
    Calls Tryz.prog 82 #[.func (.func 121) #[] #[.pointer (some ⟨w.heap.size, 0, none⟩)]] (w.alloc (.cells #[.map (some b)] 165)) fun e w' => ∃ (v : Value) (ss : List (List UInt8)), e = .returned v ∧ ss.Perm (strKeys D0) ∧
      w'.ownsRow (w.alloc (.cells #[.map (some b)] 165)).heap.size 9 1 v ss.length ((ss.mergeSort (fun x y => decide (x ≤ y))).map encStr) ∧ (v = .slice none 0 0 ↔ ss = []) ∧ Below (w.alloc (.cells #[.map (some b)] 165)).heap.size (w.alloc (.cells #[.map (some b)] 165)) w' := by
  have hbl := hown.lt
  have hseq : SeqGives Fence.wide 2 Tryz.prog 121 #[.pointer (some ⟨w.heap.size, 0, none⟩)] encStr (fun ss => ss.Perm (strKeys D0)) (Maps.size D0) (w.alloc (.cells #[.map (some b)] 165)) :=
    AnyZ.keys_gives (ρ := keysP_ren) { keysP with } Fence.wide _ trivial rfl (by omega) w.heap.size b nn D0 _ (by simp) (by simp) (by
      obtain ⟨es, clock, hb, Ft, hs, hD⟩ := hown
      exact ⟨es, clock, (Below.heap_alloc _ _ b hbl).trans hb, Ft, hs, hD⟩)
  exact callsIn_wide.1 (AnyZ.sorted_in sortedS Fence.wide 5 trivial trivial trivial trivial rfl (by omega) (sortsS _) (enters_of Tryz.func120 (by kernel_rfl) rfl) 121 #[.pointer (some ⟨w.heap.size, 0, none⟩)] trivial (enters_of Tryz.func121 (by kernel_rfl) rfl) _ _ hmax hbytes _ hseq)
theorem sorted_noneP (b clock : Nat) (w : World) (hb : w.heap[b]? = some (.map #[] clock)) :
    Calls Tryz.prog 82 #[.func (.func 121) #[] #[.pointer (some ⟨w.heap.size, 0, none⟩)]] (w.alloc (.cells #[.map (some b)] 165)) fun e w' => e = .returned (.slice none 0 0) ∧ Below w.heap.size w w' := by
  refine (sorted_keysP (H := Unit) b 0 (.map []) (fun _ => none) w ⟨#[], clock, hb, ⟨by simp, stamped_empty clock, by simp⟩, Nat.le_refl _, rfl⟩ (by rw [size_nilMap]; exact Nat.zero_le _) (by rw [size_nilMap]; decide)).mono ?_
  rintro e w' ⟨v, ss, rfl, hp, _, hn, hB⟩
  have hss : ss = [] := List.Perm.eq_nil (show ss.Perm [] from hp)
  refine ⟨by rw [hn.2 hss], ((Below.refl _ _).alloc (Nat.le_refl _) _).trans (hB.mono (by simp))⟩
theorem maps_KeysW (mb : Option Nat) (W : World) : Calls Tryz.prog 90 #[.map mb] W fun e w' => e = .returned (.func (.func 122) #[] #[.pointer (some ⟨W.heap.size, 0, none⟩)]) ∧ w' = W.alloc (.cells #[.map mb] 166) :=
  callsIn_wide.1 (AnyZ.keys_in keysW Fence.wide 5 trivial rfl mb W)
set_option maxHeartbeats 1000000 in
theorem sorted_keysW {H : Type} (b nn : Nat) (D0 : DataW H) (R : Value → Option (DataW H × List MemPlace)) (w : World) (hown : w.ownsMap Tryz.prog 9 R b nn D0) (hmax : Maps.size D0 ≤ maxLen) (hbytes : Maps.size D0 * 16 ≤ 140737488355328) :
    Calls Tryz.prog 82 #[.func (.func 122) #[] #[.pointer (some ⟨w.heap.size, 0, none⟩)]] (w.alloc (.cells #[.map (some b)] 166)) fun e w' => ∃ (v : Value) (ss : List (List UInt8)), e = .returned v ∧ ss.Perm (strKeys D0) ∧
      w'.ownsRow (w.alloc (.cells #[.map (some b)] 166)).heap.size 9 1 v ss.length ((ss.mergeSort (fun x y => decide (x ≤ y))).map encStr) ∧ (v = .slice none 0 0 ↔ ss = []) ∧ Below (w.alloc (.cells #[.map (some b)] 166)).heap.size (w.alloc (.cells #[.map (some b)] 166)) w' := by
  have hbl := hown.lt
  have hseq : SeqGives Fence.wide 2 Tryz.prog 122 #[.pointer (some ⟨w.heap.size, 0, none⟩)] encStr (fun ss => ss.Perm (strKeys D0)) (Maps.size D0) (w.alloc (.cells #[.map (some b)] 166)) :=
    AnyZ.keys_gives (ρ := keysW_ren) { keysW with } Fence.wide _ trivial rfl (by omega) w.heap.size b nn D0 _ (by simp) (by simp) (by
      obtain ⟨es, clock, hb, Ft, hs, hD⟩ := hown
      exact ⟨es, clock, (Below.heap_alloc _ _ b hbl).trans hb, Ft, hs, hD⟩)
  exact callsIn_wide.1 (AnyZ.sorted_in sortedS Fence.wide 5 trivial trivial trivial trivial rfl (by omega) (sortsS _) (enters_of Tryz.func120 (by kernel_rfl) rfl) 122 #[.pointer (some ⟨w.heap.size, 0, none⟩)] trivial (enters_of Tryz.func122 (by kernel_rfl) rfl) _ _ hmax hbytes _ hseq)
theorem sorted_noneW (b clock : Nat) (w : World) (hb : w.heap[b]? = some (.map #[] clock)) :
    Calls Tryz.prog 82 #[.func (.func 122) #[] #[.pointer (some ⟨w.heap.size, 0, none⟩)]] (w.alloc (.cells #[.map (some b)] 166)) fun e w' => e = .returned (.slice none 0 0) ∧ Below w.heap.size w w' := by
  refine (sorted_keysW (H := Unit) b 0 (.map []) (fun _ => none) w ⟨#[], clock, hb, ⟨by simp, stamped_empty clock, by simp⟩, Nat.le_refl _, rfl⟩ (by rw [size_nilMap]; exact Nat.zero_le _) (by rw [size_nilMap]; decide)).mono ?_
  rintro e w' ⟨v, ss, rfl, hp, _, hn, hB⟩
  have hss : ss = [] := List.Perm.eq_nil (show ss.Perm [] from hp)
  refine ⟨by rw [hn.2 hss], ((Below.refl _ _).alloc (Nat.le_refl _) _).trans (hB.mono (by simp))⟩
end Go.Proofs.YtmiceacjpadllaaGreatDoor
namespace Go.Proofs.YtmiceacjpadllaaGreatDoor
theorem toList_inj {s t : ByteArray} (h : s.toList = t.toList) : s = t := by rw [ByteArray.toList_eq, ByteArray.toList_eq] at h; exact ByteArray.ext (Array.toList_inj.1 h)
end Go.Proofs.YtmiceacjpadllaaGreatDoor
namespace Go.Proofs.YtmiceacjpadllaaGreatDoor
open Go.RowKit
set_option maxHeartbeats 400000 in
theorem bytes_any (A1 A2 : Option Addr) (n1 c1 n2 c2 : Nat) (l1 l2 : List UInt8) (w : World) (h1 : Rd w 1 A1 n1 (bs l1)) (h2 : Rd w 1 A2 n2 (bs l2)) :
    Calls Tryz.prog 28 #[.slice A1 n1 c1, .slice A2 n2 c2] w fun e w' => e = .returned (.bool (l1 == l2)) ∧ w = w' := by
  have e1 := run_str (c := c1) (P := Tryz.prog) 36 9 5 Tryz.underlying36 Tryz.underlying5 Tryz.underlying9 h1
  have e2 := run_str (c := c2) (P := Tryz.prog) 36 9 5 Tryz.underlying36 Tryz.underlying5 Tryz.underlying9 h2
  go_enter Tryz.func28, Tryz.ntmps28
  go_wp2
  go_ret
  exact ⟨ret_bool (by rw [str_toList, str_toList]), rfl⟩
end Go.Proofs.YtmiceacjpadllaaGreatDoor
namespace Go.Proofs.YtmiceacjpadllaaGreatDoor
open Go.RowKit
theorem Tryz.infoU8 : (Tryz.prog.info? 5).map (fun i => (i.zero, i.size, i.bytes)) = some (some (.int .u8 0), 1, 1) := by kernel_rfl
def OwnB (base : Nat) (w : World) (A : Option Addr) (n c : Nat) (l : List UInt8) : Prop := w.ownsRow base 5 1 (.slice A n c) n (bs l)
theorem OwnB.nil_ (base : Nat) (w : World) : OwnB base w none 0 0 [] := World.ownsRow_nil _ _ _ _
theorem OwnB.alloc {base : Nat} {w : World} {A : Option Addr} {n c : Nat} {l : List UInt8} (h : OwnB base w A n c l) (o : Obj) : OwnB base (w.alloc o) A n c l := World.ownsRow.alloc h o
theorem OwnB.mono {base B : Nat} {w : World} {A : Option Addr} {n c : Nat} {l : List UInt8} (h : OwnB B w A n c l) (hb : base ≤ B) : OwnB base w A n c l := by
  refine ⟨h.1, ?_⟩
  rcases h.2 with h2 | ⟨g, cap, cur, hv, hg, r⟩
  · exact .inl h2
  · exact .inr ⟨g, cap, cur, hv, Nat.le_trans hb hg, r⟩
theorem OwnB.len {base : Nat} {w : World} {A : Option Addr} {n c : Nat} {l : List UInt8} (h : OwnB base w A n c l) : l.length = n := by
  have := h.1; simpa using this
theorem OwnB.rd {base : Nat} {w : World} {A : Option Addr} {n c : Nat} {l : List UInt8} (h : OwnB base w A n c l) : Rd w 1 A n (bs l) := Rd.of_own h
theorem wp_append_bytes {ops : Array Oper} {rest : List Oper} {o : Oper} {a : Act} {Q : Exit → Act → World → Prop} (hgd : o.guard = none) (s x : Operand)
    (ho : o.op = .call { callee := .builtin .append, args := #[s, x], argTypes := #[36, 36] })
    (base : Nat) (A0 : Option Addr) (n c0 : Nat) (l : List UInt8) (w : World) (hs : a.eval s = .slice A0 n c0) (hown : OwnB base w A0 n c0 l)
    (A : Option Addr) (m c : Nat) (l2 : List UInt8) (hx : a.eval x = .slice A m c) (hr : Rd w 1 A m (bs l2)) (hlen : n + m ≤ 140737488355328) (hbase : base ≤ w.heap.size)
    (h : ∀ A' c' w', OwnB base w' A' (n + m) c' (l ++ l2) → Below base w w' → wpList Tryz.prog ops Q rest (a.put o.dst (.slice A' (n + m) c')) w') : wpList Tryz.prog ops Q (o :: rest) a w := by
  obtain ⟨i0, hi0, hz0, hz1, hz2⟩ := info_parts Tryz.infoU8
  refine wpList_append_rd w hgd s x _ ho base 5 i0 _ 1 1 Tryz.underlying36 hi0 hz0 hz1 hz2 rfl (by omega) A0 n c0 (bs l) hs hown A m c (bs l2) hx hr (bs_one l2) (by unfold maxLen; omega) (by omega) hbase fun A' c' w' h2 h3 => h A' c' w' ?_ h3
  unfold OwnB
  rw [bs_append]
  exact h2
def OwnV (base : Nat) (w : World) (A : Option Addr) (n c : Nat) (l : List Val) : Prop := w.ownsRow base 127 3 (.slice A n c) n (vcs l)
theorem OwnV.nil_ (base : Nat) (w : World) : OwnV base w none 0 0 [] := World.ownsRow_nil _ _ _ _
theorem OwnV.alloc {base : Nat} {w : World} {A : Option Addr} {n c : Nat} {l : List Val} (h : OwnV base w A n c l) (o : Obj) : OwnV base (w.alloc o) A n c l := World.ownsRow.alloc h o
theorem OwnV.len {base : Nat} {w : World} {A : Option Addr} {n c : Nat} {l : List Val} (h : OwnV base w A n c l) : l.length = n := by
  have := h.1; rw [vcs_length] at this; omega
theorem OwnV.rd {base : Nat} {w : World} {A : Option Addr} {n c : Nat} {l : List Val} (h : OwnV base w A n c l) : Rd w 3 A n (vcs l) := Rd.of_own h
theorem OwnV.cap {base : Nat} {w : World} {A : Option Addr} {n c : Nat} {l : List Val} (h : OwnV base w A n c l) : n ≤ c := by
  obtain ⟨A', c', hv, hc, _⟩ := own_slice w h
  simp only [Value.slice.injEq] at hv
  obtain ⟨_, _, rfl⟩ := hv
  exact hc
theorem OwnB.cap {base : Nat} {w : World} {A : Option Addr} {n c : Nat} {l : List UInt8} (h : OwnB base w A n c l) : n ≤ c := by
  obtain ⟨A', c', hv, hc, _⟩ := own_slice w h
  simp only [Value.slice.injEq] at hv
  obtain ⟨_, _, rfl⟩ := hv
  exact hc
end Go.Proofs.YtmiceacjpadllaaGreatDoor
namespace Go.Proofs.YtmiceacjpadllaaGreatDoor
open Go.RowKit
theorem own_empty (w : World) (base : Nat) (hb : base ≤ w.heap.size) : OwnB base (w.alloc (.cells #[] 5)) (some ⟨w.heap.size, 0, none⟩) 0 0 [] :=
  World.ownsRow_lit (base := base) (e := 5) (size := 1) w #[] 0 hb (by decide) rfl
set_option maxRecDepth 100000 in
set_option maxHeartbeats 400000 in
theorem clone_any (A : Option Addr) (n c : Nat) (l : List UInt8) (w : World) (hr : Rd w 1 A n (bs l)) (hm : n ≤ 140737488355328) :
    Calls Tryz.prog 20 #[.slice A n c] w fun e w' => (∃ A' c', e = .returned (.slice A' n c') ∧ OwnB w.heap.size w' A' n c' l) ∧ Below w.heap.size w w' := by
  have hE := fun (x : Option Addr) (w : World) => Lib.run_eql_slice_nil (P := Tryz.prog) w 36 5 x n c 0 0 Tryz.underlying36
  rcases A with _ | ad
  · have hn : n = 0 := by
      rcases Nat.eq_zero_or_pos n with h0 | h0
      · exact h0
      · obtain ⟨_, _, h, _⟩ := hr.2 h0
        cases h
    subst hn
    have hl : l = [] := List.eq_nil_of_length_eq_zero (by have := hr.1; simpa using this)
    subst hl
    go_enter Tryz.func20, Tryz.ntmps20
    go_wp2
    go_ret
    exact ⟨⟨none, 0, rfl, OwnB.nil_ _ _⟩, Below.refl _ _⟩
  · go_enter Tryz.func20, Tryz.ntmps20
    go_wp2_with (at_builtin; refine wp_append_bytes rfl _ _ rfl w.heap.size _ 0 0 [] _ rfl (own_empty w w.heap.size (Nat.le_refl _)) (some ad) n c l rfl (hr.below ((Below.refl _ _).alloc (Nat.le_refl _) _)) (by omega) (by simp) ?_; intro A' c' w1 hown1 hb1)
    go_ret
    rw [Nat.zero_add, List.nil_append] at hown1
    exact ⟨⟨A', c', by simp, hown1⟩, ((Below.refl _ _).alloc (Nat.le_refl _) _).trans hb1⟩
theorem OwnB.set_ {base : Nat} {w : World} {A : Option Addr} {n c k : Nat} {l : List UInt8} (h : OwnB base w A n c l) (hk : k < n) (b : UInt8) :
    ∃ g, A = some ⟨g, 0, none⟩ ∧ base ≤ g ∧ w.cell? ⟨g, k, none⟩ = some (.int .u8 ((l.getD k 0).toNat : Int)) ∧ w.frozen? ⟨g, k, none⟩ = false ∧
      OwnB base (w.setCell ⟨g, k, none⟩ (.int .u8 (b.toNat : Int))) A n c (l.set k b) ∧ Below base w (w.setCell ⟨g, k, none⟩ (.int .u8 (b.toNat : Int))) := by
  have hl := h.len
  rcases h.2 with ⟨_, h0⟩ | ⟨g, cap, cur, hv, hg, hh, r⟩
  · omega
  · simp only [Value.slice.injEq] at hv
    obtain ⟨rfl, _, rfl⟩ := hv
    have hw : w.ownsRow base 5 1 (.slice (some ⟨g, 0, none⟩) n c) n (bs l) := h
    refine ⟨g, rfl, hg, ?_, hw.frozenAt k, ?_, (Below.refl _ _).setCell hg _⟩
    · rw [hw.cellAt k (by omega), bs_get l k (by omega)]
      simp [List.getD, show k < l.length by omega]
    · have := (hw.stored k (.int .u8 (b.toNat : Int))).1
      unfold OwnB
      have e : bs (l.set k b) = (bs l).set k (.int .u8 (b.toNat : Int)) := by simp [bs, List.map_set]
      rw [e]
      exact this
end Go.Proofs.YtmiceacjpadllaaGreatDoor
namespace Go.Proofs.YtmiceacjpadllaaGreatDoor
open Go.RowKit
structure Kp (ok : Nat → Prop) (w w' : World) : Prop where
  os : w'.os = w.os
  tape : w'.tape = w.tape
  output : w'.output = w.output
  size : w.heap.size ≤ w'.heap.size
  block : ∀ k, k < w.heap.size → ok k → w'.heap[k]? = w.heap[k]?
section
variable {ok ok' : Nat → Prop} {w w' w'' : World} {B : Nat}
theorem Kp.refl (ok : Nat → Prop) (w : World) : Kp ok w w := ⟨rfl, rfl, rfl, Nat.le_refl _, fun _ _ _ => rfl⟩
theorem Kp.trans (h : Kp ok w w') (k : Kp ok w' w'') : Kp ok w w'' :=
  ⟨k.os.trans h.os, k.tape.trans h.tape, k.output.trans h.output, Nat.le_trans h.size k.size, fun i hi ho => (k.block i (Nat.lt_of_lt_of_le hi h.size) ho).trans (h.block i hi ho)⟩
theorem Kp.mono (h : Kp ok w w') (hm : ∀ b, ok' b → ok b) : Kp ok' w w' := ⟨h.os, h.tape, h.output, h.size, fun i hi ho => h.block i hi (hm i ho)⟩
theorem Kp.of_below (h : Below w.heap.size w w') : Kp ok w w' := ⟨h.os, h.tape, h.output, h.size, fun i hi _ => h.block i hi⟩
theorem Kp.of_grown {row : Option Nat} (h : w.grownBy w' row) (hr : ∀ b, ok b → some b ≠ row) : Kp ok w w' := ⟨h.os, h.tape, h.output, h.size, fun i hi ho => h.block i hi (hr i ho)⟩
theorem Kp.below (h : Kp ok w w') (hB : B ≤ w.heap.size) (ho : ∀ b, b < B → ok b) : Below B w w' := ⟨h.os, h.tape, h.output, h.size, fun i hi => h.block i (by omega) (ho i hi)⟩
theorem Kp.drew (h : Kp ok w w') : Kp ok w w'.drew := ⟨h.os, h.tape, h.output, h.size, h.block⟩
theorem Kp.alloc (h : Kp ok w w') (o : Obj) : Kp ok w (w'.alloc o) := h.trans (.of_below ((Below.refl _ _).alloc (Nat.le_refl _) _))
theorem Kp.setCell (h : Kp ok w w') {p : Addr} (hp : p.block < w.heap.size → ¬ ok p.block) (u : Value) : Kp ok w (w'.setCell p u) :=
  ⟨h.os, h.tape, h.output, by simpa using h.size, fun i hi ho => (Below.heap_setCell _ _ _ _ (fun e => by subst e; exact hp hi ho)).trans (h.block i hi ho)⟩
theorem Kp.cell (h : Kp ok w w') {p : Addr} {u : Value} (hp : ok p.block) (hc : w.cell? p = some u) : w'.cell? p = some u :=
  (World.cell?_of_block (w := w) (h.block p.block (World.block_lt_of_cell? w p hc) hp)).trans hc
end
structure Rel (α : Type) where
  sz : Nat
  wt : Nat
  rel : (Nat → Prop) → World → List Value → α → Prop
  len : ∀ {ok w cs d}, rel ok w cs d → cs.length = sz
  one : ∀ {ok w cs d}, rel ok w cs d → ∀ u ∈ cs, u.oneCell' = true
  kp : ∀ {ok w w' cs d}, Kp ok w w' → rel ok w cs d → rel ok w' cs d
  mono : ∀ {ok ok' : Nat → Prop} {w cs d}, (∀ b, ok b → b < w.heap.size → ok' b) → rel ok w cs d → rel ok' w cs d
def Chunks {α : Type} (E : Rel α) (ok : Nat → Prop) (w : World) : List (List Value) → List α → Prop
  | [], [] => True
  | cs :: css, d :: l => E.rel ok w cs d ∧ Chunks E ok w css l
  | _, _ => False
section
variable {α : Type} {E : Rel α} {ok ok' : Nat → Prop} {w w' : World}
theorem Chunks.length : ∀ {css : List (List Value)} {l : List α}, Chunks E ok w css l → css.length = l.length
  | [], [], _ => rfl
  | _ :: _, _ :: _, h => congrArg (· + 1) (Chunks.length h.2)
  | [], _ :: _, h => h.elim
  | _ :: _, [], h => h.elim
theorem Chunks.kp (hk : Kp ok w w') : ∀ {css : List (List Value)} {l : List α}, Chunks E ok w css l → Chunks E ok w' css l
  | [], [], _ => trivial
  | _ :: _, _ :: _, h => ⟨E.kp hk h.1, Chunks.kp hk h.2⟩
  | [], _ :: _, h => h.elim
  | _ :: _, [], h => h.elim
theorem Chunks.mono (hm : ∀ b, ok b → b < w.heap.size → ok' b) : ∀ {css : List (List Value)} {l : List α}, Chunks E ok w css l → Chunks E ok' w css l
  | [], [], _ => trivial
  | _ :: _, _ :: _, h => ⟨E.mono hm h.1, Chunks.mono hm h.2⟩
  | [], _ :: _, h => h.elim
  | _ :: _, [], h => h.elim
theorem Chunks.append : ∀ {css css' : List (List Value)} {l l' : List α}, Chunks E ok w css l → Chunks E ok w css' l' → Chunks E ok w (css ++ css') (l ++ l')
  | [], _, [], _, _, k => k
  | _ :: _, _, _ :: _, _, h, k => ⟨h.1, Chunks.append h.2 k⟩
  | [], _, _ :: _, _, h, _ => h.elim
  | _ :: _, _, [], _, h, _ => h.elim
theorem Chunks.flat : ∀ {css : List (List Value)} {l : List α}, Chunks E ok w css l → css.flatten.length = l.length * E.sz
  | [], [], _ => by simp
  | cs :: css, _ :: l, h => by
    have h1 := Chunks.flat h.2
    have h2 := E.len h.1
    rw [List.flatten_cons, List.length_append, h1, h2, List.length_cons, Nat.add_mul, Nat.one_mul, Nat.add_comm]
  | [], _ :: _, h => h.elim
  | _ :: _, [], h => h.elim
theorem Chunks.one : ∀ {css : List (List Value)} {l : List α}, Chunks E ok w css l → ∀ u ∈ css.flatten, u.oneCell' = true
  | [], [], _ => by simp
  | cs :: css, _ :: l, h => by
    intro u hu
    rw [List.flatten_cons, List.mem_append] at hu
    rcases hu with hu | hu
    · exact E.one h.1 u hu
    · exact Chunks.one h.2 u hu
  | [], _ :: _, h => h.elim
  | _ :: _, [], h => h.elim
theorem Chunks.get : ∀ {css : List (List Value)} {l : List α}, Chunks E ok w css l → ∀ (i : Nat) (hi : i < l.length), ∃ cs, E.rel ok w cs l[i] ∧ ∀ j u, cs[j]? = some u → css.flatten[i * E.sz + j]? = some u
  | [], [], _, i, hi => absurd hi (by simp)
  | cs :: css, d :: l, h, 0, _ => ⟨cs, h.1, fun j u hu => by
      rw [Nat.zero_mul, Nat.zero_add, List.flatten_cons, List.getElem?_append_left (List.getElem?_eq_some_iff.1 hu).1]; exact hu⟩
  | cs :: css, d :: l, h, i + 1, hi => by
    obtain ⟨cs', h1, h2⟩ := Chunks.get h.2 i (by simpa using hi)
    refine ⟨cs', by simpa using h1, fun j u hu => ?_⟩
    rw [List.flatten_cons, List.getElem?_append_right (by rw [E.len h.1, Nat.add_mul, Nat.one_mul]; omega), E.len h.1, ← h2 j u hu]
    congr 1
    rw [Nat.add_mul, Nat.one_mul]; omega
  | [], _ :: _, h, _, _ => h.elim
  | _ :: _, [], h, _, _ => h.elim
theorem Chunks.take : ∀ {css : List (List Value)} {l : List α}, Chunks E ok w css l → ∀ k, Chunks E ok w (css.take k) (l.take k) ∧ css.flatten.take (k * E.sz) = (css.take k).flatten
  | [], [], _, k => by simp [Chunks]
  | cs :: css, _ :: l, h, 0 => by simp [Chunks]
  | cs :: css, _ :: l, h, k + 1 => by
    obtain ⟨h1, h2⟩ := Chunks.take h.2 k
    refine ⟨⟨h.1, h1⟩, ?_⟩
    rw [List.flatten_cons, List.take_succ_cons, List.flatten_cons, ← h2, List.take_append, E.len h.1, List.take_of_length_le (by rw [E.len h.1, Nat.add_mul]; omega)]
    congr 2
    rw [Nat.add_mul, Nat.one_mul]; omega
  | [], _ :: _, h, _ => h.elim
  | _ :: _, [], h, _ => h.elim
theorem Chunks.drop : ∀ {css : List (List Value)} {l : List α}, Chunks E ok w css l → ∀ k, Chunks E ok w (css.drop k) (l.drop k) ∧ css.flatten.drop (k * E.sz) = (css.drop k).flatten
  | [], [], _, k => by simp [Chunks]
  | cs :: css, _ :: l, h, 0 => by simpa using h
  | cs :: css, _ :: l, h, k + 1 => by
    obtain ⟨h1, h2⟩ := Chunks.drop h.2 k
    refine ⟨h1, ?_⟩
    rw [List.flatten_cons, List.drop_succ_cons, ← h2, List.drop_append, E.len h.1, List.drop_of_length_le (by rw [E.len h.1, Nat.add_mul]; omega), List.nil_append]
    congr 1
    rw [Nat.add_mul, Nat.one_mul]; omega
  | [], _ :: _, h, _ => h.elim
  | _ :: _, [], h, _ => h.elim
theorem Chunks.single {cs : List Value} {d : α} (h : E.rel ok w cs d) : Chunks E ok w [cs] [d] := ⟨h, trivial⟩
def RSl (E : Rel α) (ok : Nat → Prop) (w : World) (v : Value) (l : List α) : Prop :=
  ∃ A n c css, v = .slice A n c ∧ n ≤ c ∧ l.length = n ∧ n * E.wt ≤ 140737488351232 ∧ Rd w E.sz A n css.flatten ∧ Chunks E ok w css l ∧ (0 < n → ∀ a, A = some a → ok a.block)
theorem RSl.nil_ (E : Rel α) (ok : Nat → Prop) (w : World) : RSl E ok w (.slice none 0 0) [] := ⟨none, 0, 0, [], rfl, Nat.le_refl _, rfl, by simp, Rd.nil_ _, trivial, fun h => absurd h (by omega)⟩
theorem RSl.one {v : Value} {l : List α} (h : RSl E ok w v l) : v.oneCell' = true := by
  obtain ⟨A, n, c, css, rfl, _⟩ := h; rfl
theorem RSl.kp {v : Value} {l : List α} (hk : Kp ok w w') (h : RSl E ok w v l) : RSl E ok w' v l := by
  obtain ⟨A, n, c, css, rfl, hc, hn, hb, hr, hch, ho⟩ := h
  refine ⟨A, n, c, css, rfl, hc, hn, hb, ⟨hr.1, fun h0 => ?_⟩, hch.kp hk, ho⟩
  obtain ⟨b, off, rfl, hcell⟩ := hr.2 h0
  exact ⟨b, off, rfl, fun j u hu => hk.cell (p := ⟨b, off + j, none⟩) (show ok b from ho h0 ⟨b, off, none⟩ rfl) (hcell j u hu)⟩
theorem RSl.mono {v : Value} {l : List α} (hsz : 0 < E.sz) (hm : ∀ b, ok b → b < w.heap.size → ok' b) (h : RSl E ok w v l) : RSl E ok' w v l := by
  obtain ⟨A, n, c, css, rfl, hc, hn, hb, hr, hch, ho⟩ := h
  refine ⟨A, n, c, css, rfl, hc, hn, hb, hr, hch.mono hm, fun h0 a ha => ?_⟩
  obtain ⟨b, off, rfl, hcell⟩ := hr.2 h0
  obtain rfl : a = ⟨b, off, none⟩ := (Option.some.inj ha).symm
  have hl : 0 < css.flatten.length := by rw [hch.flat, hn]; exact Nat.mul_pos h0 hsz
  have := hcell 0 _ (List.getElem?_eq_getElem hl)
  exact hm b (ho h0 _ rfl) (World.block_lt_of_cell? w _ this)
theorem RSl.below {v : Value} {l : List α} (h : RSl E ok w v l) (hb : Below w.heap.size w w') : RSl E ok w' v l := h.kp (.of_below hb)
theorem RSl.form {v : Value} {l : List α} (h : RSl E ok w v l) : ∃ A c, v = .slice A l.length c ∧ l.length ≤ c ∧ l.length * E.wt ≤ 140737488351232 := by
  obtain ⟨A, n, c, css, rfl, hc, hn, hb, _⟩ := h
  subst hn
  exact ⟨A, c, rfl, hc, hb⟩
theorem RSl.at_ {v : Value} {l : List α} (h : RSl E ok w v l) {i : Nat} (hi : i < l.length) :
    ∃ b off c cs, v = .slice (some ⟨b, off, none⟩) l.length c ∧ ok b ∧ E.rel ok w cs l[i] ∧ ∀ j u, cs[j]? = some u → w.cell? ⟨b, off + i * E.sz + j, none⟩ = some u := by
  obtain ⟨A, n, c, css, rfl, hc, hn, hb, hr, hch, ho⟩ := h
  subst hn
  have h0 : 0 < l.length := by omega
  obtain ⟨b, off, rfl, hcell⟩ := hr.2 h0
  obtain ⟨cs, h1, h2⟩ := hch.get i hi
  exact ⟨b, off, c, cs, rfl, ho h0 _ rfl, h1, fun j u hu => by rw [Nat.add_assoc]; exact hcell _ u (h2 j u hu)⟩
theorem RSl.take {A : Option Addr} {n c : Nat} {l : List α} (h : RSl E ok w (.slice A n c) l) {k : Nat} (hk : k ≤ n) : RSl E ok w (.slice A k c) (l.take k) := by
  obtain ⟨A', n', c', css, hv, hc, hn, hb, hr, hch, ho⟩ := h
  simp only [Value.slice.injEq] at hv
  obtain ⟨rfl, rfl, rfl⟩ := hv
  obtain ⟨h1, h2⟩ := hch.take k
  have h3 := hr.take hk
  rw [h2] at h3
  exact ⟨A, k, c, _, rfl, by omega, by rw [List.length_take]; omega, Nat.le_trans (Nat.mul_le_mul_right _ hk) hb, h3, h1, fun h0 => ho (by omega)⟩
theorem RSl.drop {A : Option Addr} {n c : Nat} {l : List α} (h : RSl E ok w (.slice A n c) l) {k : Nat} (hk : k ≤ n) : RSl E ok w (.slice (if c = k then A else A.map (·.add (k * E.sz))) (n - k) (c - k)) (l.drop k) := by
  obtain ⟨A', n', c', css, hv, hc, hn, hb, hr, hch, ho⟩ := h
  simp only [Value.slice.injEq] at hv
  obtain ⟨rfl, rfl, rfl⟩ := hv
  obtain ⟨h1, h2⟩ := hch.drop k
  have h3 := hr.drop hk hc
  rw [h2] at h3
  refine ⟨_, n - k, c - k, _, rfl, by omega, by rw [List.length_drop]; omega, Nat.le_trans (Nat.mul_le_mul_right _ (Nat.sub_le _ _)) hb, h3, h1, fun h0 a ha => ?_⟩
  rw [if_neg (by omega)] at ha
  cases A with
  | none => simp at ha
  | some a' =>
    simp only [Option.map_some, Option.some.injEq] at ha
    subst ha
    have : (a'.add (k * E.sz)).block = a'.block := by unfold Addr.add; split <;> rfl
    rw [this]
    exact ho (by omega) _ rfl
end
def rSl {α : Type} (E : Rel α) (hsz : 0 < E.sz) : Rel (List α) where
  sz := 1
  wt := 24
  rel ok w cs l := ∃ v, cs = [v] ∧ RSl E ok w v l
  len := by rintro ok w cs d ⟨v, rfl, _⟩; rfl
  one := by
    rintro ok w cs d ⟨v, rfl, h⟩ u hu
    simp at hu
    subst hu
    exact h.one
  kp := by
    rintro ok w w' cs d hk ⟨v, rfl, h⟩
    exact ⟨v, rfl, h.kp hk⟩
  mono := by
    rintro ok ok' w cs d hm ⟨v, rfl, h⟩
    exact ⟨v, rfl, h.mono hsz hm⟩
def rU8 : Rel UInt8 where
  sz := 1
  wt := 1
  rel _ _ cs b := cs = [.int .u8 (b.toNat : Int)]
  len := by rintro ok w cs d rfl; rfl
  one := by
    rintro ok w cs d rfl u hu
    simp at hu
    subst hu
    rfl
  kp := fun _ h => h
  mono := fun _ h => h
theorem chunks_bytes {ok : Nat → Prop} {w : World} : ∀ {css : List (List Value)} {l : List UInt8}, Chunks rU8 ok w css l → css.flatten = bs l
  | [], [], _ => rfl
  | _ :: _, _ :: _, h => by rw [List.flatten_cons, chunks_bytes h.2, show _ = _ from h.1]; rfl
  | [], _ :: _, h => h.elim
  | _ :: _, [], h => h.elim
theorem bytes_chunks (ok : Nat → Prop) (w : World) : ∀ l : List UInt8, Chunks rU8 ok w (l.map fun b => [.int .u8 (b.toNat : Int)]) l ∧ (l.map fun b => [Value.int .u8 (b.toNat : Int)]).flatten = bs l
  | [] => ⟨trivial, rfl⟩
  | b :: l => ⟨⟨rfl, (bytes_chunks ok w l).1⟩, by rw [List.map_cons, List.flatten_cons, (bytes_chunks ok w l).2]; rfl⟩
abbrev RB (ok : Nat → Prop) (w : World) (v : Value) (l : List UInt8) : Prop := RSl rU8 ok w v l
section
variable {ok : Nat → Prop} {w : World}
theorem RB.open_ {v : Value} {l : List UInt8} (h : RB ok w v l) : ∃ A c, v = .slice A l.length c ∧ l.length ≤ c ∧ l.length ≤ 140737488351232 ∧ Rd w 1 A l.length (bs l) ∧ (0 < l.length → ∀ a, A = some a → ok a.block) := by
  obtain ⟨A, n, c, css, rfl, hc, hn, hb, hr, hch, ho⟩ := h
  subst hn
  rw [chunks_bytes hch] at hr
  exact ⟨A, c, rfl, hc, by simpa [rU8] using hb, hr, ho⟩
theorem RB.mk_ {A : Option Addr} {n c : Nat} {l : List UInt8} (hr : Rd w 1 A n (bs l)) (hc : n ≤ c) (hb : n ≤ 140737488351232) (ho : 0 < n → ∀ a, A = some a → ok a.block) : RB ok w (.slice A n c) l := by
  obtain ⟨h1, h2⟩ := bytes_chunks ok w l
  have hn : l.length = n := by have := hr.1; simpa using this
  refine ⟨A, n, c, _, rfl, hc, hn, by simpa [rU8] using hb, ?_, h1, ho⟩
  rw [h2]
  exact hr
end
def OwnL {α : Type} (E : Rel α) (okd : Nat → Prop) (base : Nat) (T : TypeId) (w : World) (v : Value) (l : List α) : Prop :=
  ∃ css, w.ownsRow base T E.sz v l.length css.flatten ∧ Chunks E (fun b => okd b ∧ some b ≠ v.ownBlock) w css l
section
variable {α : Type} {E : Rel α} {okd ok : Nat → Prop} {base : Nat} {T : TypeId} {w w' : World} {v : Value} {l : List α}
theorem OwnL.nil_ (E : Rel α) (okd : Nat → Prop) (base : Nat) (T : TypeId) (w : World) : OwnL E okd base T w (.slice none 0 0) [] := ⟨[], World.ownsRow_nil _ _ _ _, trivial⟩
theorem OwnL.form (h : OwnL E okd base T w v l) : ∃ A c, v = .slice A l.length c ∧ l.length ≤ c := by
  obtain ⟨css, ho, _⟩ := h
  obtain ⟨A, c, rfl, hc, _⟩ := own_slice w ho
  exact ⟨A, c, rfl, hc⟩
theorem OwnL.lt (h : OwnL E okd base T w v l) : ∀ k, v.ownBlock = some k → base ≤ k ∧ k < w.heap.size := by
  obtain ⟨css, ho, _⟩ := h
  exact World.ownsRow.lt ho
theorem OwnL.kp (h : OwnL E okd base T w v l) (hk : Kp ok w w') (hok : ∀ b, okd b → ok b) (hrow : ∀ b, v.ownBlock = some b → ok b) : OwnL E okd base T w' v l := by
  have hlt := h.lt
  obtain ⟨css, ho, hch⟩ := h
  refine ⟨css, ?_, hch.kp (hk.mono fun b hb => hok b hb.1)⟩
  refine ⟨ho.1, ?_⟩
  rcases ho.2 with h2 | ⟨g, cap, cur, hv, hg, hh, r⟩
  · exact .inl h2
  · have hb : v.ownBlock = some g := by rw [hv]; rfl
    exact .inr ⟨g, cap, cur, hv, hg, (hk.block g (hlt g hb).2 (hrow g hb)).trans hh, r⟩
theorem OwnL.below (h : OwnL E okd base T w v l) (hb : Below w.heap.size w w') : OwnL E okd base T w' v l := h.kp (ok := fun _ => True) (.of_below hb) (fun _ _ => trivial) (fun _ _ => trivial)
theorem OwnL.bel (h : OwnL E okd base T w v l) (hk : Kp (fun b => some b ≠ v.ownBlock) w w') (hbase : base ≤ w.heap.size) : Below base w w' :=
  hk.below hbase fun b hb e => by have := h.lt b e.symm; omega
theorem OwnL.rsl (h : OwnL E okd base T w v l) (hsz : 0 < E.sz) (hb : l.length * E.wt ≤ 140737488351232) (hrow : ∀ b, base ≤ b → ok b) (hd : ∀ b, okd b → ok b) : RSl E ok w v l := by
  have hlt := h.lt
  obtain ⟨css, ho, hch⟩ := h
  obtain ⟨A, c, rfl, hc, _⟩ := own_slice w ho
  refine ⟨A, l.length, c, css, rfl, hc, rfl, hb, Rd.of_own ho, hch.mono fun b hb _ => hd b hb.1, fun _ a ha => ?_⟩
  subst ha
  exact hrow _ (hlt _ rfl).1
end
structure RowTy (P : Program) (tS tE : TypeId) (sz wt : Nat) : Prop where
  ht : P.underlying tS = some (.slice tE)
  info : ∃ i z, P.info? tE = some i ∧ i.zero = some z ∧ i.size = sz ∧ i.bytes = wt ∧ z.cells.size = sz
theorem rowTy_mk {P : Program} {tS tE : TypeId} {sz wt : Nat} (ht : P.underlying tS = some (.slice tE)) (h : ((P.info? tE).any fun i => i.size == sz && (i.bytes == wt && i.zero.any fun z => z.cells.size == sz)) = true) : RowTy P tS tE sz wt := by
  refine ⟨ht, ?_⟩
  cases hi : P.info? tE with
  | none => rw [hi] at h; cases h
  | some i =>
    rw [hi] at h
    simp only [Option.any_some, Bool.and_eq_true, beq_iff_eq] at h
    obtain ⟨h1, h2, h3⟩ := h
    cases hz : i.zero with
    | none => rw [hz] at h3; cases h3
    | some z =>
      rw [hz] at h3
      simp only [Option.any_some, beq_iff_eq] at h3
      exact ⟨i, z, rfl, hz, h1, h2, h3⟩
end Go.Proofs.YtmiceacjpadllaaGreatDoor
namespace Go.Proofs.YtmiceacjpadllaaGreatDoor
open Go.RowKit
def Blk (w : World) (g : Nat) (t : TypeId) (cs : Array Value) : Prop := w.heap[g]? = some (.cells cs t (0, 0))
section
variable {w w' : World} {g : Nat} {t : TypeId} {cs : Array Value}
theorem Blk.lt (h : Blk w g t cs) : g < w.heap.size := by
  rcases Nat.lt_or_ge g w.heap.size with hlt | hge
  · exact hlt
  · unfold Blk at h; rw [Array.getElem?_eq_none hge] at h; cases h
theorem Blk.cell (h : Blk w g t cs) (i : Nat) : w.cell? ⟨g, i, none⟩ = cs[i]? := cell_of_row w g i cs t (0, 0) h
theorem Blk.frozen (h : Blk w g t cs) (i : Nat) : w.frozen? ⟨g, i, none⟩ = false := by
  unfold Blk at h
  simp [World.frozen?, h]
theorem Blk.new (w : World) (t : TypeId) (cs : Array Value) : Blk (w.alloc (.cells cs t)) w.heap.size t cs := heap_alloc_new w _
theorem Blk.new_ {w : World} {g : Nat} {t : TypeId} {cs : Array Value} (hg : g = w.heap.size) : Blk (w.alloc (.cells cs t)) g t cs := by subst hg; exact Blk.new w t cs
theorem Blk.drew (h : Blk w g t cs) : Blk w.drew g t cs := h
theorem Blk.alloc (h : Blk w g t cs) (o : Obj) : Blk (w.alloc o) g t cs := (Below.heap_alloc w o g h.lt).trans h
theorem Blk.set_ (h : Blk w g t cs) (i : Nat) (u : Value) : Blk (w.setCell ⟨g, i, none⟩ u) g t (cs.setIfInBounds i u) := by
  unfold Blk at h ⊢
  simp [World.setCell, Array.getElem?_modify, h]
theorem Blk.far (h : Blk w g t cs) {p : Addr} (hp : g ≠ p.block) (u : Value) : Blk (w.setCell p u) g t cs := (Below.heap_setCell w p u g hp).trans h
theorem Blk.below {B : Nat} (h : Blk w g t cs) (hb : Below B w w') (hg : g < B) : Blk w' g t cs := (hb.block g hg).trans h
theorem Blk.kp {ok : Nat → Prop} (h : Blk w g t cs) (hk : Kp ok w w') (hg : ok g) : Blk w' g t cs := (hk.block g h.lt hg).trans h
end
theorem name_world {P : Program} {c : Code} {Q : Exit → Act → World → Prop} {a : Act} {W : World} (F : World → Prop) (hF : F W) (h : ∀ w1, F w1 → c.wp P Q a w1) : c.wp P Q a W := h _ hF
theorem Blk.later {w : World} {g : Nat} {t : TypeId} {cs : Array Value} (h : Blk w g t cs) {i : Nat} {u : Value} (hu : cs[i]? = some u) : ∀ s : Later w, s.val.cell? ⟨g, i, none⟩ = some u := fun s => (Blk.cell (h.below s.below h.lt) i).trans hu
end Go.Proofs.YtmiceacjpadllaaGreatDoor
