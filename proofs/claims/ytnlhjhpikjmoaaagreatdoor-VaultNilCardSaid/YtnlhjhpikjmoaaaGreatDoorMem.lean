/- Memory words of this seat's proofs: a slice that reads as a list of cells; bytes; values of three cells. No program in sight. -/
import Derived.WalkKit
import Derived.WalkSpells
import Derived.WalkLawsBesides
import Derived.BigQuiet
import Derived.Lib.Hide
import Derived.Laws.BytesArg
import Derived.Maps.AppendAt
import Derived.Laws.CopyOwn
namespace Go.Proofs.YtnlhjhpikjmoaaaGreatDoor
open Go.RowKit

/-- What was readable stays readable. -/
def Keeps (w w' : World) : Prop := ∀ p u, w.cell? p = some u → w'.cell? p = some u
theorem Keeps.refl (w : World) : Keeps w w := fun _ _ h => h
theorem Keeps.trans {a b c : World} (h : Keeps a b) (k : Keeps b c) : Keeps a c := fun p u hu => k p u (h p u hu)
theorem Keeps.of_below {w w' : World} (hb : Below w.heap.size w w') : Keeps w w' := fun p _ hu => (hb.cell (p := p) (World.block_lt_of_cell? w p hu)).trans hu

/-- A slice (address A, n places of sz cells) reads as the flat cells xs. -/
def Rd (w : World) (sz : Nat) (A : Option Addr) (n : Nat) (xs : List Value) : Prop :=
  xs.length = n * sz ∧ (0 < n → ∃ b off, A = some ⟨b, off, none⟩ ∧ ∀ j u, xs[j]? = some u → w.cell? ⟨b, off + j, none⟩ = some u)

section
variable {w w' : World} {sz n : Nat} {A : Option Addr} {xs : List Value}
theorem Rd.keep (h : Rd w sz A n xs) (hk : Keeps w w') : Rd w' sz A n xs :=
  ⟨h.1, fun hn => let ⟨b, off, e, hc⟩ := h.2 hn; ⟨b, off, e, fun j u hu => hk _ _ (hc j u hu)⟩⟩
theorem Rd.below (h : Rd w sz A n xs) (hb : Below w.heap.size w w') : Rd w' sz A n xs := h.keep (.of_below hb)
theorem Rd.nil_ (A : Option Addr) : Rd w sz A 0 [] := ⟨by simp, fun h => absurd h (by omega)⟩
theorem Rd.of_own {base : Nat} {e : TypeId} {c : Nat} (h : w.ownsRow base e sz (.slice A n c) n xs) : Rd w sz A n xs := by
  refine ⟨h.1, fun hn => ?_⟩
  rcases h.2 with ⟨_, h0⟩ | ⟨g, cap, cur, hv, _, hh, _, _, _, ht⟩
  · omega
  · simp only [Value.slice.injEq] at hv
    obtain ⟨rfl, _, rfl⟩ := hv
    refine ⟨g, 0, rfl, fun j u hu => ?_⟩
    have := World.ownsRow.cells h (g := g) rfl j u hu
    rwa [Addr.add_lit] at this
theorem Rd.at1 (h : Rd w 1 A n xs) {k : Nat} (hk : k < n) : ∃ b off u, A = some ⟨b, off, none⟩ ∧ xs[k]? = some u ∧ w.cell? ⟨b, off + k, none⟩ = some u := by
  obtain ⟨b, off, e, hc⟩ := h.2 (by omega)
  have hl : k < xs.length := by have := h.1; omega
  exact ⟨b, off, xs[k], e, List.getElem?_eq_getElem hl, hc k _ (List.getElem?_eq_getElem hl)⟩
/-- x[k:] -/
theorem Rd.drop (h : Rd w sz A n xs) {k cap : Nat} (hk : k ≤ n) (hc : n ≤ cap) : Rd w sz (if cap = k then A else A.map (·.add (k * sz))) (n - k) (xs.drop (k * sz)) := by
  refine ⟨by rw [List.length_drop, h.1, Nat.sub_mul], fun hn => ?_⟩
  obtain ⟨b, off, rfl, hcell⟩ := h.2 (by omega)
  rw [if_neg (by omega)]
  refine ⟨b, off + k * sz, by simp [Addr.add_lit], fun j u hu => ?_⟩
  rw [Nat.add_assoc]
  exact hcell _ u (by rw [← hu, List.getElem?_drop])
/-- x[:k] -/
theorem Rd.take (h : Rd w sz A n xs) {k : Nat} (hk : k ≤ n) : Rd w sz A k (xs.take (k * sz)) := by
  refine ⟨by rw [List.length_take, h.1]; exact Nat.min_eq_left (Nat.mul_le_mul_right _ hk), fun hn => ?_⟩
  obtain ⟨b, off, rfl, hcell⟩ := h.2 (by omega)
  refine ⟨b, off, rfl, fun j u hu => hcell _ u ?_⟩
  rw [List.getElem?_take] at hu
  split at hu
  · exact hu
  · cases hu
end

/-- A row that has just been laid. -/
theorem Rd.new (w : World) (e : TypeId) (sz n : Nat) (cs : Array Value) (h : cs.size = n * sz) : Rd (w.alloc (.cells cs e)) sz (some ⟨w.heap.size, 0, none⟩) n cs.toList :=
  ⟨by simpa using h, fun _ => ⟨_, 0, rfl, fun j u hu => by simpa using hu⟩⟩

/-! ### append onto a row of the call's own -/
section
variable {P : Program} (w : World)
theorem run_append_nil_src (base : Nat) (t ty e : TypeId) (i : TypeInfo) (size : Nat) (ht : P.underlying t = some (.slice e)) (hi : P.info? e = some i)
    (v : Value) (n : Nat) (xs : List Value) (hown : w.ownsRow base e size v n xs) (c : Nat) : (Builtin.append_ #[t, t] ty #[v, .slice none 0 c]).run P w = .ok v w := by
  rcases hown.2 with ⟨rfl, rfl⟩ | ⟨g, cap, cur, rfl, _, _, hnc, _⟩
  · simp [Builtin.append_, run_underlying ht, sizeOf, typeInfo, hi, Builtin.lenOf, Builtin.firstCells]
  · simp [Builtin.append_, run_underlying ht, sizeOf, typeInfo, hi, Builtin.lenOf, Builtin.firstCells, hnc, storeCells]

theorem own_slice {base : Nat} {e : TypeId} {sz : Nat} {v : Value} {n : Nat} {xs : List Value} (h : w.ownsRow base e sz v n xs) : ∃ A c, v = .slice A n c ∧ n ≤ c ∧ c ≤ maxLen ∧ (∀ k, v.ownBlock = some k → base ≤ k) := by
  rcases h.2 with ⟨rfl, rfl⟩ | ⟨g, cap, cur, rfl, hb, _, hnc, hcm, _⟩
  · exact ⟨none, 0, rfl, Nat.le_refl _, Nat.zero_le _, fun k hk => by simp [Value.ownBlock] at hk⟩
  · exact ⟨_, cap, rfl, hnc, hcm, fun k hk => by simp [Value.ownBlock] at hk; omega⟩

/-- append(s, x...): s the call's own (or nil), x whatever reads. -/
theorem run_append_rd (base : Nat) (t ty e : TypeId) (i : TypeInfo) (z : Value) (size bytes : Nat) (ht : P.underlying t = some (.slice e)) (hi : P.info? e = some i) (hz : i.zero = some z)
    (hsize : i.size = size) (hby : i.bytes = bytes) (hzs : z.cells.size = size) (hsz : 0 < size)
    (A0 : Option Addr) (n c0 : Nat) (xs : List Value) (hown : w.ownsRow base e size (.slice A0 n c0) n xs) (A : Option Addr) (m c : Nat) (news : List Value) (hr : Rd w size A m news) (h1 : ∀ u ∈ news, u.oneCell' = true)
    (h63 : n + m ≤ maxLen) (hbytes : (n + m) * bytes ≤ 140737488355328) (hbase : base ≤ w.heap.size) :
    ∃ A' c' w', (Builtin.append_ #[t, t] ty #[.slice A0 n c0, .slice A m c]).run P w = .ok (.slice A' (n + m) c') w' ∧ w'.ownsRow base e size (.slice A' (n + m) c') (n + m) (xs ++ news) ∧ Below base w w' := by
  have hrow := (own_slice w hown).choose_spec.choose_spec.2.2.2
  rcases A with _ | ad
  · have hm : m = 0 := by
      rcases Nat.eq_zero_or_pos m with h0 | h0
      · exact h0
      · obtain ⟨_, _, h, _⟩ := hr.2 h0
        cases h
    subst hm
    have hn : news = [] := List.eq_nil_of_length_eq_zero (by simpa using hr.1)
    subst hn
    exact ⟨A0, c0, w, run_append_nil_src w base t ty e i size ht hi _ n xs hown c, by simpa using hown, Below.refl _ _⟩
  · have hcells : ∀ j u, news[j]? = some u → w.cell? (ad.add j) = some u := by
      intro j u hu
      rcases Nat.eq_zero_or_pos m with h0 | h0
      · subst h0
        have hn : news = [] := List.eq_nil_of_length_eq_zero (by simpa using hr.1)
        subst hn
        simp at hu
      · obtain ⟨b, off, h, hc⟩ := hr.2 h0
        injection h with h
        subst h
        rw [Addr.add_lit]
        exact hc j u hu
    obtain ⟨v', w', hrun, h2, h3, h4⟩ := run_append_own (P := P) w base t ty e i z size bytes ht hi hz hsize hby hzs hsz _ n xs hown ad m c news hr.1 hcells h1 h63 hbytes hbase
    obtain ⟨A', c', rfl, _⟩ := own_slice w' h2
    exact ⟨A', c', w', hrun, h2, (Below.refl _ _).grown h3 hbase hrow⟩

theorem wpList_append_rd {ops : Array Oper} {rest : List Oper} {o : Oper} {a : Act} {Q : Exit → Act → World → Prop} (hgd : o.guard = none) (s x : Operand) (t : TypeId)
    (ho : o.op = .call { callee := .builtin .append, args := #[s, x], argTypes := #[t, t] })
    (base : Nat) (e : TypeId) (i : TypeInfo) (z : Value) (size bytes : Nat) (ht : P.underlying t = some (.slice e)) (hi : P.info? e = some i) (hz : i.zero = some z)
    (hsize : i.size = size) (hby : i.bytes = bytes) (hzs : z.cells.size = size) (hsz : 0 < size)
    (A0 : Option Addr) (n c0 : Nat) (xs : List Value) (hs : a.eval s = .slice A0 n c0) (hown : w.ownsRow base e size (.slice A0 n c0) n xs)
    (A : Option Addr) (m c : Nat) (news : List Value) (hx : a.eval x = .slice A m c) (hr : Rd w size A m news) (h1 : ∀ u ∈ news, u.oneCell' = true)
    (h63 : n + m ≤ maxLen) (hbytes : (n + m) * bytes ≤ 140737488355328) (hbase : base ≤ w.heap.size)
    (h : ∀ A' c' w', w'.ownsRow base e size (.slice A' (n + m) c') (n + m) (xs ++ news) → Below base w w' → wpList P ops Q rest (a.put o.dst (.slice A' (n + m) c')) w') : wpList P ops Q (o :: rest) a w :=
  wpList_plain hgd fun _ hK => by
    obtain ⟨A', c', w', hrun, h2, h3⟩ := run_append_rd (P := P) w base t o.type e i z size bytes ht hi hz hsize hby hzs hsz A0 n c0 xs hown A m c news hr h1 h63 hbytes hbase
    unfold Oper.wp execOp
    simp only [ho, resolve, invoke, builtin, Sem.run_bind, Sem.run_pure, Result.andThen_ok, List.map_toArray, List.map_cons, List.map_nil, hs, hx, hrun]
    exact hK _ _ (h A' c' w' h2 h3)
end

section
variable {P : Program} (w : World)
/-- append within the capacity -/
theorem wpList_append_fits_rd {ops : Array Oper} {rest : List Oper} {o : Oper} {a : Act} {Q : Exit → Act → World → Prop} (hgd : o.guard = none) (s x : Operand) (t : TypeId)
    (ho : o.op = .call { callee := .builtin .append, args := #[s, x], argTypes := #[t, t] })
    (base : Nat) (e : TypeId) (i : TypeInfo) (size : Nat) (ht : P.underlying t = some (.slice e)) (hi : P.info? e = some i) (hsize : i.size = size)
    (g n cap : Nat) (xs : List Value) (hs : a.eval s = .slice (some ⟨g, 0, none⟩) n cap) (hown : w.ownsRow base e size (.slice (some ⟨g, 0, none⟩) n cap) n xs)
    (A : Option Addr) (m c : Nat) (news : List Value) (hx : a.eval x = .slice A m c) (hr : Rd w size A m news) (h1 : ∀ u ∈ news, u.oneCell' = true) (hroom : n + m ≤ cap)
    (h : ∀ w', w'.ownsRow base e size (.slice (some ⟨g, 0, none⟩) (n + m) cap) (n + m) (xs ++ news) → w.grownBy w' (some g) → wpList P ops Q rest (a.put o.dst (.slice (some ⟨g, 0, none⟩) (n + m) cap)) w') : wpList P ops Q (o :: rest) a w :=
  wpList_plain hgd fun _ hK => by
    have key : ∃ w', (Builtin.append_ #[t, t] o.type #[.slice (some ⟨g, 0, none⟩) n cap, .slice A m c]).run P w = .ok (.slice (some ⟨g, 0, none⟩) (n + m) cap) w' ∧
        w'.ownsRow base e size (.slice (some ⟨g, 0, none⟩) (n + m) cap) (n + m) (xs ++ news) ∧ w.grownBy w' (some g) := by
      rcases A with _ | ad
      · have hm : m = 0 := by
          rcases Nat.eq_zero_or_pos m with h0 | h0
          · exact h0
          · obtain ⟨_, _, h, _⟩ := hr.2 h0
            cases h
        subst hm
        have hn : news = [] := List.eq_nil_of_length_eq_zero (by simpa using hr.1)
        subst hn
        exact ⟨w, run_append_nil_src w base t o.type e i size ht hi _ n xs hown c, by simpa using hown, World.grownBy.refl _ _⟩
      · have hcells : ∀ j u, news[j]? = some u → w.cell? (ad.add j) = some u := by
          intro j u hu
          rcases Nat.eq_zero_or_pos m with h0 | h0
          · subst h0
            have hn : news = [] := List.eq_nil_of_length_eq_zero (by simpa using hr.1)
            subst hn
            simp at hu
          · obtain ⟨b, off, h, hc⟩ := hr.2 h0
            injection h with h
            subst h
            rw [Addr.add_lit]
            exact hc j u hu
        exact run_append_fits (P := P) w base t o.type e i size ht hi hsize g n cap xs hown ad m c news hr.1 hcells h1 hroom
    obtain ⟨w', hrun, h2, h3⟩ := key
    unfold Oper.wp execOp
    simp only [ho, resolve, invoke, builtin, Sem.run_bind, Sem.run_pure, Result.andThen_ok, List.map_toArray, List.map_cons, List.map_nil, hs, hx, hrun]
    exact hK _ _ (h w' h2 h3)

/-- All of a row, up to its capacity. -/
theorem own_whole {w : World} {base : Nat} {e : TypeId} {sz g n cap : Nat} {xs : List Value} (h : w.ownsRow base e sz (.slice (some ⟨g, 0, none⟩) n cap) n xs) :
    n ≤ cap ∧ ∃ ys, w.ownsRow base e sz (.slice (some ⟨g, 0, none⟩) cap cap) cap ys ∧ ys.take (n * sz) = xs := by
  rcases h.2 with ⟨h', _⟩ | ⟨g', cap', cur, h', hb, hg, hnc, hcm, hcs, ht⟩
  · simp at h'
  · simp only [Value.slice.injEq, Option.some.injEq, Addr.mk.injEq, and_true, true_and] at h'
    obtain ⟨rfl, rfl⟩ := h'
    exact ⟨hnc, cur.toList, ⟨by simpa using hcs, .inr ⟨g, cap, cur, rfl, hb, hg, Nat.le_refl _, hcm, hcs, List.take_of_length_le (by simp [hcs])⟩⟩, ht⟩
theorem own_part {w : World} {base : Nat} {e : TypeId} {sz g n m cap : Nat} {ys : List Value} (h : w.ownsRow base e sz (.slice (some ⟨g, 0, none⟩) m cap) m ys) (hn : n ≤ m) :
    w.ownsRow base e sz (.slice (some ⟨g, 0, none⟩) n cap) n (ys.take (n * sz)) := by
  rcases h.2 with ⟨h', _⟩ | ⟨g', cap', cur, h', hb, hg, hnc, hcm, hcs, ht⟩
  · simp at h'
  · simp only [Value.slice.injEq, Option.some.injEq, Addr.mk.injEq, and_true, true_and] at h'
    obtain ⟨rfl, rfl⟩ := h'
    have hle : n * sz ≤ m * sz := Nat.mul_le_mul_right _ hn
    refine ⟨by rw [List.length_take, h.1]; exact Nat.min_eq_left hle, .inr ⟨g, cap, cur, rfl, hb, hg, by omega, hcm, hcs, ?_⟩⟩
    rw [← ht, List.take_take, Nat.min_eq_left hle]
end

/-! ### regions that draw their order, whose calls make memory of their own -/
/-- A world that comes later: old memory is as it was. -/
structure Later (w : World) where
  val : World
  below : Below w.heap.size w val
instance later_nonempty (w : World) : Nonempty (Later w) := ⟨⟨w, Below.refl _ _⟩⟩
theorem Later.rd {w : World} {sz n : Nat} {A : Option Addr} {xs : List Value} (s : Later w) (h : Rd w sz A n xs) : Rd s.val sz A n xs := h.below s.below
theorem Later.cell {w : World} {p : Addr} {u : Value} (h : w.cell? p = some u) : ∀ s : Later w, s.val.cell? p = some u := fun s => (s.below.cell (p := p) (World.block_lt_of_cell? w p h)).trans h
theorem Later.call {P : Program} {f : FuncId} {args : Array Value} {w : World} {s : Later w} {v : Value} (h : Calls P f args s.val fun e w' => e = .returned v ∧ Below s.val.heap.size s.val w') :
    Calls P f args s.val fun e w'' => e = .returned v ∧ ∃ s' : Later w, w'' = s'.val :=
  h.mono fun _ w'' ⟨he, hb⟩ => ⟨he, ⟨w'', s.below.trans (hb.mono s.below.size)⟩, rfl⟩
theorem Later.call_same {P : Program} {f : FuncId} {args : Array Value} {w : World} {s : Later w} {v : Value} (h : Calls P f args s.val fun e w' => e = .returned v ∧ s.val = w') :
    Calls P f args s.val fun e w'' => e = .returned v ∧ ∃ s' : Later w, w'' = s'.val :=
  h.mono fun _ _ ⟨he, hb⟩ => ⟨he, s, hb.symm⟩
theorem wp_region_later {P : Program} {id : Nat} {Q : Exit → Act → World → Prop} {a : Act} {w : World} {l : List Oper} (hm : P.follows .mixedOrders = true) (hB : Region.lexB .any l.toArray = true)
    (h : wpQuiet P l.toArray (fun w' => ∃ s : Later w, w' = s.val) (fun a' => ∀ s : Later w, Q .normal a' s.val) l a) : (Code.region id l.toArray true).wp P Q a w :=
  wp_region_quiet (C := fun w' => ∃ s : Later w, w' = s.val) hm hB ⟨⟨w.drew, (Below.refl _ _).drew⟩, rfl⟩ (by
    have key : ∀ (l' : List Oper) (a : Act), wpQuiet P l.toArray (fun w' => ∃ s : Later w, w' = s.val) (fun a' => ∀ s : Later w, Q .normal a' s.val) l' a → wpQuiet P l.toArray (fun w' => ∃ s : Later w, w' = s.val) (fun a' => ∀ w', (∃ s : Later w, w' = s.val) → Q .normal a' w') l' a := by
      intro l'
      induction l' with
      | nil => exact fun a h w' ⟨s, hs⟩ => hs ▸ h s
      | cons o l' ih =>
        intro a h
        unfold wpQuiet at h ⊢
        split
        · rename_i hw
          rw [if_pos hw] at h
          exact Oper.quiet_mono ih h
        · rename_i hw
          rw [if_neg hw] at h
          exact ih _ h
    simpa using key _ _ h)

/-! ### bytes -/
/-- Bytes as cells. -/
def bs (l : List UInt8) : List Value := l.map fun b => .int .u8 (b.toNat : Int)
@[simp] theorem bs_length (l : List UInt8) : (bs l).length = l.length := by simp [bs]
@[simp] theorem bs_append (a b : List UInt8) : bs (a ++ b) = bs a ++ bs b := by simp [bs]
theorem bs_nil : bs [] = [] := rfl
theorem bs_get (l : List UInt8) (k : Nat) (h : k < l.length) : (bs l)[k]? = some (.int .u8 ((l[k]).toNat : Int)) := by simp [bs, h]
theorem bs_drop (l : List UInt8) (k : Nat) : (bs l).drop k = bs (l.drop k) := by simp [bs, List.map_drop]
theorem bs_take (l : List UInt8) (k : Nat) : (bs l).take k = bs (l.take k) := by simp [bs, List.map_take]
theorem bs_one (l : List UInt8) : ∀ u ∈ bs l, u.oneCell' = true := by
  intro u hu
  obtain ⟨_, _, rfl⟩ := List.mem_map.1 hu
  rfl
/-- A text as a string of Go. -/
def str (l : List UInt8) : ByteArray := ⟨l.toArray⟩
@[simp] theorem str_size (l : List UInt8) : (str l).size = l.length := by simp [str, ByteArray.size]
theorem str_toList (l : List UInt8) : (str l).toList = l := by rw [ByteArray.toList_eq]; rfl
@[simp] theorem str_data (l : List UInt8) : (str l).data.toList = l := rfl
theorem str_inj {a b : List UInt8} (h : str a = str b) : a = b := by
  have := congrArg (fun s : ByteArray => s.data.toList) h
  simpa using this

theorem u8_beq_no {x b : UInt8} (h : x ≠ b) : ((x.toNat : Int) == (b.toNat : Int)) = false := by
  rw [beq_eq_false_iff_ne]; intro e; exact h (UInt8.toNat_inj.1 (by omega))
theorem u8_bne {x b : UInt8} (h : x ≠ b) : ((x.toNat : Int) != (b.toNat : Int)) = true := by
  rw [bne_iff_ne]; intro e; exact h (UInt8.toNat_inj.1 (by omega))
theorem Rd.byte {w : World} {A : Option Addr} {n : Nat} {l : List UInt8} (h : Rd w 1 A n (bs l)) {k : Nat} (hk : k < l.length) : ∃ b off, A = some ⟨b, off, none⟩ ∧ w.cell? ⟨b, off + k, none⟩ = some (.int .u8 ((l[k]).toNat : Int)) := by
  have hn := h.1
  rw [bs_length] at hn
  obtain ⟨b, off, e, hc⟩ := h.2 (by omega)
  exact ⟨b, off, e, hc k _ (bs_get l k hk)⟩

theorem Rd.byteB {w : World} {A : Option Addr} {n : Nat} {l : List UInt8} (h : Rd w 1 A n (bs l)) {k : Nat} (hk : k < l.length) : ∃ b off, A = some ⟨b, off, none⟩ ∧ b < w.heap.size ∧ w.cell? ⟨b, off + k, none⟩ = some (.int .u8 ((l[k]).toNat : Int)) := by
  obtain ⟨b, off, e, hc⟩ := h.byte hk
  exact ⟨b, off, e, World.block_lt_of_cell? w _ hc, hc⟩

/-- string(b) -/
theorem run_str {P : Program} {w : World} {A : Option Addr} {n c : Nat} {l : List UInt8} (src dst e : TypeId) (hs : P.underlying src = some (.slice e)) (he : P.underlying e = some (.int .u8)) (hd : P.underlying dst = some .string)
    (h : Rd w 1 A n (bs l)) : (convert src dst (.slice A n c)).run P w = .ok (.string (str l)) w := by
  have hn := h.1
  rw [bs_length, Nat.mul_one] at hn
  rcases Nat.eq_zero_or_pos n with h0 | h0
  · have hl : l = [] := List.eq_nil_of_length_eq_zero (by omega)
    subst hl
    subst h0
    rw [run_convert_bytes_string w src dst e A 0 c hs he hd]
    cases A <;> simp [Conv.bytesToString, str, ByteArray.empty, ByteArray.emptyWithCapacity] <;> rfl
  · obtain ⟨b, off, rfl, hc⟩ := h.2 h0
    have h1 := run_convert_bytes_arg (P := P) w src e hs he b off n c (l.map fun b => (b.toNat : Int)) (by simp [hn]) (fun i hi => by
      rw [hc i _ (bs_get l i (by omega))]
      simp [List.getD, show i < l.length by omega]) dst hd
    rw [h1]
    simp only [strOfNums, str, List.map_map]
    congr 3
    have : ((fun n : Int => UInt8.ofNat n.toNat) ∘ fun b : UInt8 => (b.toNat : Int)) = id := by
      funext x; simp
    simp [this]

/-! ### values -/
structure Val where
  k : Int
  i : Int
  s : ByteArray

def Val.v (x : Val) : Value := .agg #[.int .i64 x.k, .int .i64 x.i, .string x.s]
def Val.cs (x : Val) : List Value := [.int .i64 x.k, .int .i64 x.i, .string x.s]
def vcs (l : List Val) : List Value := l.flatMap Val.cs
theorem vcs_length (l : List Val) : (vcs l).length = l.length * 3 := by
  induction l with
  | nil => rfl
  | cons a l ih => simp [vcs, Val.cs] at ih ⊢; omega
theorem vcs_append (a b : List Val) : vcs (a ++ b) = vcs a ++ vcs b := by simp [vcs]
theorem vcs_drop (l : List Val) (k : Nat) : (vcs l).drop (k * 3) = vcs (l.drop k) := by
  induction k generalizing l with
  | zero => simp
  | succ k ih =>
    cases l with
    | nil => simp [vcs]
    | cons a l =>
      have : vcs (a :: l) = Val.cs a ++ vcs l := by simp [vcs]
      rw [this, show (k + 1) * 3 = (Val.cs a).length + k * 3 by simp [Val.cs]; omega, List.drop_append]
      simp [ih]
theorem vcs_take (l : List Val) (k : Nat) : (vcs l).take (k * 3) = vcs (l.take k) := by
  induction k generalizing l with
  | zero => simp [vcs]
  | succ k ih =>
    cases l with
    | nil => simp [vcs]
    | cons a l =>
      have : vcs (a :: l) = Val.cs a ++ vcs l := by simp [vcs]
      rw [this, show (k + 1) * 3 = (Val.cs a).length + k * 3 by simp [Val.cs]; omega, List.take_length_add_append, ih, List.take_succ_cons]
      simp [vcs]
theorem vcs_get (l : List Val) (k : Nat) (h : k < l.length) : (vcs l)[k * 3]? = some (.int .i64 (l[k]).k) ∧ (vcs l)[k * 3 + 1]? = some (.int .i64 (l[k]).i) ∧ (vcs l)[k * 3 + 2]? = some (.string (l[k]).s) := by
  have e : (vcs l).drop (k * 3) = Val.cs l[k] ++ vcs (l.drop (k + 1)) := by rw [vcs_drop, List.drop_eq_getElem_cons h]; rfl
  have g : ∀ j, (vcs l)[k * 3 + j]? = (Val.cs l[k] ++ vcs (l.drop (k + 1)))[j]? := fun j => by rw [← e, List.getElem?_drop]
  refine ⟨?_, ?_, ?_⟩
  · have := g 0; simpa [Val.cs] using this
  · have := g 1; simpa [Val.cs] using this
  · have := g 2; simpa [Val.cs] using this
theorem vcs_one (l : List Val) : ∀ u ∈ vcs l, u.oneCell' = true := by
  intro u hu
  simp only [vcs, List.mem_flatMap, Val.cs] at hu
  obtain ⟨x, _, hx⟩ := hu
  simp at hx
  rcases hx with rfl | rfl | rfl <;> rfl

theorem Rd.val {w : World} {A : Option Addr} {n : Nat} {l : List Val} (h : Rd w 3 A n (vcs l)) {k : Nat} (hk : k < l.length) :
    ∃ b off, A = some ⟨b, off, none⟩ ∧ w.cell? ⟨b, off + k * 3, none⟩ = some (.int .i64 (l[k]).k) ∧ w.cell? ⟨b, off + k * 3 + 1, none⟩ = some (.int .i64 (l[k]).i) ∧ w.cell? ⟨b, off + k * 3 + 2, none⟩ = some (.string (l[k]).s) := by
  have hn := h.1
  rw [vcs_length] at hn
  obtain ⟨b, off, e, hc⟩ := h.2 (by omega)
  obtain ⟨g0, g1, g2⟩ := vcs_get l k hk
  exact ⟨b, off, e, hc _ _ g0, by rw [Nat.add_assoc]; exact hc _ _ g1, by rw [Nat.add_assoc]; exact hc _ _ g2⟩

theorem Rd.valB {w : World} {A : Option Addr} {n : Nat} {l : List Val} (h : Rd w 3 A n (vcs l)) {k : Nat} (hk : k < l.length) :
    ∃ b off, A = some ⟨b, off, none⟩ ∧ b < w.heap.size ∧ w.cell? ⟨b, off + k * 3, none⟩ = some (.int .i64 (l[k]).k) ∧ w.cell? ⟨b, off + k * 3 + 1, none⟩ = some (.int .i64 (l[k]).i) ∧ w.cell? ⟨b, off + k * 3 + 2, none⟩ = some (.string (l[k]).s) := by
  obtain ⟨b, off, e, h0, h1, h2⟩ := h.val hk
  exact ⟨b, off, e, World.block_lt_of_cell? w _ h0, h0, h1, h2⟩
/-- three cells of a value, further on -/
theorem val_later {w w' : World} {B b o : Nat} {x0 x1 x2 : Value} (hb : Below B w w') (hlt : b < B) (h0 : w.cell? ⟨b, o, none⟩ = some x0) (h1 : w.cell? ⟨b, o + 1, none⟩ = some x1) (h2 : w.cell? ⟨b, o + 2, none⟩ = some x2) :
    w'.cell? ⟨b, o, none⟩ = some x0 ∧ w'.cell? ⟨b, o + 1, none⟩ = some x1 ∧ w'.cell? ⟨b, o + 2, none⟩ = some x2 :=
  ⟨(hb.cell (p := ⟨b, o, none⟩) hlt).trans h0, (hb.cell (p := ⟨b, o + 1, none⟩) hlt).trans h1, (hb.cell (p := ⟨b, o + 2, none⟩) hlt).trans h2⟩
theorem own_mono {w : World} {base B : Nat} {e : TypeId} {sz : Nat} {v : Value} {n : Nat} {xs : List Value} (h : w.ownsRow B e sz v n xs) (hb : base ≤ B) : w.ownsRow base e sz v n xs := by
  refine ⟨h.1, ?_⟩
  rcases h.2 with h2 | ⟨g, cap, cur, hv, hg, r⟩
  · exact .inl h2
  · exact .inr ⟨g, cap, cur, hv, Nat.le_trans hb hg, r⟩
theorem own_below {w w' : World} {base : Nat} {e : TypeId} {sz : Nat} {v : Value} {n : Nat} {xs : List Value} (h : w.ownsRow base e sz v n xs) (hb : Below w.heap.size w w') : w'.ownsRow base e sz v n xs := by
  refine ⟨h.1, ?_⟩
  rcases h.2 with h2 | ⟨g, cap, cur, hv, hg, hh, r⟩
  · exact .inl h2
  · exact .inr ⟨g, cap, cur, hv, hg, (hb.block g (Array.getElem?_eq_some_iff.1 hh).1).trans hh, r⟩
/-- == of two values. -/
def veq (a b : Val) : Bool := a.k == b.k && (a.i == b.i && a.s.toList == b.s.toList)
theorem veq_iff (a b : Val) : veq a b = true ↔ a = b := by
  obtain ⟨k, i, s⟩ := a
  obtain ⟨k', i', s'⟩ := b
  simp only [veq, ByteArray.toList_eq, Bool.and_eq_true, beq_iff_eq, Val.mk.injEq]
  constructor
  · rintro ⟨h1, h2, h3⟩
    exact ⟨h1, h2, ByteArray.ext (Array.toList_inj.1 h3)⟩
  · rintro ⟨rfl, rfl, rfl⟩
    exact ⟨rfl, rfl, rfl⟩
instance : DecidableEq Val := fun a b => decidable_of_iff (veq a b = true) (veq_iff a b)
/-- == of two lists of values. -/
def leq (a b : List Val) : Bool := decide (a = b)
theorem leq_self (a : List Val) : leq a a = true := by simp [leq]
theorem leq_iff (a b : List Val) : leq a b = true ↔ a = b := by simp [leq]
theorem leq_no {a b : List Val} (h : a ≠ b) : leq a b = false := by simp [leq, h]
/-- A value stored into a row of the call's own. -/
theorem own_set_val {w : World} {base : Nat} {e : TypeId} {g N cap : Nat} {ys : List Value} (h : w.ownsRow base e 3 (.slice (some ⟨g, 0, none⟩) N cap) N ys) (j : Nat) (_ : j < N) (x0 x1 x2 : Value) :
    ((((w.setCell ⟨g, j * 3, none⟩ x0).setCell ⟨g, j * 3 + 1, none⟩ x1).setCell ⟨g, j * 3 + 2, none⟩ x2).ownsRow base e 3 (.slice (some ⟨g, 0, none⟩) N cap) N (((ys.set (j * 3) x0).set (j * 3 + 1) x1).set (j * 3 + 2) x2)) ∧
      Below base w (((w.setCell ⟨g, j * 3, none⟩ x0).setCell ⟨g, j * 3 + 1, none⟩ x1).setCell ⟨g, j * 3 + 2, none⟩ x2) := by
  have hb : base ≤ g := (h.lt g rfl).1
  have h1 := (h.stored (j * 3) x0).1
  have h2 := (h1.stored (j * 3 + 1) x1).1
  have h3 := (h2.stored (j * 3 + 2) x2).1
  exact ⟨h3, (((Below.refl _ _).setCell hb _).setCell hb _).setCell hb _⟩
theorem own_val_cells {w : World} {base : Nat} {e : TypeId} {g N cap : Nat} {ys : List Value} (h : w.ownsRow base e 3 (.slice (some ⟨g, 0, none⟩) N cap) N ys) (j : Nat) (hj : j < N) :
    ∃ y0 y1 y2, w.cell? ⟨g, j * 3, none⟩ = some y0 ∧ w.cell? ⟨g, j * 3 + 1, none⟩ = some y1 ∧ w.cell? ⟨g, j * 3 + 2, none⟩ = some y2 := by
  have hl := h.1
  refine ⟨ys[j * 3], ys[j * 3 + 1], ys[j * 3 + 2], ?_, ?_, ?_⟩ <;> rw [h.cellAt _ (by omega)] <;> exact List.getElem?_eq_getElem _
theorem set_vals (ys : List Value) (us : List Val) (f : Val) (h : ys.take (us.length * 3) = vcs us) (hl : us.length * 3 + 3 ≤ ys.length) :
    (((ys.set (us.length * 3) (.int .i64 f.k)).set (us.length * 3 + 1) (.int .i64 f.i)).set (us.length * 3 + 2) (.string f.s)).take ((us.length + 1) * 3) = vcs (us ++ [f]) := by
  apply List.ext_getElem?
  intro q
  rw [vcs_append, ← h, List.getElem?_append, List.length_take, Nat.min_eq_left (by omega)]
  by_cases hq : q < us.length * 3
  · rw [if_pos hq, List.getElem?_take, if_pos (by omega), List.getElem?_set, if_neg (by omega), List.getElem?_set, if_neg (by omega), List.getElem?_set, if_neg (by omega), List.getElem?_take, if_pos hq]
  · rw [if_neg hq]
    obtain ⟨d, rfl⟩ : ∃ d, q = us.length * 3 + d := ⟨q - us.length * 3, by omega⟩
    rw [Nat.add_sub_cancel_left, List.getElem?_take]
    match d with
    | 0 => simp [List.getElem?_set, vcs, Val.cs]; omega
    | 1 => simp [List.getElem?_set, vcs, Val.cs]; omega
    | 2 => simp [List.getElem?_set, vcs, Val.cs]; omega
    | d + 3 => simp [vcs, Val.cs]; omega
theorem alloc1 {w : World} {p : Addr} {u : Value} (h : w.cell? p = some u) : ∀ o, (w.alloc o).cell? p = some u := fun o => (World.cell?_alloc_lt w o p (World.block_lt_of_cell? w p h)).trans h
theorem alloc2 {w : World} {p : Addr} {u : Value} (h : w.cell? p = some u) : ∀ o o', ((w.alloc o).alloc o').cell? p = some u := fun o o' => alloc1 (alloc1 h o) o'
def Val.ok (x : Val) : Prop := -9223372036854775808 ≤ x.i ∧ x.i < 9223372036854775808
def okVals (l : List Val) : Prop := ∀ x ∈ l, x.ok
theorem ret_bool {a b : Bool} (h : a = b) : Ending.returned (.bool a) = .returned (.bool b) := by rw [h]
theorem ret_int {k : IntKind} {a b : Int} (h : a = b) : Ending.returned (.int k a) = .returned (.int k b) := by rw [h]
theorem list_of {α : Type} {p : Nat → α → Prop} : ∀ (n : Nat), (∀ i, i < n → ∃ x, p i x) → ∃ l : List α, l.length = n ∧ ∀ i (h : i < l.length), p i l[i]
  | 0, _ => ⟨[], rfl, fun i h => by simp at h⟩
  | n + 1, h => by
    obtain ⟨l, hl, hp⟩ := list_of n fun i hi => h i (by omega)
    obtain ⟨x, hx⟩ := h n (by omega)
    refine ⟨l ++ [x], by simp [hl], fun i hi => ?_⟩
    rcases Nat.lt_or_ge i l.length with h1 | h1
    · rw [List.getElem_append_left h1]; exact hp i h1
    · have : i = n := by simp at hi; omega
      subst this
      rw [List.getElem_append_right h1]
      simp [hl]
      exact hx
theorem Rd.of_vals {w : World} {a : Addr} {l : List Val} (h : ∀ i (hi : i < l.length), w.cell? (a.add (i * 3)) = some (.int .i64 (l[i]).k) ∧ w.cell? (a.add (i * 3 + 1)) = some (.int .i64 (l[i]).i) ∧ w.cell? (a.add (i * 3 + 2)) = some (.string (l[i]).s)) :
    Rd w 3 (some a) l.length (vcs l) := by
  refine ⟨vcs_length l, fun h0 => ?_⟩
  obtain ⟨b, off, spot⟩ := a
  have hspot : spot = none := by simpa [Addr.add] using World.cell?_spot (h 0 h0).1
  subst hspot
  refine ⟨b, off, rfl, fun j u hu => ?_⟩
  have hj : j < l.length * 3 := by rw [← vcs_length]; exact (List.getElem?_eq_some_iff.1 hu).1
  obtain ⟨g0, g1, g2⟩ := vcs_get l (j / 3) (by omega)
  obtain ⟨c0, c1, c2⟩ := h (j / 3) (by omega)
  rw [Addr.add_lit] at c0 c1 c2
  rcases (show j = j / 3 * 3 ∨ j = j / 3 * 3 + 1 ∨ j = j / 3 * 3 + 2 by omega) with e | e | e
  · rw [e, g0] at hu; rw [e, ← hu]; exact c0
  · rw [e, g1] at hu; rw [e, ← hu]; exact c1
  · rw [e, g2] at hu; rw [e, ← hu]; exact c2
theorem take_set_last {α : Type} (l : List α) (j : Nat) (h : j < l.length) (y : α) : (l.take (j + 1)).set j y = l.take j ++ [y] := by
  rw [List.take_succ_eq_append_getElem h, List.set_append_right _ _ (List.length_take_le _ _), List.length_take, Nat.min_eq_left (by omega)]
  simp
theorem drop_consU {α : Type} (l : List α) (k : Nat) (h : k < l.length) : l.drop k = l[k] :: l.drop (k + 1) := List.drop_eq_getElem_cons h
theorem three_get {α : Type} (l : List α) (f : α) (q : Nat) (h1 : l.length ≤ q) (h : q < (l ++ [f, f, f]).length) : (l ++ [f, f, f])[q] = f := by
  have h' : (l ++ [f, f, f])[q]? = some f := by
    rw [List.getElem?_append_right h1]
    have hq3 : q - l.length < 3 := by simp at h; omega
    match q - l.length, hq3 with
    | 0, _ => rfl
    | 1, _ => rfl
    | 2, _ => rfl
  rw [List.getElem?_eq_getElem h] at h'
  exact Option.some.inj h'
end Go.Proofs.YtnlhjhpikjmoaaaGreatDoor
