/- Contracts: the bytes of values. -/
import Derived.Test.YtnlhjhpikjmoaaaGreatDoorNum
namespace Go.Proofs.YtnlhjhpikjmoaaaGreatDoor
open Go.RowKit

theorem Tryz.infoU8 : (Tryz.prog.info? 5).map (fun i => (i.zero, i.size, i.bytes)) = some (some (.int .u8 0), 1, 1) := by kernel_rfl
/-- bytes that the call owns -/
def OwnB (base : Nat) (w : World) (A : Option Addr) (n c : Nat) (l : List UInt8) : Prop := w.ownsRow base 5 1 (.slice A n c) n (bs l)
theorem OwnB.nil_ (base : Nat) (w : World) : OwnB base w none 0 0 [] := World.ownsRow_nil _ _ _ _
theorem OwnB.alloc {base : Nat} {w : World} {A : Option Addr} {n c : Nat} {l : List UInt8} (h : OwnB base w A n c l) (o : Obj) : OwnB base (w.alloc o) A n c l := World.ownsRow.alloc h o
theorem OwnB.mono {base B : Nat} {w : World} {A : Option Addr} {n c : Nat} {l : List UInt8} (h : OwnB B w A n c l) (hb : base ≤ B) : OwnB base w A n c l := by
  refine ⟨h.1, ?_⟩
  rcases h.2 with h2 | ⟨g, cap, cur, hv, hg, r⟩
  · exact .inl h2
  · exact .inr ⟨g, cap, cur, hv, Nat.le_trans hb hg, r⟩
theorem OwnB.belowB {base : Nat} {w w' : World} {A : Option Addr} {n c : Nat} {l : List UInt8} (h : OwnB base w A n c l) (hb : Below w.heap.size w w') : OwnB base w' A n c l := by
  refine ⟨h.1, ?_⟩
  rcases h.2 with h2 | ⟨g, cap, cur, hv, hg, hh, r⟩
  · exact .inl h2
  · exact .inr ⟨g, cap, cur, hv, hg, (hb.block g (Array.getElem?_eq_some_iff.1 hh).1).trans hh, r⟩
theorem OwnB.len {base : Nat} {w : World} {A : Option Addr} {n c : Nat} {l : List UInt8} (h : OwnB base w A n c l) : l.length = n := by
  have := h.1; simpa using this
theorem OwnB.rd {base : Nat} {w : World} {A : Option Addr} {n c : Nat} {l : List UInt8} (h : OwnB base w A n c l) : Rd w 1 A n (bs l) := Rd.of_own h

/-- append(s, x...) of bytes -/
theorem wp_append_bytes {ops : Array Oper} {rest : List Oper} {o : Oper} {a : Act} {Q : Exit → Act → World → Prop} (hgd : o.guard = none) (s x : Operand)
    (ho : o.op = .call { callee := .builtin .append, args := #[s, x], argTypes := #[25, 25] })
    (base : Nat) (A0 : Option Addr) (n c0 : Nat) (l : List UInt8) (w : World) (hs : a.eval s = .slice A0 n c0) (hown : OwnB base w A0 n c0 l)
    (A : Option Addr) (m c : Nat) (l2 : List UInt8) (hx : a.eval x = .slice A m c) (hr : Rd w 1 A m (bs l2)) (hlen : n + m ≤ 140737488355328) (hbase : base ≤ w.heap.size)
    (h : ∀ A' c' w', OwnB base w' A' (n + m) c' (l ++ l2) → Below base w w' → wpList Tryz.prog ops Q rest (a.put o.dst (.slice A' (n + m) c')) w') : wpList Tryz.prog ops Q (o :: rest) a w := by
  obtain ⟨i0, hi0, hz0, hz1, hz2⟩ := info_parts Tryz.infoU8
  refine wpList_append_rd w hgd s x _ ho base 5 i0 _ 1 1 Tryz.underlying25 hi0 hz0 hz1 hz2 rfl (by omega) A0 n c0 (bs l) hs hown A m c (bs l2) hx hr (bs_one l2) (by unfold maxLen; omega) (by omega) hbase fun A' c' w' h2 h3 => h A' c' w' ?_ h3
  unfold OwnB
  rw [bs_append]
  exact h2

/-- append(s, b) of one byte -/
theorem wp_append_byte {ops : Array Oper} {rest : List Oper} {o : Oper} {a : Act} {Q : Exit → Act → World → Prop} (hgd : o.guard = none) (s x : Operand)
    (ho : o.op = .call { callee := .builtin .append, args := #[s, x], argTypes := #[25, 25] })
    (base : Nat) (A0 : Option Addr) (n c0 : Nat) (l : List UInt8) (w : World) (X : Int) (b : UInt8) (hX : X = (b.toNat : Int)) (hs : a.eval s = .slice A0 n c0) (hown : OwnB base w A0 n c0 l)
    (hx : a.eval x = .slice (some ⟨w.heap.size, 0, none⟩) 1 1) (hlen : n + 1 ≤ 140737488355328) (hbase : base ≤ w.heap.size)
    (h : ∀ A' c' w', OwnB base w' A' (n + 1) c' (l ++ [b]) → Below base w w' → wpList Tryz.prog ops Q rest (a.put o.dst (.slice A' (n + 1) c')) w') : wpList Tryz.prog ops Q (o :: rest) a (w.alloc (.cells #[.int .u8 X] 5)) := by
  subst hX
  refine wp_append_bytes hgd s x ho base A0 n c0 l _ hs (hown.alloc _) _ 1 1 [b] hx (Rd.new w _ 1 1 _ rfl) hlen (by simp; omega) fun A' c' w' h2 h3 => h A' c' w' h2 (((Below.refl _ _).alloc hbase _).trans h3)

theorem OwnB.cap {base : Nat} {w : World} {A : Option Addr} {n c : Nat} {l : List UInt8} (h : OwnB base w A n c l) : n ≤ c := by
  obtain ⟨A', c', hv, hc, _⟩ := own_slice w h
  simp only [Value.slice.injEq] at hv
  obtain ⟨_, _, rfl⟩ := hv
  exact hc
theorem own_first (w : World) (x : Int) (b : UInt8) (h : x = (b.toNat : Int)) (base : Nat) (hb : base ≤ w.heap.size) : OwnB base (w.alloc (.cells #[.int .u8 x] 5)) (some ⟨w.heap.size, 0, none⟩) 1 1 [b] := by
  have := World.ownsRow_lit (base := base) (e := 5) (size := 1) w #[.int .u8 x] 1 hb (by decide) rfl
  subst h
  simpa [OwnB, bs] using this

/-- What Enc answers: bytes and a code. -/
def encSpec (l : List Val) : List UInt8 × Int := if allRight l then (if 16 < l.length then ([], 10) else (encL l, 0)) else ([], 9)
def EncPost (l : List Val) (w : World) (e : Ending) (w' : World) : Prop := (∃ A n c, e = .returned (.tuple #[.slice A n c, .int .i64 (encSpec l).2]) ∧ OwnB w.heap.size w' A n c (encSpec l).1) ∧ Below w.heap.size w w'

theorem encL_length_le (l : List Val) (h : allRight l = true) : (encL l).length ≤ 43 * l.length := by
  induction l with
  | nil => simp [encL]
  | cons a l ih =>
    have h1 : rightB a.k a.i a.s = true ∧ allRight l = true := by simpa [allRight, Val.right] using h
    have h2 := ih h1.2
    have h3 := (encV_length a (by
      intro hk
      rcases right_cases h1.1 with ⟨h, _⟩ | ⟨h, _⟩ | ⟨_, _, hs⟩
      · omega
      · omega
      · exact hs)).2
    simp [encL] at h2 ⊢
    omega
theorem allRight_get (l : List Val) (h : allRight l = true) (k : Nat) (hk : k < l.length) : rightB (l[k]).k (l[k]).i (l[k]).s = true := by
  have := List.all_eq_true.1 h l[k] (List.getElem_mem hk)
  exact this
theorem allRight_take (l : List Val) (h : allRight l = true) (k : Nat) : allRight (l.take k) = true :=
  List.all_eq_true.2 fun x hx => List.all_eq_true.1 h x (List.mem_of_mem_take hx)

end Go.Proofs.YtnlhjhpikjmoaaaGreatDoor
