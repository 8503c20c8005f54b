/- Plain numbers: an integer's eight bytes.
Plain: the end of bytes, the order of texts. No program in sight.
Plain: the bytes of values stand in the values' order; what is written can be told apart. No program in sight.
Contracts of small functions: tuple.Right, armoireref03.Right, armoirelaw03.right, armoirehelp.Bytes. -/
import Derived.Test.YtnlhjhpikjmoaaaGreatDoorMem
import Derived.Laws.Bits64
import Derived.Laws.BitsAllLaws
import Derived.Test.YtnlhjhpikjmoaaaGreatDoorProg
namespace Go.Proofs.YtnlhjhpikjmoaaaGreatDoor

def be8 (u : Nat) : List UInt8 := [UInt8.ofNat (u / 72057594037927936), UInt8.ofNat (u / 281474976710656), UInt8.ofNat (u / 1099511627776), UInt8.ofNat (u / 4294967296), UInt8.ofNat (u / 16777216), UInt8.ofNat (u / 65536), UInt8.ofNat (u / 256), UInt8.ofNat u]
def flip63 (i : Int) : Nat := (i + 9223372036854775808).toNat
def intB (i : Int) : List UInt8 := be8 (flip63 i)
theorem be8_length (u : Nat) : (be8 u).length = 8 := rfl
theorem intB_length (i : Int) : (intB i).length = 8 := rfl

theorem xor_top (x : Nat) (hx : x < 2 ^ 64) : x ^^^ 2 ^ 63 = if x < 2 ^ 63 then x + 2 ^ 63 else x - 2 ^ 63 := by
  have hm : (x ^^^ 2 ^ 63) % 2 ^ 63 = x % 2 ^ 63 := by rw [Nat.xor_mod_two_pow]; simp
  have hd : (x ^^^ 2 ^ 63) / 2 ^ 63 = x / 2 ^ 63 ^^^ 1 := by rw [Nat.xor_div_two_pow]
  have hs := Nat.div_add_mod (x ^^^ 2 ^ 63) (2 ^ 63)
  rw [hm, hd] at hs
  by_cases h : x < 2 ^ 63
  · rw [if_pos h]
    rw [Nat.div_eq_of_lt h, Nat.mod_eq_of_lt h] at hs
    simp at hs ⊢
    omega
  · rw [if_neg h]
    have h1 : x / 2 ^ 63 = 1 := by omega
    have h2 : x % 2 ^ 63 = x - 2 ^ 63 := by omega
    rw [h1, h2] at hs
    simp at hs ⊢
    omega

theorem xor63 (i : Int) (h1 : -9223372036854775808 ≤ i) (h2 : i < 9223372036854775808) : bits .xor .u64 (IntKind.u64.wrap i) 9223372036854775808 = (flip63 i : Int) := by
  have e : IntKind.u64.wrap i = ((i % 18446744073709551616).toNat : Int) := by rw [IntKind.wrap_u64]; omega
  have hlt : (i % 18446744073709551616).toNat < 18446744073709551616 := by omega
  rw [e, show (9223372036854775808 : Int) = ((2 ^ 63 : Nat) : Int) from rfl, bits_xor_u64_nat _ _ hlt (by decide), xor_top _ hlt]
  unfold flip63
  by_cases h : (i % 18446744073709551616).toNat < 2 ^ 63
  · rw [if_pos h]; omega
  · rw [if_neg h]; omega

theorem flip63_lt (i : Int) (h1 : -9223372036854775808 ≤ i) (h2 : i < 9223372036854775808) : flip63 i < 18446744073709551616 := by unfold flip63; omega

theorem ofNat_toNat (x : Nat) : ((UInt8.ofNat x).toNat : Int) = (x : Int) % 256 := by simp

/-- byte number k of the eight -/
theorem be8_get (u k : Nat) (h : k < 8) : (be8 u)[k]? = some (UInt8.ofNat (u / 2 ^ (56 - 8 * k))) := by
  match k, h with
  | 0, _ => rfl
  | 1, _ => rfl
  | 2, _ => rfl
  | 3, _ => rfl
  | 4, _ => rfl
  | 5, _ => rfl
  | 6, _ => rfl
  | 7, _ => simp [be8]
theorem intB_byte (i : Int) (k : Nat) (h : k < 8) (h1 : -9223372036854775808 ≤ i) (h2 : i < 9223372036854775808) :
    bits .xor .u64 (IntKind.u64.wrap i) 9223372036854775808 / 2 ^ (56 - 8 * k) % 256 = (((intB i)[k]'h).toNat : Int) := by
  have e : (intB i)[k]'h = UInt8.ofNat (flip63 i / 2 ^ (56 - 8 * k)) := by
    have := be8_get (flip63 i) k h
    rw [List.getElem?_eq_some_iff] at this
    exact this.2
  rw [xor63 i h1 h2, e, ofNat_toNat]
  simp
/-- A text's bytes: a zero is 0 255. -/
def escB (b : UInt8) : List UInt8 := if b = 0 then [0, 255] else [b]
def textB (l : List UInt8) : List UInt8 := l.flatMap escB
theorem textB_nil : textB [] = [] := rfl
theorem textB_append (a b : List UInt8) : textB (a ++ b) = textB a ++ textB b := by simp [textB]
theorem textB_take_succ (l : List UInt8) (k : Nat) (h : k < l.length) : textB (l.take (k + 1)) = textB (l.take k) ++ escB l[k] := by
  rw [List.take_succ_eq_append_getElem h, textB_append]; simp [textB]
theorem escB_length (b : UInt8) : 1 ≤ (escB b).length ∧ (escB b).length ≤ 2 := by unfold escB; split <;> simp
theorem textB_length (l : List UInt8) : l.length ≤ (textB l).length ∧ (textB l).length ≤ 2 * l.length := by
  induction l with
  | nil => simp [textB]
  | cons a l ih => have := escB_length a; simp [textB] at ih ⊢; omega
/-- A value's bytes. -/
def encV (x : Val) : List UInt8 := if x.k = 1 then 2 :: intB x.i else if x.k = 2 then 3 :: (textB x.s.data.toList ++ [0, 1]) else [1]
def encL (l : List Val) : List UInt8 := l.flatMap encV
theorem encL_take_succ (l : List Val) (k : Nat) (h : k < l.length) : encL (l.take (k + 1)) = encL (l.take k) ++ encV l[k] := by
  unfold encL; rw [List.take_succ_eq_append_getElem h, List.flatMap_append]; simp only [List.flatMap_cons, List.flatMap_nil, List.append_nil]
theorem encV_length (x : Val) (h : x.k = 2 → x.s.size ≤ 20) : 1 ≤ (encV x).length ∧ (encV x).length ≤ 43 := by
  unfold encV
  split
  · simp [intB_length]
  · split
    · rename_i h2
      have h1 := h h2
      have h3 := (textB_length x.s.data.toList).2
      have h4 : x.s.data.toList.length = x.s.size := rfl
      simp; omega
    · simp
end Go.Proofs.YtnlhjhpikjmoaaaGreatDoor

namespace Go.Proofs.YtnlhjhpikjmoaaaGreatDoor

/-- The least bytes greater than all that begin with l. -/
def endAt (l : List UInt8) : Nat → List UInt8
  | 0 => []
  | n + 1 => if l.getD n 0 = 255 then endAt l n else l.take n ++ [l.getD n 0 + 1]
def endB (l : List UInt8) : List UInt8 := endAt l l.length


theorem endAt_spec (l : List UInt8) : ∀ n, n ≤ l.length → (endAt l n = [] ∧ ∃ r, l = List.replicate n 255 ++ r) ∨ ∃ p x m r, x ≠ 255 ∧ l = p ++ x :: (List.replicate m 255 ++ r) ∧ p.length + 1 + m = n ∧ endAt l n = p ++ [x + 1]
  | 0, _ => .inl ⟨rfl, l, rfl⟩
  | n + 1, h => by
    have hg : l.getD n 0 = l[n]'(by omega) := by simp [List.getD, show n < l.length by omega]
    by_cases h255 : l.getD n 0 = 255
    · have e : endAt l (n + 1) = endAt l n := by rw [endAt, if_pos h255]
      have hn : l[n]'(by omega) = 255 := by rw [← hg]; exact h255
      rcases endAt_spec l n (by omega) with ⟨h1, r, h2⟩ | ⟨p, x, m, r, h1, h2, h3, h4⟩
      · refine .inl ⟨by rw [e]; exact h1, ?_⟩
        match r, h2 with
        | [], h2 => rw [h2] at h; simp at h; omega
        | y :: r, h2 =>
          refine ⟨r, ?_⟩
          have hy : y = 255 := by
            have : l[n]'(by omega) = y := by simp [h2]
            rw [← this, hn]
          rw [h2, hy, List.replicate_succ', List.append_assoc]
          rfl
      · refine .inr ?_
        match r, h2 with
        | [], h2 =>
          have := congrArg List.length h2
          simp at this
          omega
        | y :: r, h2 =>
          have hy : y = 255 := by
            have h5 : l[n]? = some y := by
              rw [h2, List.getElem?_append_right (by omega), show n - p.length = m + 1 by omega, List.getElem?_cons_succ, List.getElem?_append_right (by simp)]
              simp
            rw [List.getElem?_eq_getElem (by omega), hn] at h5
            exact (Option.some.inj h5).symm
          refine ⟨p, x, m + 1, r, h1, ?_, by omega, by rw [e]; exact h4⟩
          rw [h2, hy, List.replicate_succ', List.append_assoc]
          rfl
    · refine .inr ⟨l.take n, l.getD n 0, 0, l.drop (n + 1), h255, ?_, by simp; omega, by rw [endAt, if_neg h255]⟩
      rw [hg]
      simp
theorem endB_cases (l : List UInt8) : (endB l = [] ∧ l = List.replicate l.length 255) ∨ ∃ p x m, x ≠ 255 ∧ l = p ++ x :: List.replicate m 255 ∧ endB l = p ++ [x + 1] := by
  rcases endAt_spec l l.length (Nat.le_refl _) with ⟨h1, r, h2⟩ | ⟨p, x, m, r, h1, h2, h3, h4⟩
  · have hr : r = [] := by
      have := congrArg List.length h2
      simp at this
      exact this
    subst hr
    exact .inl ⟨h1, by simpa using h2⟩
  · have hr : r = [] := by
      have := congrArg List.length h2
      simp at this
      exact List.eq_nil_of_length_eq_zero (by omega)
    subst hr
    exact .inr ⟨p, x, m, h1, by simpa using h2, h4⟩

theorem bl_nil_r (a : List UInt8) : Op.bytesLess a [] = false := by cases a <;> rfl
theorem bl_nil_l (b : UInt8) (y : List UInt8) : Op.bytesLess [] (b :: y) = true := rfl
theorem bl_cons (a b : UInt8) (x y : List UInt8) : Op.bytesLess (a :: x) (b :: y) = (a < b || (a == b && Op.bytesLess x y)) := rfl
theorem bl_pre (p a b : List UInt8) : Op.bytesLess (p ++ a) (p ++ b) = Op.bytesLess a b := by
  induction p with
  | nil => rfl
  | cons x p ih => rw [List.cons_append, List.cons_append, bl_cons, ih]; simp
theorem bl_irrefl (a : List UInt8) : Op.bytesLess a a = false := by
  induction a with
  | nil => rfl
  | cons x a ih => rw [bl_cons, ih]; simp
theorem bl_asymm : ∀ (a b : List UInt8), Op.bytesLess a b = true → Op.bytesLess b a = false
  | [], [], h => by simp [Op.bytesLess] at h
  | [], _ :: _, _ => bl_nil_r _
  | _ :: _, [], h => by rw [bl_nil_r] at h; cases h
  | x :: a, y :: b, h => by
    rw [bl_cons] at h ⊢
    simp only [Bool.or_eq_true, decide_eq_true_eq, Bool.and_eq_true, beq_iff_eq] at h
    rcases h with h | ⟨rfl, h⟩
    · have h1 : ¬ y < x := fun h' => by rw [UInt8.lt_iff_toNat_lt] at h h'; omega
      have h2 : y ≠ x := fun h' => by subst h'; rw [UInt8.lt_iff_toNat_lt] at h; omega
      simp [h1, h2]
    · rw [bl_asymm a b h]; simp
theorem bl_total : ∀ (a b : List UInt8), a ≠ b → Op.bytesLess a b = !(Op.bytesLess b a)
  | [], [], h => absurd rfl h
  | [], _ :: _, _ => rfl
  | _ :: _, [], _ => rfl
  | x :: a, y :: b, h => by
    rw [bl_cons, bl_cons]
    by_cases hxy : x = y
    · subst hxy
      have hne : a ≠ b := fun e => h (by rw [e])
      rw [bl_total a b hne]; simp
    · have hxy' : y ≠ x := fun e => hxy e.symm
      by_cases hlt : x < y
      · have : ¬ y < x := fun h' => by rw [UInt8.lt_iff_toNat_lt] at hlt h'; omega
        simp [hlt, this, hxy, hxy']
      · have : y < x := by
          rw [UInt8.lt_iff_toNat_lt] at hlt ⊢
          have : x.toNat ≠ y.toNat := fun h' => hxy (UInt8.toNat_inj.1 h')
          omega
        simp [hlt, this, hxy, hxy']
theorem u8_lt_succ (x : UInt8) (h : x ≠ 255) : x < x + 1 := by
  have h1 : x.toNat ≠ 255 := fun h' => h (UInt8.toNat_inj.1 h')
  have h2 := x.toNat_lt
  rw [UInt8.lt_iff_toNat_lt, UInt8.toNat_add]
  simp
  omega
theorem u8_not_lt_succ (x y : UInt8) (h : x ≠ 255) (hlt : x < y) : ¬ y < x + 1 := by
  have h1 : x.toNat ≠ 255 := fun h' => h (UInt8.toNat_inj.1 h')
  have h2 := x.toNat_lt
  have h3 := y.toNat_lt
  rw [UInt8.lt_iff_toNat_lt] at hlt ⊢
  rw [UInt8.toNat_add]
  simp
  omega

/-- what begins with l is less than its end -/
theorem end_above (l more : List UInt8) (h : endB l ≠ []) : Op.bytesLess (l ++ more) (endB l) = true := by
  rcases endB_cases l with ⟨h1, _⟩ | ⟨p, x, m, hx, hl, he⟩
  · exact absurd h1 h
  · rw [he, hl, List.append_assoc, bl_pre, List.cons_append, bl_cons]
    simp [u8_lt_succ x hx]
/-- Begins -/
def beginsB (l p : List UInt8) : Bool := decide (p.length ≤ l.length) && l.take p.length == p
theorem begins_cons (a b : UInt8) (x y : List UInt8) : beginsB (a :: x) (b :: y) = (a == b && beginsB x y) := by
  unfold beginsB
  by_cases h : y.length ≤ x.length <;> by_cases hab : a = b <;> simp [h, hab, List.take_succ_cons]
theorem begins_iff (l p : List UInt8) : beginsB l p = true ↔ ∃ r, l = p ++ r := by
  unfold beginsB
  simp only [Bool.and_eq_true, decide_eq_true_eq, beq_iff_eq]
  constructor
  · rintro ⟨_, h⟩
    exact ⟨l.drop p.length, by conv => lhs; rw [← List.take_append_drop p.length l, h]⟩
  · rintro ⟨r, rfl⟩
    simp
theorem begins_nil (x : List UInt8) : beginsB x [] = true := by simp [beginsB]
theorem less_replicate : ∀ (m : Nat) (ys : List UInt8), beginsB ys (List.replicate m 255) = true ∨ Op.bytesLess ys (List.replicate m 255) = true
  | 0, ys => .inl (begins_nil ys)
  | m + 1, [] => .inr rfl
  | m + 1, y :: ys => by
    rw [List.replicate_succ, begins_cons, bl_cons]
    by_cases hy : y = 255
    · subst hy
      simpa using less_replicate m ys
    · right
      have h1 : y.toNat ≠ 255 := fun h' => hy (UInt8.toNat_inj.1 h')
      have h2 := y.toNat_lt
      have : y < 255 := by rw [UInt8.lt_iff_toNat_lt]; simp; omega
      simp [this]
theorem end_least (l other : List UInt8) (h : endB l ≠ []) : beginsB other l = true ∨ Op.bytesLess other l = true ∨ Op.bytesLess other (endB l) = false := by
  rcases endB_cases l with ⟨h1, _⟩ | ⟨p, x, m, hx, hl, he⟩
  · exact absurd h1 h
  · rw [he]
    clear he h
    subst hl
    induction p generalizing other with
    | nil =>
      cases other with
      | nil => exact .inr (.inl rfl)
      | cons y ys =>
        simp only [List.nil_append]
        rw [begins_cons, bl_cons, bl_cons, bl_nil_r]
        by_cases hy : y = x
        · subst hy
          have := less_replicate m ys
          simp
          rcases this with h | h <;> simp [h]
        · by_cases hlt : y < x
          · simp [hlt]
          · have hgt : x < y := by
              rw [UInt8.lt_iff_toNat_lt] at hlt ⊢
              have : y.toNat ≠ x.toNat := fun h' => hy (UInt8.toNat_inj.1 h')
              omega
            simp [u8_not_lt_succ x y hx hgt]
    | cons z p ih =>
      cases other with
      | nil => exact .inr (.inl rfl)
      | cons y ys =>
        simp only [List.cons_append]
        rw [begins_cons, bl_cons, bl_cons]
        by_cases hy : y = z
        · subst hy
          simpa using ih ys
        · by_cases hlt : y < z
          · simp [hlt]
          · simp [hlt, hy]
end Go.Proofs.YtnlhjhpikjmoaaaGreatDoor

namespace Go.Proofs.YtnlhjhpikjmoaaaGreatDoor

def rightB (k i : Int) (s : ByteArray) : Bool :=
  if k == 0 then i == 0 && s.toList.isEmpty
  else if k == 1 then s.toList.isEmpty
  else if k == 2 then i == 0 && decide ((s.size : Int) ≤ 20)
  else false
def Val.right (x : Val) : Bool := rightB x.k x.i x.s
def allRight (l : List Val) : Bool := l.all Val.right
theorem right_cases {k i : Int} {s : ByteArray} (h : rightB k i s = true) : (k = 0 ∧ i = 0 ∧ s.data.toList = []) ∨ (k = 1 ∧ s.data.toList = []) ∨ (k = 2 ∧ i = 0 ∧ s.size ≤ 20) := by
  unfold rightB at h
  rw [ByteArray.toList_eq] at h
  by_cases h0 : k = 0
  · subst h0; simp at h; exact .inl ⟨rfl, h.1, by simpa using h.2⟩
  · by_cases h1 : k = 1
    · subst h1; simp at h; exact .inr (.inl ⟨rfl, by simpa using h⟩)
    · by_cases h2 : k = 2
      · subst h2; simp at h; exact .inr (.inr ⟨rfl, h.1, by omega⟩)
      · simp [h0, h1, h2] at h
theorem toList_inj {s t : ByteArray} (h : s.toList = t.toList) : s = t := by rw [ByteArray.toList_eq, ByteArray.toList_eq] at h; exact ByteArray.ext (Array.toList_inj.1 h)
theorem ba_ext {s t : ByteArray} (h : s.data.toList = t.data.toList) : s = t := ByteArray.ext (Array.toList_inj.1 h)

/-! ### numbers -/
def beN : Nat → Nat → List UInt8
  | 0, _ => []
  | n + 1, u => UInt8.ofNat (u / 256 ^ n) :: beN n (u % 256 ^ n)
theorem ofNat_mod (x : Nat) : UInt8.ofNat (x % 256) = UInt8.ofNat x := by
  apply UInt8.toNat_inj.1; simp
theorem be8_eq (u : Nat) : be8 u = beN 8 u := by
  simp only [be8, beN]
  have e : ∀ a b : Nat, a % 256 = b % 256 → UInt8.ofNat a = UInt8.ofNat b := fun a b h => by rw [← ofNat_mod a, h, ofNat_mod]
  congr 1
  congr 1
  · exact e _ _ (by omega)
  congr 1
  · exact e _ _ (by omega)
  congr 1
  · exact e _ _ (by omega)
  congr 1
  · exact e _ _ (by omega)
  congr 1
  · exact e _ _ (by omega)
  congr 1
  · exact e _ _ (by omega)
  congr 1
  · exact e _ _ (by omega)
theorem toNat_ofNat_lt (x : Nat) (h : x < 256) : (UInt8.ofNat x).toNat = x := by simp; omega
theorem beN_less : ∀ (n u v : Nat), u < 256 ^ n → v < 256 ^ n → u < v → ∀ r r', Op.bytesLess (beN n u ++ r) (beN n v ++ r') = true
  | 0, u, v, hu, hv, h, _, _ => by simp at hu hv; omega
  | n + 1, u, v, hu, hv, h, r, r' => by
    simp only [beN, List.cons_append]
    rw [bl_cons]
    have hp : 0 < 256 ^ n := Nat.pow_pos (by omega)
    have hu1 : u / 256 ^ n < 256 := by rw [Nat.div_lt_iff_lt_mul hp]; rw [Nat.pow_succ, Nat.mul_comm] at hu; exact hu
    have hv1 : v / 256 ^ n < 256 := by rw [Nat.div_lt_iff_lt_mul hp]; rw [Nat.pow_succ, Nat.mul_comm] at hv; exact hv
    have hle : u / 256 ^ n ≤ v / 256 ^ n := Nat.div_le_div_right (by omega)
    rcases Nat.lt_or_eq_of_le hle with hlt | heq
    · have : UInt8.ofNat (u / 256 ^ n) < UInt8.ofNat (v / 256 ^ n) := by
        rw [UInt8.lt_iff_toNat_lt, toNat_ofNat_lt _ hu1, toNat_ofNat_lt _ hv1]; exact hlt
      simp [this]
    · rw [heq]
      have hm : u % 256 ^ n < v % 256 ^ n := by
        have h1 := Nat.div_add_mod u (256 ^ n)
        have h2 := Nat.div_add_mod v (256 ^ n)
        rw [heq] at h1
        omega
      have := beN_less n (u % 256 ^ n) (v % 256 ^ n) (Nat.mod_lt _ hp) (Nat.mod_lt _ hp) hm r r'
      simp [this]
theorem intB_less (i j : Int) (h1 : -9223372036854775808 ≤ i) (h2 : i < 9223372036854775808) (h3 : -9223372036854775808 ≤ j) (h4 : j < 9223372036854775808) (h : i < j) (r r' : List UInt8) :
    Op.bytesLess (intB i ++ r) (intB j ++ r') = true := by
  unfold intB
  rw [be8_eq, be8_eq]
  refine beN_less 8 _ _ ?_ ?_ ?_ r r' <;> unfold flip63 <;> simp <;> omega

/-! ### texts -/
theorem textB_less : ∀ (s t r r' : List UInt8), s ≠ t → Op.bytesLess (textB s ++ [0, 1] ++ r) (textB t ++ [0, 1] ++ r') = Op.bytesLess s t
  | [], [], _, _, h => absurd rfl h
  | [], c :: t, r, r', _ => by
    rw [bl_nil_l]
    by_cases hc : c = 0
    · subst hc; simp [textB, escB, bl_cons]
    · have : (0 : UInt8) < c := by
        rw [UInt8.lt_iff_toNat_lt]
        have : c.toNat ≠ 0 := fun h => hc (UInt8.toNat_inj.1 h)
        simp; omega
      simp [textB, escB, hc, bl_cons, this]
  | b :: s, [], r, r', _ => by
    rw [bl_nil_r]
    by_cases hb : b = 0
    · subst hb; simp [textB, escB, bl_cons]
    · have : ¬ b < 0 := by rw [UInt8.lt_iff_toNat_lt]; simp
      simp [textB, escB, hb, bl_cons]
  | b :: s, c :: t, r, r', h => by
    have e1 : ∀ x y, textB (x :: y) = escB x ++ textB y := fun _ _ => rfl
    rw [bl_cons, e1, e1]
    by_cases hbc : b = c
    · subst hbc
      have hne : s ≠ t := fun h' => h (by rw [h'])
      rw [List.append_assoc, List.append_assoc, List.append_assoc, List.append_assoc, bl_pre, ← List.append_assoc, ← List.append_assoc, textB_less s t r r' hne]
      simp
    · have hbc' : (b == c) = false := by simpa using hbc
      rw [hbc']
      by_cases hb : b = 0
      · subst hb
        have hc : c ≠ 0 := fun h' => hbc h'.symm
        have : (0 : UInt8) < c := by
          rw [UInt8.lt_iff_toNat_lt]
          have : c.toNat ≠ 0 := fun h => hc (UInt8.toNat_inj.1 h)
          simp; omega
        simp [escB, hc, bl_cons, this]
      · by_cases hc : c = 0
        · subst hc
          simp [escB, hb, bl_cons]
        · simp [escB, hb, hc, bl_cons, hbc]

/-! ### values -/
/-- less, of right values -/
def vless (x y : Val) : Bool := decide (x.k < y.k) || (decide (x.k = y.k) && ((decide (x.k = 1) && decide (x.i < y.i)) || (decide (x.k = 2) && Op.bytesLess x.s.toList y.s.toList)))

theorem encV_less (x y : Val) (hx : x.right = true) (hy : y.right = true) (ox : x.ok) (oy : y.ok) (hne : x ≠ y) (r r' : List UInt8) : Op.bytesLess (encV x ++ r) (encV y ++ r') = vless x y := by
  obtain ⟨k, i, s⟩ := x
  obtain ⟨k', i', s'⟩ := y
  unfold Val.ok at ox oy
  simp only at ox oy
  rcases right_cases hx with ⟨rfl, rfl, hs⟩ | ⟨rfl, hs⟩ | ⟨rfl, rfl, hs⟩ <;> rcases right_cases hy with ⟨rfl, rfl, hs'⟩ | ⟨rfl, hs'⟩ | ⟨rfl, rfl, hs'⟩
  · have es : s = s' := ba_ext (hs.trans hs'.symm)
    exact absurd (by rw [es]) hne
  · simp [encV, vless, bl_cons]
  · simp [encV, vless, bl_cons]
  · simp [encV, vless, bl_cons]
  · have hi : i ≠ i' := fun h => hne (by have es : s = s' := ba_ext (hs.trans hs'.symm); rw [h, es])
    have e : vless ⟨1, i, s⟩ ⟨1, i', s'⟩ = decide (i < i') := by simp [vless]
    rw [e]
    have e2 : Op.bytesLess (encV ⟨1, i, s⟩ ++ r) (encV ⟨1, i', s'⟩ ++ r') = Op.bytesLess (intB i ++ r) (intB i' ++ r') := by simp [encV, bl_cons]
    rw [e2]
    by_cases hlt : i < i'
    · rw [intB_less i i' ox.1 ox.2 oy.1 oy.2 hlt, decide_eq_true hlt]
    · have hgt : i' < i := by omega
      rw [decide_eq_false hlt]
      have := intB_less i' i oy.1 oy.2 ox.1 ox.2 hgt r' r
      exact bl_asymm _ _ this
  · simp [encV, vless, bl_cons]
  · simp [encV, vless, bl_cons]
  · simp [encV, vless, bl_cons]
  · have hst : s.data.toList ≠ s'.data.toList := fun h => hne (by rw [ba_ext h])
    have e : vless ⟨2, 0, s⟩ ⟨2, 0, s'⟩ = Op.bytesLess s.data.toList s'.data.toList := by simp [vless, ByteArray.toList_eq]
    rw [e, ← textB_less _ _ r r' hst]
    simp [encV, bl_cons]

theorem vless_total (x y : Val) (hx : x.right = true) (hy : y.right = true) (hne : x ≠ y) : vless x y = !(vless y x) := by
  obtain ⟨k, i, s⟩ := x
  obtain ⟨k', i', s'⟩ := y
  rcases right_cases hx with ⟨rfl, rfl, hs⟩ | ⟨rfl, hs⟩ | ⟨rfl, rfl, hs⟩ <;> rcases right_cases hy with ⟨rfl, rfl, hs'⟩ | ⟨rfl, hs'⟩ | ⟨rfl, rfl, hs'⟩
  · have es : s = s' := ba_ext (hs.trans hs'.symm)
    exact absurd (by rw [es]) hne
  · simp [vless]
  · simp [vless]
  · simp [vless]
  · have hi : i ≠ i' := fun h => hne (by have es : s = s' := ba_ext (hs.trans hs'.symm); rw [h, es])
    by_cases h : i < i'
    · have h2 : ¬ i' < i := by omega
      simp [vless, h, h2]
    · have h2 : i' < i := by omega
      simp [vless, h, h2]
  · simp [vless]
  · simp [vless]
  · simp [vless]
  · have hst : s.data.toList ≠ s'.data.toList := fun h => hne (by rw [ba_ext h])
    simp [vless, ByteArray.toList_eq]
    exact bl_total _ _ hst

/-- order of two lists -/
def cmpL : List Val → List Val → Int
  | [], [] => 0
  | [], _ :: _ => -1
  | _ :: _, [] => 1
  | x :: a, y :: b => if x = y then cmpL a b else if vless x y then -1 else 1

theorem encV_cons (x : Val) (hx : x.right = true) : ∃ b r, encV x = b :: r ∧ b ≠ 255 := by
  rcases right_cases hx with ⟨h, _⟩ | ⟨h, _⟩ | ⟨h, _⟩
  · exact ⟨1, [], by simp [encV, h], by decide⟩
  · exact ⟨2, _, by simp [encV, h]; rfl, by decide⟩
  · exact ⟨3, _, by simp [encV, h]; rfl, by decide⟩
theorem allRight_cons (x : Val) (a : List Val) : allRight (x :: a) = true ↔ x.right = true ∧ allRight a = true := by simp [allRight]
theorem okVals_cons (x : Val) (a : List Val) : okVals (x :: a) ↔ x.ok ∧ okVals a := by simp [okVals]
theorem encL_cons (x : Val) (a : List Val) : encL (x :: a) = encV x ++ encL a := rfl

theorem encL_less : ∀ (a b : List Val), allRight a = true → allRight b = true → okVals a → okVals b → Op.bytesLess (encL a) (encL b) = decide (cmpL a b = -1) ∧ (cmpL a b = 0 ↔ a = b) ∧ cmpL b a = - cmpL a b
  | [], [], _, _, _, _ => ⟨rfl, by simp [cmpL], rfl⟩
  | [], y :: b, _, hb, _, _ => by
    obtain ⟨c, r, he, _⟩ := encV_cons y ((allRight_cons y b).1 hb).1
    refine ⟨?_, by simp [cmpL], rfl⟩
    rw [encL_cons, he]; rfl
  | x :: a, [], ha, _, _, _ => by
    obtain ⟨c, r, he, _⟩ := encV_cons x ((allRight_cons x a).1 ha).1
    refine ⟨?_, by simp [cmpL], rfl⟩
    rw [encL_cons, he]; rfl
  | x :: a, y :: b, ha, hb, oa, ob => by
    obtain ⟨hx, ha'⟩ := (allRight_cons x a).1 ha
    obtain ⟨hy, hb'⟩ := (allRight_cons y b).1 hb
    obtain ⟨ox, oa'⟩ := (okVals_cons x a).1 oa
    obtain ⟨oy, ob'⟩ := (okVals_cons y b).1 ob
    rw [encL_cons, encL_cons]
    by_cases h : x = y
    · subst h
      obtain ⟨h1, h2, h3⟩ := encL_less a b ha' hb' oa' ob'
      rw [bl_pre]
      have e1 : cmpL (x :: a) (x :: b) = cmpL a b := by simp [cmpL]
      have e2 : cmpL (x :: b) (x :: a) = cmpL b a := by simp [cmpL]
      rw [e1, e2]
      exact ⟨h1, by rw [h2]; simp, h3⟩
    · rw [encV_less x y hx hy ox oy h]
      have h' : ¬ y = x := fun e => h e.symm
      have hv := vless_total x y hx hy h
      have e1 : cmpL (x :: a) (y :: b) = if vless x y then -1 else 1 := by simp [cmpL, h]
      have e2 : cmpL (y :: b) (x :: a) = if vless y x then -1 else 1 := by simp [cmpL, h']
      rw [e1, e2, hv]
      cases vless y x <;> simp [h]

/-- What is written can be told apart: no value's bytes begin another's. -/
theorem encV_apart (x y : Val) (hx : x.right = true) (hy : y.right = true) (ox : x.ok) (oy : y.ok) (r r' : List UInt8) (h : encV x ++ r = encV y ++ r') : x = y ∧ r = r' := by
  by_cases he : x = y
  · subst he
    exact ⟨rfl, List.append_cancel_left h⟩
  · have h1 := encV_less x y hx hy ox oy he r r'
    have h2 := encV_less y x hy hx oy ox (fun e => he e.symm) r' r
    rw [h, bl_irrefl] at h1
    rw [← h, bl_irrefl] at h2
    have := vless_total x y hx hy he
    rw [← h1, ← h2] at this
    cases this
theorem encL_begins : ∀ (a o : List Val), allRight a = true → allRight o = true → okVals a → okVals o → (beginsB (encL o) (encL a) = true ↔ o.take a.length = a)
  | [], o, _, _, _, _ => by
    have : encL ([] : List Val) = [] := rfl
    rw [this, begins_nil]; simp
  | x :: a, [], ha, _, _, _ => by
    obtain ⟨c, r, he, _⟩ := encV_cons x ((allRight_cons x a).1 ha).1
    rw [encL_cons, he]
    simp [encL, beginsB]
  | x :: a, y :: o, ha, ho, oa, oo => by
    obtain ⟨hx, ha'⟩ := (allRight_cons x a).1 ha
    obtain ⟨hy, ho'⟩ := (allRight_cons y o).1 ho
    obtain ⟨ox, oa'⟩ := (okVals_cons x a).1 oa
    obtain ⟨oy, oo'⟩ := (okVals_cons y o).1 oo
    have ih := encL_begins a o ha' ho' oa' oo'
    rw [encL_cons, encL_cons, List.length_cons, List.take_succ_cons]
    constructor
    · intro h
      obtain ⟨r, hr⟩ := (begins_iff _ _).1 h
      rw [List.append_assoc] at hr
      obtain ⟨rfl, h2⟩ := encV_apart y x hy hx oy ox _ _ hr
      rw [ih.1 ((begins_iff _ _).2 ⟨r, h2⟩)]
    · intro h
      simp only [List.cons.injEq] at h
      obtain ⟨rfl, h2⟩ := h
      obtain ⟨r, hr⟩ := (begins_iff _ _).1 (ih.2 h2)
      exact (begins_iff _ _).2 ⟨r, by rw [hr, List.append_assoc]⟩
theorem encL_endB (a : List Val) (ha : allRight a = true) (h : a ≠ []) : endB (encL a) ≠ [] := by
  cases a with
  | nil => exact absurd rfl h
  | cons x a =>
    obtain ⟨c, r, he, hc⟩ := encV_cons x ((allRight_cons x a).1 ha).1
    rcases endB_cases (encL (x :: a)) with ⟨_, h2⟩ | ⟨p, y, m, _, _, h3⟩
    · rw [encL_cons, he] at h2
      simp [List.replicate_succ] at h2
      exact absurd h2.1 hc
    · rw [h3]; simp
/-- between the bytes and their end stands just what begins with them -/
theorem between_iff (z x : List UInt8) (h : endB x ≠ []) : (!(Op.bytesLess z x) && Op.bytesLess z (endB x)) = beginsB z x := by
  cases hB : beginsB z x
  · rcases end_least x z h with h1 | h1 | h1
    · rw [hB] at h1; cases h1
    · rw [h1]; rfl
    · rw [h1]; simp
  · obtain ⟨r, rfl⟩ := (begins_iff _ _).1 hB
    rw [end_above x r h]
    have : Op.bytesLess (x ++ r) x = false := by
      have := bl_pre x r []
      rw [List.append_nil, bl_nil_r] at this
      exact this
    rw [this]; rfl
end Go.Proofs.YtnlhjhpikjmoaaaGreatDoor

namespace Go.Proofs.YtnlhjhpikjmoaaaGreatDoor
open Go.RowKit

theorem allRight_take_succ (l : List Val) (k : Nat) (h : k < l.length) : allRight (l.take (k + 1)) = (allRight (l.take k) && rightB (l[k]).k (l[k]).i (l[k]).s) := by
  unfold allRight
  rw [List.take_succ_eq_append_getElem h, List.all_append]
  simp [Val.right]
theorem allRight_false (l : List Val) (k : Nat) (h : k < l.length) (hr : rightB (l[k]).k (l[k]).i (l[k]).s = false) : allRight l = false := by
  unfold allRight
  rw [List.all_eq_false]
  exact ⟨l[k], List.getElem_mem h, by simp [Val.right, hr]⟩

set_option maxHeartbeats 400000 in
theorem bytes_any (A1 A2 : Option Addr) (n1 c1 n2 c2 : Nat) (l1 l2 : List UInt8) (w : World) (h1 : Rd w 1 A1 n1 (bs l1)) (h2 : Rd w 1 A2 n2 (bs l2)) :
    Calls Tryz.prog 28 #[.slice A1 n1 c1, .slice A2 n2 c2] w fun e w' => e = .returned (.bool (l1 == l2)) ∧ w = w' := by
  have e1 := run_str (c := c1) (P := Tryz.prog) 25 9 5 Tryz.underlying25 Tryz.underlying5 Tryz.underlying9 h1
  have e2 := run_str (c := c2) (P := Tryz.prog) 25 9 5 Tryz.underlying25 Tryz.underlying5 Tryz.underlying9 h2
  go_enter Tryz.func28, Tryz.ntmps28
  go_wp2
  go_ret
  exact ⟨ret_bool (by rw [str_toList, str_toList]), rfl⟩

theorem bytes_same (A1 A2 : Option Addr) (n1 c1 n2 c2 : Nat) (l : List UInt8) (w : World) (h1 : Rd w 1 A1 n1 (bs l)) (h2 : Rd w 1 A2 n2 (bs l)) :
    Calls Tryz.prog 28 #[.slice A1 n1 c1, .slice A2 n2 c2] w fun e w' => e = .returned (.bool true) ∧ w = w' :=
  (bytes_any A1 A2 n1 c1 n2 c2 l l w h1 h2).mono fun e w' ⟨he, hw⟩ => ⟨by rw [he, beq_self_eq_true], hw⟩

def FoundB (b : Bool) (w : World) (e : Ending) (w' : World) : Prop := (∃ q : Int, e = .returned (.int .i64 q) ∧ decide (0 ≤ q) = b) ∧ Below w.heap.size w w'

def markI (k : Int) : Int := if k = 2 then 3 else if k = 1 then 2 else 1
end Go.Proofs.YtnlhjhpikjmoaaaGreatDoor
