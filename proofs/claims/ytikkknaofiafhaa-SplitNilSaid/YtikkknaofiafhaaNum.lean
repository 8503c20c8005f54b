/- Plain numbers: an integer's eight bytes. -/
import Derived.Test.YtikkknaofiafhaaMem
import Derived.Laws.Bits64
import Derived.Laws.BitsAllLaws
namespace Go.Proofs.Ytikkknaofiafhaa

def be8 (u : Nat) : List UInt8 := [UInt8.ofNat (u / 72057594037927936), UInt8.ofNat (u / 281474976710656), UInt8.ofNat (u / 1099511627776), UInt8.ofNat (u / 4294967296), UInt8.ofNat (u / 16777216), UInt8.ofNat (u / 65536), UInt8.ofNat (u / 256), UInt8.ofNat u]
def flip63 (i : Int) : Nat := (i + 9223372036854775808).toNat
def intB (i : Int) : List UInt8 := be8 (flip63 i)
theorem be8_length (u : Nat) : (be8 u).length = 8 := rfl
theorem intB_length (i : Int) : (intB i).length = 8 := rfl

theorem xor_top (x : Nat) (hx : x < 2 ^ 64) : x ^^^ 2 ^ 63 = if x < 2 ^ 63 then x + 2 ^ 63 else x - 2 ^ 63 := by
  have hm : (x ^^^ 2 ^ 63) % 2 ^ 63 = x % 2 ^ 63 := by rw [Nat.xor_mod_two_pow]; simp
  have hd : (x ^^^ 2 ^ 63) / 2 ^ 63 = x / 2 ^ 63 ^^^ 1 := by rw [Nat.xor_div_two_pow]
  have hs := Nat.div_add_mod (x ^^^ 2 ^ 63) (2 ^ 63)
  rw [hm, hd] at hs
  by_cases h : x < 2 ^ 63
  · rw [if_pos h]
    rw [Nat.div_eq_of_lt h, Nat.mod_eq_of_lt h] at hs
    simp at hs ⊢
    omega
  · rw [if_neg h]
    have h1 : x / 2 ^ 63 = 1 := by omega
    have h2 : x % 2 ^ 63 = x - 2 ^ 63 := by omega
    rw [h1, h2] at hs
    simp at hs ⊢
    omega

theorem xor63 (i : Int) (h1 : -9223372036854775808 ≤ i) (h2 : i < 9223372036854775808) : bits .xor .u64 (IntKind.u64.wrap i) 9223372036854775808 = (flip63 i : Int) := by
  have e : IntKind.u64.wrap i = ((i % 18446744073709551616).toNat : Int) := by rw [IntKind.wrap_u64]; omega
  have hlt : (i % 18446744073709551616).toNat < 18446744073709551616 := by omega
  rw [e, show (9223372036854775808 : Int) = ((2 ^ 63 : Nat) : Int) from rfl, bits_xor_u64_nat _ _ hlt (by decide), xor_top _ hlt]
  unfold flip63
  by_cases h : (i % 18446744073709551616).toNat < 2 ^ 63
  · rw [if_pos h]; omega
  · rw [if_neg h]; omega

theorem flip63_lt (i : Int) (h1 : -9223372036854775808 ≤ i) (h2 : i < 9223372036854775808) : flip63 i < 18446744073709551616 := by unfold flip63; omega

theorem ofNat_toNat (x : Nat) : ((UInt8.ofNat x).toNat : Int) = (x : Int) % 256 := by simp

/-- byte number k of the eight -/
theorem be8_get (u k : Nat) (h : k < 8) : (be8 u)[k]? = some (UInt8.ofNat (u / 2 ^ (56 - 8 * k))) := by
  match k, h with
  | 0, _ => rfl
  | 1, _ => rfl
  | 2, _ => rfl
  | 3, _ => rfl
  | 4, _ => rfl
  | 5, _ => rfl
  | 6, _ => rfl
  | 7, _ => simp [be8]
theorem intB_byte (i : Int) (k : Nat) (h : k < 8) (h1 : -9223372036854775808 ≤ i) (h2 : i < 9223372036854775808) :
    bits .xor .u64 (IntKind.u64.wrap i) 9223372036854775808 / 2 ^ (56 - 8 * k) % 256 = (((intB i)[k]'h).toNat : Int) := by
  have e : (intB i)[k]'h = UInt8.ofNat (flip63 i / 2 ^ (56 - 8 * k)) := by
    have := be8_get (flip63 i) k h
    rw [List.getElem?_eq_some_iff] at this
    exact this.2
  rw [xor63 i h1 h2, e, ofNat_toNat]
  simp
/-- A text's bytes: a zero is 0 255. -/
def escB (b : UInt8) : List UInt8 := if b = 0 then [0, 255] else [b]
def textB (l : List UInt8) : List UInt8 := l.flatMap escB
theorem textB_nil : textB [] = [] := rfl
theorem textB_append (a b : List UInt8) : textB (a ++ b) = textB a ++ textB b := by simp [textB]
theorem textB_take_succ (l : List UInt8) (k : Nat) (h : k < l.length) : textB (l.take (k + 1)) = textB (l.take k) ++ escB l[k] := by
  rw [List.take_succ_eq_append_getElem h, textB_append]; simp [textB]
theorem escB_length (b : UInt8) : 1 ≤ (escB b).length ∧ (escB b).length ≤ 2 := by unfold escB; split <;> simp
theorem textB_length (l : List UInt8) : l.length ≤ (textB l).length ∧ (textB l).length ≤ 2 * l.length := by
  induction l with
  | nil => simp [textB]
  | cons a l ih => have := escB_length a; simp [textB] at ih ⊢; omega
/-- A value's bytes. -/
def encV (x : Val) : List UInt8 := if x.k = 1 then 2 :: intB x.i else if x.k = 2 then 3 :: (textB x.s.data.toList ++ [0, 1]) else [1]
def encL (l : List Val) : List UInt8 := l.flatMap encV
theorem encL_take_succ (l : List Val) (k : Nat) (h : k < l.length) : encL (l.take (k + 1)) = encL (l.take k) ++ encV l[k] := by
  unfold encL; rw [List.take_succ_eq_append_getElem h, List.flatMap_append]; simp only [List.flatMap_cons, List.flatMap_nil, List.append_nil]
theorem encV_length (x : Val) (h : x.k = 2 → x.s.size ≤ 20) : 1 ≤ (encV x).length ∧ (encV x).length ≤ 43 := by
  unfold encV
  split
  · simp [intB_length]
  · split
    · rename_i h2
      have h1 := h h2
      have h3 := (textB_length x.s.data.toList).2
      have h4 : x.s.data.toList.length = x.s.size := rfl
      simp; omega
    · simp
end Go.Proofs.Ytikkknaofiafhaa
