/- Plain: bytes read as values. No program in sight. -/
import Derived.Test.YtnlhjhpikjmoaaaGreatDoorNum
namespace Go.Proofs.YtnlhjhpikjmoaaaGreatDoor

def beNat (l : List UInt8) : Nat := l.foldl (fun u c => u * 256 + c.toNat) 0
theorem beNat_snoc (l : List UInt8) (c : UInt8) : beNat (l ++ [c]) = beNat l * 256 + c.toNat := by simp [beNat]
theorem fold_lt (l : List UInt8) : ∀ u : Nat, l.foldl (fun u c => u * 256 + c.toNat) u < (u + 1) * 256 ^ l.length := by
  induction l with
  | nil => intro u; simp
  | cons c l ih =>
    intro u
    have h1 := ih (u * 256 + c.toNat)
    have h2 := c.toNat_lt
    have h3 : (u * 256 + c.toNat + 1) * 256 ^ l.length ≤ ((u + 1) * 256) * 256 ^ l.length := Nat.mul_le_mul_right _ (by omega)
    rw [List.foldl_cons, List.length_cons, Nat.pow_succ, Nat.mul_comm (256 ^ l.length) 256, ← Nat.mul_assoc]
    omega
theorem beNat_lt (l : List UInt8) : beNat l < 256 ^ l.length := by
  have := fold_lt l 0
  simpa [beNat] using this
theorem or_step (U : Nat) (y : UInt8) (hU : U < 72057594037927936) : bits .or .u64 (IntKind.u64.wrap ((U : Int) * 256)) (IntKind.u64.wrap (y.toNat : Int)) = ((U * 256 + y.toNat : Nat) : Int) := by
  have hy := y.toNat_lt
  have e1 : IntKind.u64.wrap ((U : Int) * 256) = ((U * 256 : Nat) : Int) := by rw [IntKind.wrap_u64]; omega
  have e2 : IntKind.u64.wrap (y.toNat : Int) = (y.toNat : Int) := by rw [IntKind.wrap_u64]; omega
  rw [e1, e2, u64_or_nat _ _ (by omega) (by omega), nat_join 8 (U * 256) y.toNat (by omega) (by omega)]
theorem xor63_back (U : Nat) (hU : U < 18446744073709551616) : IntKind.i64.wrap (bits .xor .u64 (U : Int) 9223372036854775808) = (U : Int) - 9223372036854775808 := by
  rw [show (9223372036854775808 : Int) = ((2 ^ 63 : Nat) : Int) from rfl, bits_xor_u64_nat _ _ hU (by decide), xor_top _ hU, IntKind.wrap_i64]
  split <;> omega
theorem beNat_be8 (u : Nat) (h : u < 18446744073709551616) : beNat (be8 u) = u := by
  simp only [be8, beNat, List.foldl_cons, List.foldl_nil]
  simp
  omega

/-- the text with which bytes begin -/
def textD (acc : List UInt8) : List UInt8 → (List UInt8 × List UInt8) ⊕ Int
  | [] => .inr 8
  | c :: r =>
    if c = 0 then
      match r with
      | [] => .inr 8
      | d :: r' => if d = 1 then .inl (acc, r') else if d = 255 then (if 20 < acc.length + 1 then .inr 9 else textD (acc ++ [0]) r') else .inr 9
    else if 20 < acc.length + 1 then .inr 9 else textD (acc ++ [c]) r
theorem textD_0 (acc : List UInt8) (d : UInt8) (r : List UInt8) : textD acc (0 :: d :: r) = if d = 1 then .inl (acc, r) else if d = 255 then (if 20 < acc.length + 1 then .inr 9 else textD (acc ++ [0]) r) else .inr 9 := by
  conv => lhs; unfold textD
  simp
theorem textD_01 (acc : List UInt8) : textD acc [0] = .inr 8 := by unfold textD; simp
theorem textD_c (acc : List UInt8) (c : UInt8) (r : List UInt8) (h : c ≠ 0) : textD acc (c :: r) = if 20 < acc.length + 1 then .inr 9 else textD (acc ++ [c]) r := by
  conv => lhs; unfold textD
  rw [if_neg h]
/-- the value with which bytes begin -/
def takeD : List UInt8 → (Val × List UInt8) ⊕ Int
  | [] => .inr 9
  | b :: r =>
    if b = 1 then .inl (⟨0, 0, ⟨#[]⟩⟩, r)
    else if b = 2 then (if r.length < 8 then .inr 8 else .inl (⟨1, (beNat (r.take 8) : Int) - 9223372036854775808, ⟨#[]⟩⟩, r.drop 8))
    else if b = 3 then (match textD [] r with | .inl (s, r') => .inl (⟨2, 0, str s⟩, r') | .inr e => .inr e)
    else .inr 9
def decD : Nat → List Val → List UInt8 → List Val × Int
  | _, acc, [] => if 16 < acc.length then ([], 10) else (acc, 0)
  | 0, _, _ :: _ => ([], 9)
  | f + 1, acc, b :: l => match takeD (b :: l) with | .inl (v, r) => decD f (acc ++ [v]) r | .inr e => ([], e)
def decB (l : List UInt8) : List Val × Int := decD l.length [] l

theorem textD_text (s : List UInt8) : ∀ (acc r : List UInt8), acc.length + s.length ≤ 20 → textD acc (textB s ++ [0, 1] ++ r) = .inl (acc ++ s, r) := by
  induction s with
  | nil => intro acc r _; rw [textB_nil, List.nil_append, List.cons_append, List.cons_append, textD_0, if_pos rfl, List.append_nil]; rfl
  | cons c s ih =>
    intro acc r h
    simp only [List.length_cons] at h
    have e : textB (c :: s) = escB c ++ textB s := rfl
    by_cases hc : c = 0
    · subst hc
      have := ih (acc ++ [0]) r (by simp; omega)
      rw [e]
      simp only [escB, if_pos, List.append_assoc, List.cons_append, List.nil_append] at this ⊢
      rw [textD_0, if_neg (by decide), if_pos rfl, if_neg (by omega)]
      exact this
    · have := ih (acc ++ [c]) r (by simp; omega)
      rw [e]
      simp only [escB, if_neg hc, List.append_assoc, List.cons_append, List.nil_append] at this ⊢
      rw [textD_c _ _ _ hc, if_neg (by omega)]
      exact this
theorem str_of (s : ByteArray) : str s.data.toList = s := ba_ext (by simp)
theorem takeD_enc (x : Val) (hx : x.right = true) (ox : x.ok) (r : List UInt8) : takeD (encV x ++ r) = .inl (x, r) := by
  obtain ⟨k, i, s⟩ := x
  rcases right_cases hx with ⟨rfl, rfl, hs⟩ | ⟨rfl, hs⟩ | ⟨rfl, rfl, hs⟩
  · have es : s = ⟨#[]⟩ := ba_ext (by simpa using hs)
    simp [encV, takeD, es]
  · have es : s = ⟨#[]⟩ := ba_ext (by simpa using hs)
    unfold Val.ok at ox
    simp only at ox
    have h1 : encV ⟨1, i, s⟩ = 2 :: intB i := by simp [encV]
    rw [h1, List.cons_append, takeD, if_neg (by decide), if_pos rfl, if_neg (by simp [intB_length]), List.take_left' (intB_length i), List.drop_left' (intB_length i)]
    unfold intB
    rw [beNat_be8 _ (flip63_lt i ox.1 ox.2)]
    have : ((flip63 i : Nat) : Int) - 9223372036854775808 = i := by unfold flip63; omega
    rw [this, es]
  · have h1 : encV ⟨2, 0, s⟩ = 3 :: (textB s.data.toList ++ [0, 1]) := by simp [encV]
    have hl : s.data.toList.length = s.size := rfl
    rw [h1, List.cons_append, takeD, if_neg (by decide), if_neg (by decide), if_pos rfl, textD_text _ [] r (by rw [hl]; simpa using hs)]
    simp [str_of]
theorem decD_enc (a : List Val) (ha : allRight a = true) (oa : okVals a) : ∀ (f : Nat) (acc : List Val) (l : List UInt8), a.length ≤ f → decD (f + l.length) acc (encL a ++ l) = decD (f - a.length + l.length) (acc ++ a) l := by
  induction a with
  | nil => intro f acc l _; simp [encL]
  | cons x a ih =>
    intro f acc l hf
    obtain ⟨hx, ha'⟩ := (allRight_cons x a).1 ha
    obtain ⟨ox, oa'⟩ := (okVals_cons x a).1 oa
    simp only [List.length_cons] at hf
    obtain ⟨f, rfl⟩ : ∃ g, f = g + 1 := ⟨f - 1, by omega⟩
    rw [encL_cons, List.append_assoc]
    obtain ⟨b, r, hb, _⟩ := encV_cons x hx
    have ht := takeD_enc x hx ox (encL a ++ l)
    rw [hb, List.cons_append] at ht ⊢
    rw [show f + 1 + l.length = (f + l.length) + 1 by omega, decD, ht]
    simp only
    rw [ih ha' oa' f (acc ++ [x]) l (by omega), List.append_assoc]
    simp
theorem encL_len_ge (a : List Val) (ha : allRight a = true) : a.length ≤ (encL a).length := by
  induction a with
  | nil => simp [encL]
  | cons x a ih =>
    obtain ⟨hx, ha'⟩ := (allRight_cons x a).1 ha
    obtain ⟨b, r, hb, _⟩ := encV_cons x hx
    rw [encL_cons, hb]
    have := ih ha'
    simp
    omega
/-- what is written is read -/
theorem decB_enc (a : List Val) (ha : allRight a = true) (oa : okVals a) (h : a.length ≤ 16) : decB (encL a) = (a, 0) := by
  have h1 := decD_enc a ha oa (encL a).length [] [] (encL_len_ge a ha)
  rw [List.append_nil, List.length_nil, Nat.add_zero, Nat.add_zero, List.nil_append] at h1
  unfold decB
  rw [h1]
  have h2 : ∀ f, decD f a [] = (a, 0) := fun f => by cases f <;> simp [decD] <;> omega
  exact h2 _
end Go.Proofs.YtnlhjhpikjmoaaaGreatDoor
