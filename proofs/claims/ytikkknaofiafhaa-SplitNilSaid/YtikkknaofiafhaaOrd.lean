/- Plain: the bytes of values stand in the values' order; what is written can be told apart. No program in sight. -/
import Derived.Test.YtikkknaofiafhaaNum
import Derived.Test.YtikkknaofiafhaaEnd
namespace Go.Proofs.Ytikkknaofiafhaa

def rightB (k i : Int) (s : ByteArray) : Bool :=
  if k == 0 then i == 0 && s.toList.isEmpty
  else if k == 1 then s.toList.isEmpty
  else if k == 2 then i == 0 && decide ((s.size : Int) ≤ 20)
  else false
def Val.right (x : Val) : Bool := rightB x.k x.i x.s
def allRight (l : List Val) : Bool := l.all Val.right
theorem right_cases {k i : Int} {s : ByteArray} (h : rightB k i s = true) : (k = 0 ∧ i = 0 ∧ s.data.toList = []) ∨ (k = 1 ∧ s.data.toList = []) ∨ (k = 2 ∧ i = 0 ∧ s.size ≤ 20) := by
  unfold rightB at h
  rw [ByteArray.toList_eq] at h
  by_cases h0 : k = 0
  · subst h0; simp at h; exact .inl ⟨rfl, h.1, by simpa using h.2⟩
  · by_cases h1 : k = 1
    · subst h1; simp at h; exact .inr (.inl ⟨rfl, by simpa using h⟩)
    · by_cases h2 : k = 2
      · subst h2; simp at h; exact .inr (.inr ⟨rfl, h.1, by omega⟩)
      · simp [h0, h1, h2] at h
theorem toList_inj {s t : ByteArray} (h : s.toList = t.toList) : s = t := by rw [ByteArray.toList_eq, ByteArray.toList_eq] at h; exact ByteArray.ext (Array.toList_inj.1 h)
theorem ba_ext {s t : ByteArray} (h : s.data.toList = t.data.toList) : s = t := ByteArray.ext (Array.toList_inj.1 h)

/-! ### numbers -/
def beN : Nat → Nat → List UInt8
  | 0, _ => []
  | n + 1, u => UInt8.ofNat (u / 256 ^ n) :: beN n (u % 256 ^ n)
theorem ofNat_mod (x : Nat) : UInt8.ofNat (x % 256) = UInt8.ofNat x := by
  apply UInt8.toNat_inj.1; simp
theorem be8_eq (u : Nat) : be8 u = beN 8 u := by
  simp only [be8, beN]
  have e : ∀ a b : Nat, a % 256 = b % 256 → UInt8.ofNat a = UInt8.ofNat b := fun a b h => by rw [← ofNat_mod a, h, ofNat_mod]
  congr 1
  congr 1
  · exact e _ _ (by omega)
  congr 1
  · exact e _ _ (by omega)
  congr 1
  · exact e _ _ (by omega)
  congr 1
  · exact e _ _ (by omega)
  congr 1
  · exact e _ _ (by omega)
  congr 1
  · exact e _ _ (by omega)
  congr 1
  · exact e _ _ (by omega)
theorem toNat_ofNat_lt (x : Nat) (h : x < 256) : (UInt8.ofNat x).toNat = x := by simp; omega
theorem beN_less : ∀ (n u v : Nat), u < 256 ^ n → v < 256 ^ n → u < v → ∀ r r', Op.bytesLess (beN n u ++ r) (beN n v ++ r') = true
  | 0, u, v, hu, hv, h, _, _ => by simp at hu hv; omega
  | n + 1, u, v, hu, hv, h, r, r' => by
    simp only [beN, List.cons_append]
    rw [bl_cons]
    have hp : 0 < 256 ^ n := Nat.pow_pos (by omega)
    have hu1 : u / 256 ^ n < 256 := by rw [Nat.div_lt_iff_lt_mul hp]; rw [Nat.pow_succ, Nat.mul_comm] at hu; exact hu
    have hv1 : v / 256 ^ n < 256 := by rw [Nat.div_lt_iff_lt_mul hp]; rw [Nat.pow_succ, Nat.mul_comm] at hv; exact hv
    have hle : u / 256 ^ n ≤ v / 256 ^ n := Nat.div_le_div_right (by omega)
    rcases Nat.lt_or_eq_of_le hle with hlt | heq
    · have : UInt8.ofNat (u / 256 ^ n) < UInt8.ofNat (v / 256 ^ n) := by
        rw [UInt8.lt_iff_toNat_lt, toNat_ofNat_lt _ hu1, toNat_ofNat_lt _ hv1]; exact hlt
      simp [this]
    · rw [heq]
      have hm : u % 256 ^ n < v % 256 ^ n := by
        have h1 := Nat.div_add_mod u (256 ^ n)
        have h2 := Nat.div_add_mod v (256 ^ n)
        rw [heq] at h1
        omega
      have := beN_less n (u % 256 ^ n) (v % 256 ^ n) (Nat.mod_lt _ hp) (Nat.mod_lt _ hp) hm r r'
      simp [this]
theorem intB_less (i j : Int) (h1 : -9223372036854775808 ≤ i) (h2 : i < 9223372036854775808) (h3 : -9223372036854775808 ≤ j) (h4 : j < 9223372036854775808) (h : i < j) (r r' : List UInt8) :
    Op.bytesLess (intB i ++ r) (intB j ++ r') = true := by
  unfold intB
  rw [be8_eq, be8_eq]
  refine beN_less 8 _ _ ?_ ?_ ?_ r r' <;> unfold flip63 <;> simp <;> omega

/-! ### texts -/
theorem textB_less : ∀ (s t r r' : List UInt8), s ≠ t → Op.bytesLess (textB s ++ [0, 1] ++ r) (textB t ++ [0, 1] ++ r') = Op.bytesLess s t
  | [], [], _, _, h => absurd rfl h
  | [], c :: t, r, r', _ => by
    rw [bl_nil_l]
    by_cases hc : c = 0
    · subst hc; simp [textB, escB, bl_cons]
    · have : (0 : UInt8) < c := by
        rw [UInt8.lt_iff_toNat_lt]
        have : c.toNat ≠ 0 := fun h => hc (UInt8.toNat_inj.1 h)
        simp; omega
      simp [textB, escB, hc, bl_cons, this]
  | b :: s, [], r, r', _ => by
    rw [bl_nil_r]
    by_cases hb : b = 0
    · subst hb; simp [textB, escB, bl_cons]
    · have : ¬ b < 0 := by rw [UInt8.lt_iff_toNat_lt]; simp
      simp [textB, escB, hb, bl_cons]
  | b :: s, c :: t, r, r', h => by
    have e1 : ∀ x y, textB (x :: y) = escB x ++ textB y := fun _ _ => rfl
    rw [bl_cons, e1, e1]
    by_cases hbc : b = c
    · subst hbc
      have hne : s ≠ t := fun h' => h (by rw [h'])
      rw [List.append_assoc, List.append_assoc, List.append_assoc, List.append_assoc, bl_pre, ← List.append_assoc, ← List.append_assoc, textB_less s t r r' hne]
      simp
    · have hbc' : (b == c) = false := by simpa using hbc
      rw [hbc']
      by_cases hb : b = 0
      · subst hb
        have hc : c ≠ 0 := fun h' => hbc h'.symm
        have : (0 : UInt8) < c := by
          rw [UInt8.lt_iff_toNat_lt]
          have : c.toNat ≠ 0 := fun h => hc (UInt8.toNat_inj.1 h)
          simp; omega
        simp [escB, hc, bl_cons, this]
      · by_cases hc : c = 0
        · subst hc
          simp [escB, hb, bl_cons]
        · simp [escB, hb, hc, bl_cons, hbc]

/-! ### values -/
/-- less, of right values -/
def vless (x y : Val) : Bool := decide (x.k < y.k) || (decide (x.k = y.k) && ((decide (x.k = 1) && decide (x.i < y.i)) || (decide (x.k = 2) && Op.bytesLess x.s.toList y.s.toList)))

theorem encV_less (x y : Val) (hx : x.right = true) (hy : y.right = true) (ox : x.ok) (oy : y.ok) (hne : x ≠ y) (r r' : List UInt8) : Op.bytesLess (encV x ++ r) (encV y ++ r') = vless x y := by
  obtain ⟨k, i, s⟩ := x
  obtain ⟨k', i', s'⟩ := y
  unfold Val.ok at ox oy
  simp only at ox oy
  rcases right_cases hx with ⟨rfl, rfl, hs⟩ | ⟨rfl, hs⟩ | ⟨rfl, rfl, hs⟩ <;> rcases right_cases hy with ⟨rfl, rfl, hs'⟩ | ⟨rfl, hs'⟩ | ⟨rfl, rfl, hs'⟩
  · have es : s = s' := ba_ext (hs.trans hs'.symm)
    exact absurd (by rw [es]) hne
  · simp [encV, vless, bl_cons]
  · simp [encV, vless, bl_cons]
  · simp [encV, vless, bl_cons]
  · have hi : i ≠ i' := fun h => hne (by have es : s = s' := ba_ext (hs.trans hs'.symm); rw [h, es])
    have e : vless ⟨1, i, s⟩ ⟨1, i', s'⟩ = decide (i < i') := by simp [vless]
    rw [e]
    have e2 : Op.bytesLess (encV ⟨1, i, s⟩ ++ r) (encV ⟨1, i', s'⟩ ++ r') = Op.bytesLess (intB i ++ r) (intB i' ++ r') := by simp [encV, bl_cons]
    rw [e2]
    by_cases hlt : i < i'
    · rw [intB_less i i' ox.1 ox.2 oy.1 oy.2 hlt, decide_eq_true hlt]
    · have hgt : i' < i := by omega
      rw [decide_eq_false hlt]
      have := intB_less i' i oy.1 oy.2 ox.1 ox.2 hgt r' r
      exact bl_asymm _ _ this
  · simp [encV, vless, bl_cons]
  · simp [encV, vless, bl_cons]
  · simp [encV, vless, bl_cons]
  · have hst : s.data.toList ≠ s'.data.toList := fun h => hne (by rw [ba_ext h])
    have e : vless ⟨2, 0, s⟩ ⟨2, 0, s'⟩ = Op.bytesLess s.data.toList s'.data.toList := by simp [vless, ByteArray.toList_eq]
    rw [e, ← textB_less _ _ r r' hst]
    simp [encV, bl_cons]

theorem vless_total (x y : Val) (hx : x.right = true) (hy : y.right = true) (hne : x ≠ y) : vless x y = !(vless y x) := by
  obtain ⟨k, i, s⟩ := x
  obtain ⟨k', i', s'⟩ := y
  rcases right_cases hx with ⟨rfl, rfl, hs⟩ | ⟨rfl, hs⟩ | ⟨rfl, rfl, hs⟩ <;> rcases right_cases hy with ⟨rfl, rfl, hs'⟩ | ⟨rfl, hs'⟩ | ⟨rfl, rfl, hs'⟩
  · have es : s = s' := ba_ext (hs.trans hs'.symm)
    exact absurd (by rw [es]) hne
  · simp [vless]
  · simp [vless]
  · simp [vless]
  · have hi : i ≠ i' := fun h => hne (by have es : s = s' := ba_ext (hs.trans hs'.symm); rw [h, es])
    by_cases h : i < i'
    · have h2 : ¬ i' < i := by omega
      simp [vless, h, h2]
    · have h2 : i' < i := by omega
      simp [vless, h, h2]
  · simp [vless]
  · simp [vless]
  · simp [vless]
  · have hst : s.data.toList ≠ s'.data.toList := fun h => hne (by rw [ba_ext h])
    simp [vless, ByteArray.toList_eq]
    exact bl_total _ _ hst

/-- order of two lists -/
def cmpL : List Val → List Val → Int
  | [], [] => 0
  | [], _ :: _ => -1
  | _ :: _, [] => 1
  | x :: a, y :: b => if x = y then cmpL a b else if vless x y then -1 else 1

theorem encV_cons (x : Val) (hx : x.right = true) : ∃ b r, encV x = b :: r ∧ b ≠ 255 := by
  rcases right_cases hx with ⟨h, _⟩ | ⟨h, _⟩ | ⟨h, _⟩
  · exact ⟨1, [], by simp [encV, h], by decide⟩
  · exact ⟨2, _, by simp [encV, h]; rfl, by decide⟩
  · exact ⟨3, _, by simp [encV, h]; rfl, by decide⟩
theorem allRight_cons (x : Val) (a : List Val) : allRight (x :: a) = true ↔ x.right = true ∧ allRight a = true := by simp [allRight]
theorem okVals_cons (x : Val) (a : List Val) : okVals (x :: a) ↔ x.ok ∧ okVals a := by simp [okVals]
theorem encL_cons (x : Val) (a : List Val) : encL (x :: a) = encV x ++ encL a := rfl

theorem encL_less : ∀ (a b : List Val), allRight a = true → allRight b = true → okVals a → okVals b → Op.bytesLess (encL a) (encL b) = decide (cmpL a b = -1) ∧ (cmpL a b = 0 ↔ a = b) ∧ cmpL b a = - cmpL a b
  | [], [], _, _, _, _ => ⟨rfl, by simp [cmpL], rfl⟩
  | [], y :: b, _, hb, _, _ => by
    obtain ⟨c, r, he, _⟩ := encV_cons y ((allRight_cons y b).1 hb).1
    refine ⟨?_, by simp [cmpL], rfl⟩
    rw [encL_cons, he]; rfl
  | x :: a, [], ha, _, _, _ => by
    obtain ⟨c, r, he, _⟩ := encV_cons x ((allRight_cons x a).1 ha).1
    refine ⟨?_, by simp [cmpL], rfl⟩
    rw [encL_cons, he]; rfl
  | x :: a, y :: b, ha, hb, oa, ob => by
    obtain ⟨hx, ha'⟩ := (allRight_cons x a).1 ha
    obtain ⟨hy, hb'⟩ := (allRight_cons y b).1 hb
    obtain ⟨ox, oa'⟩ := (okVals_cons x a).1 oa
    obtain ⟨oy, ob'⟩ := (okVals_cons y b).1 ob
    rw [encL_cons, encL_cons]
    by_cases h : x = y
    · subst h
      obtain ⟨h1, h2, h3⟩ := encL_less a b ha' hb' oa' ob'
      rw [bl_pre]
      have e1 : cmpL (x :: a) (x :: b) = cmpL a b := by simp [cmpL]
      have e2 : cmpL (x :: b) (x :: a) = cmpL b a := by simp [cmpL]
      rw [e1, e2]
      exact ⟨h1, by rw [h2]; simp, h3⟩
    · rw [encV_less x y hx hy ox oy h]
      have h' : ¬ y = x := fun e => h e.symm
      have hv := vless_total x y hx hy h
      have e1 : cmpL (x :: a) (y :: b) = if vless x y then -1 else 1 := by simp [cmpL, h]
      have e2 : cmpL (y :: b) (x :: a) = if vless y x then -1 else 1 := by simp [cmpL, h']
      rw [e1, e2, hv]
      cases vless y x <;> simp [h]

/-- What is written can be told apart: no value's bytes begin another's. -/
theorem encV_apart (x y : Val) (hx : x.right = true) (hy : y.right = true) (ox : x.ok) (oy : y.ok) (r r' : List UInt8) (h : encV x ++ r = encV y ++ r') : x = y ∧ r = r' := by
  by_cases he : x = y
  · subst he
    exact ⟨rfl, List.append_cancel_left h⟩
  · have h1 := encV_less x y hx hy ox oy he r r'
    have h2 := encV_less y x hy hx oy ox (fun e => he e.symm) r' r
    rw [h, bl_irrefl] at h1
    rw [← h, bl_irrefl] at h2
    have := vless_total x y hx hy he
    rw [← h1, ← h2] at this
    cases this
theorem encL_begins : ∀ (a o : List Val), allRight a = true → allRight o = true → okVals a → okVals o → (beginsB (encL o) (encL a) = true ↔ o.take a.length = a)
  | [], o, _, _, _, _ => by
    have : encL ([] : List Val) = [] := rfl
    rw [this, begins_nil]; simp
  | x :: a, [], ha, _, _, _ => by
    obtain ⟨c, r, he, _⟩ := encV_cons x ((allRight_cons x a).1 ha).1
    rw [encL_cons, he]
    simp [encL, beginsB]
  | x :: a, y :: o, ha, ho, oa, oo => by
    obtain ⟨hx, ha'⟩ := (allRight_cons x a).1 ha
    obtain ⟨hy, ho'⟩ := (allRight_cons y o).1 ho
    obtain ⟨ox, oa'⟩ := (okVals_cons x a).1 oa
    obtain ⟨oy, oo'⟩ := (okVals_cons y o).1 oo
    have ih := encL_begins a o ha' ho' oa' oo'
    rw [encL_cons, encL_cons, List.length_cons, List.take_succ_cons]
    constructor
    · intro h
      obtain ⟨r, hr⟩ := (begins_iff _ _).1 h
      rw [List.append_assoc] at hr
      obtain ⟨rfl, h2⟩ := encV_apart y x hy hx oy ox _ _ hr
      rw [ih.1 ((begins_iff _ _).2 ⟨r, h2⟩)]
    · intro h
      simp only [List.cons.injEq] at h
      obtain ⟨rfl, h2⟩ := h
      obtain ⟨r, hr⟩ := (begins_iff _ _).1 (ih.2 h2)
      exact (begins_iff _ _).2 ⟨r, by rw [hr, List.append_assoc]⟩
theorem encL_endB (a : List Val) (ha : allRight a = true) (h : a ≠ []) : endB (encL a) ≠ [] := by
  cases a with
  | nil => exact absurd rfl h
  | cons x a =>
    obtain ⟨c, r, he, hc⟩ := encV_cons x ((allRight_cons x a).1 ha).1
    rcases endB_cases (encL (x :: a)) with ⟨_, h2⟩ | ⟨p, y, m, _, _, h3⟩
    · rw [encL_cons, he] at h2
      simp [List.replicate_succ] at h2
      exact absurd h2.1 hc
    · rw [h3]; simp
/-- between the bytes and their end stands just what begins with them -/
theorem between_iff (z x : List UInt8) (h : endB x ≠ []) : (!(Op.bytesLess z x) && Op.bytesLess z (endB x)) = beginsB z x := by
  cases hB : beginsB z x
  · rcases end_least x z h with h1 | h1 | h1
    · rw [hB] at h1; cases h1
    · rw [h1]; rfl
    · rw [h1]; simp
  · obtain ⟨r, rfl⟩ := (begins_iff _ _).1 hB
    rw [end_above x r h]
    have : Op.bytesLess (x ++ r) x = false := by
      have := bl_pre x r []
      rw [List.append_nil, bl_nil_r] at this
      exact this
    rw [this]; rfl
end Go.Proofs.Ytikkknaofiafhaa
