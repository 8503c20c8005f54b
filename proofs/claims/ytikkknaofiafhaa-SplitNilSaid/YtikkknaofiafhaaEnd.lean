/- Plain: the end of bytes, the order of texts. No program in sight. -/
import Derived.Test.YtikkknaofiafhaaMem
namespace Go.Proofs.Ytikkknaofiafhaa

/-- The least bytes greater than all that begin with l. -/
def endAt (l : List UInt8) : Nat → List UInt8
  | 0 => []
  | n + 1 => if l.getD n 0 = 255 then endAt l n else l.take n ++ [l.getD n 0 + 1]
def endB (l : List UInt8) : List UInt8 := endAt l l.length


theorem endAt_spec (l : List UInt8) : ∀ n, n ≤ l.length → (endAt l n = [] ∧ ∃ r, l = List.replicate n 255 ++ r) ∨ ∃ p x m r, x ≠ 255 ∧ l = p ++ x :: (List.replicate m 255 ++ r) ∧ p.length + 1 + m = n ∧ endAt l n = p ++ [x + 1]
  | 0, _ => .inl ⟨rfl, l, rfl⟩
  | n + 1, h => by
    have hg : l.getD n 0 = l[n]'(by omega) := by simp [List.getD, show n < l.length by omega]
    by_cases h255 : l.getD n 0 = 255
    · have e : endAt l (n + 1) = endAt l n := by rw [endAt, if_pos h255]
      have hn : l[n]'(by omega) = 255 := by rw [← hg]; exact h255
      rcases endAt_spec l n (by omega) with ⟨h1, r, h2⟩ | ⟨p, x, m, r, h1, h2, h3, h4⟩
      · refine .inl ⟨by rw [e]; exact h1, ?_⟩
        match r, h2 with
        | [], h2 => rw [h2] at h; simp at h; omega
        | y :: r, h2 =>
          refine ⟨r, ?_⟩
          have hy : y = 255 := by
            have : l[n]'(by omega) = y := by simp [h2]
            rw [← this, hn]
          rw [h2, hy, List.replicate_succ', List.append_assoc]
          rfl
      · refine .inr ?_
        match r, h2 with
        | [], h2 =>
          have := congrArg List.length h2
          simp at this
          omega
        | y :: r, h2 =>
          have hy : y = 255 := by
            have h5 : l[n]? = some y := by
              rw [h2, List.getElem?_append_right (by omega), show n - p.length = m + 1 by omega, List.getElem?_cons_succ, List.getElem?_append_right (by simp)]
              simp
            rw [List.getElem?_eq_getElem (by omega), hn] at h5
            exact (Option.some.inj h5).symm
          refine ⟨p, x, m + 1, r, h1, ?_, by omega, by rw [e]; exact h4⟩
          rw [h2, hy, List.replicate_succ', List.append_assoc]
          rfl
    · refine .inr ⟨l.take n, l.getD n 0, 0, l.drop (n + 1), h255, ?_, by simp; omega, by rw [endAt, if_neg h255]⟩
      rw [hg]
      simp
theorem endB_cases (l : List UInt8) : (endB l = [] ∧ l = List.replicate l.length 255) ∨ ∃ p x m, x ≠ 255 ∧ l = p ++ x :: List.replicate m 255 ∧ endB l = p ++ [x + 1] := by
  rcases endAt_spec l l.length (Nat.le_refl _) with ⟨h1, r, h2⟩ | ⟨p, x, m, r, h1, h2, h3, h4⟩
  · have hr : r = [] := by
      have := congrArg List.length h2
      simp at this
      exact this
    subst hr
    exact .inl ⟨h1, by simpa using h2⟩
  · have hr : r = [] := by
      have := congrArg List.length h2
      simp at this
      exact List.eq_nil_of_length_eq_zero (by omega)
    subst hr
    exact .inr ⟨p, x, m, h1, by simpa using h2, h4⟩

theorem bl_nil_r (a : List UInt8) : Op.bytesLess a [] = false := by cases a <;> rfl
theorem bl_nil_l (b : UInt8) (y : List UInt8) : Op.bytesLess [] (b :: y) = true := rfl
theorem bl_cons (a b : UInt8) (x y : List UInt8) : Op.bytesLess (a :: x) (b :: y) = (a < b || (a == b && Op.bytesLess x y)) := rfl
theorem bl_pre (p a b : List UInt8) : Op.bytesLess (p ++ a) (p ++ b) = Op.bytesLess a b := by
  induction p with
  | nil => rfl
  | cons x p ih => rw [List.cons_append, List.cons_append, bl_cons, ih]; simp
theorem bl_irrefl (a : List UInt8) : Op.bytesLess a a = false := by
  induction a with
  | nil => rfl
  | cons x a ih => rw [bl_cons, ih]; simp
theorem bl_asymm : ∀ (a b : List UInt8), Op.bytesLess a b = true → Op.bytesLess b a = false
  | [], [], h => by simp [Op.bytesLess] at h
  | [], _ :: _, _ => bl_nil_r _
  | _ :: _, [], h => by rw [bl_nil_r] at h; cases h
  | x :: a, y :: b, h => by
    rw [bl_cons] at h ⊢
    simp only [Bool.or_eq_true, decide_eq_true_eq, Bool.and_eq_true, beq_iff_eq] at h
    rcases h with h | ⟨rfl, h⟩
    · have h1 : ¬ y < x := fun h' => by rw [UInt8.lt_iff_toNat_lt] at h h'; omega
      have h2 : y ≠ x := fun h' => by subst h'; rw [UInt8.lt_iff_toNat_lt] at h; omega
      simp [h1, h2]
    · rw [bl_asymm a b h]; simp
theorem bl_total : ∀ (a b : List UInt8), a ≠ b → Op.bytesLess a b = !(Op.bytesLess b a)
  | [], [], h => absurd rfl h
  | [], _ :: _, _ => rfl
  | _ :: _, [], _ => rfl
  | x :: a, y :: b, h => by
    rw [bl_cons, bl_cons]
    by_cases hxy : x = y
    · subst hxy
      have hne : a ≠ b := fun e => h (by rw [e])
      rw [bl_total a b hne]; simp
    · have hxy' : y ≠ x := fun e => hxy e.symm
      by_cases hlt : x < y
      · have : ¬ y < x := fun h' => by rw [UInt8.lt_iff_toNat_lt] at hlt h'; omega
        simp [hlt, this, hxy, hxy']
      · have : y < x := by
          rw [UInt8.lt_iff_toNat_lt] at hlt ⊢
          have : x.toNat ≠ y.toNat := fun h' => hxy (UInt8.toNat_inj.1 h')
          omega
        simp [hlt, this, hxy, hxy']
theorem u8_lt_succ (x : UInt8) (h : x ≠ 255) : x < x + 1 := by
  have h1 : x.toNat ≠ 255 := fun h' => h (UInt8.toNat_inj.1 h')
  have h2 := x.toNat_lt
  rw [UInt8.lt_iff_toNat_lt, UInt8.toNat_add]
  simp
  omega
theorem u8_not_lt_succ (x y : UInt8) (h : x ≠ 255) (hlt : x < y) : ¬ y < x + 1 := by
  have h1 : x.toNat ≠ 255 := fun h' => h (UInt8.toNat_inj.1 h')
  have h2 := x.toNat_lt
  have h3 := y.toNat_lt
  rw [UInt8.lt_iff_toNat_lt] at hlt ⊢
  rw [UInt8.toNat_add]
  simp
  omega

/-- what begins with l is less than its end -/
theorem end_above (l more : List UInt8) (h : endB l ≠ []) : Op.bytesLess (l ++ more) (endB l) = true := by
  rcases endB_cases l with ⟨h1, _⟩ | ⟨p, x, m, hx, hl, he⟩
  · exact absurd h1 h
  · rw [he, hl, List.append_assoc, bl_pre, List.cons_append, bl_cons]
    simp [u8_lt_succ x hx]
/-- Begins -/
def beginsB (l p : List UInt8) : Bool := decide (p.length ≤ l.length) && l.take p.length == p
theorem begins_cons (a b : UInt8) (x y : List UInt8) : beginsB (a :: x) (b :: y) = (a == b && beginsB x y) := by
  unfold beginsB
  by_cases h : y.length ≤ x.length <;> by_cases hab : a = b <;> simp [h, hab, List.take_succ_cons]
theorem begins_iff (l p : List UInt8) : beginsB l p = true ↔ ∃ r, l = p ++ r := by
  unfold beginsB
  simp only [Bool.and_eq_true, decide_eq_true_eq, beq_iff_eq]
  constructor
  · rintro ⟨_, h⟩
    exact ⟨l.drop p.length, by conv => lhs; rw [← List.take_append_drop p.length l, h]⟩
  · rintro ⟨r, rfl⟩
    simp
theorem begins_nil (x : List UInt8) : beginsB x [] = true := by simp [beginsB]
theorem less_replicate : ∀ (m : Nat) (ys : List UInt8), beginsB ys (List.replicate m 255) = true ∨ Op.bytesLess ys (List.replicate m 255) = true
  | 0, ys => .inl (begins_nil ys)
  | m + 1, [] => .inr rfl
  | m + 1, y :: ys => by
    rw [List.replicate_succ, begins_cons, bl_cons]
    by_cases hy : y = 255
    · subst hy
      simpa using less_replicate m ys
    · right
      have h1 : y.toNat ≠ 255 := fun h' => hy (UInt8.toNat_inj.1 h')
      have h2 := y.toNat_lt
      have : y < 255 := by rw [UInt8.lt_iff_toNat_lt]; simp; omega
      simp [this]
theorem end_least (l other : List UInt8) (h : endB l ≠ []) : beginsB other l = true ∨ Op.bytesLess other l = true ∨ Op.bytesLess other (endB l) = false := by
  rcases endB_cases l with ⟨h1, _⟩ | ⟨p, x, m, hx, hl, he⟩
  · exact absurd h1 h
  · rw [he]
    clear he h
    subst hl
    induction p generalizing other with
    | nil =>
      cases other with
      | nil => exact .inr (.inl rfl)
      | cons y ys =>
        simp only [List.nil_append]
        rw [begins_cons, bl_cons, bl_cons, bl_nil_r]
        by_cases hy : y = x
        · subst hy
          have := less_replicate m ys
          simp
          rcases this with h | h <;> simp [h]
        · by_cases hlt : y < x
          · simp [hlt]
          · have hgt : x < y := by
              rw [UInt8.lt_iff_toNat_lt] at hlt ⊢
              have : y.toNat ≠ x.toNat := fun h' => hy (UInt8.toNat_inj.1 h')
              omega
            simp [u8_not_lt_succ x y hx hgt]
    | cons z p ih =>
      cases other with
      | nil => exact .inr (.inl rfl)
      | cons y ys =>
        simp only [List.cons_append]
        rw [begins_cons, bl_cons, bl_cons]
        by_cases hy : y = z
        · subst hy
          simpa using ih ys
        · by_cases hlt : y < z
          · simp [hlt]
          · simp [hlt, hy]
end Go.Proofs.Ytikkknaofiafhaa
