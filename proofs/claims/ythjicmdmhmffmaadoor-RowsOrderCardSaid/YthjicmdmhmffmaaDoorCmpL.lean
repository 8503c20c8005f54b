/- Plain: the three orders of rows are one on right values. -/
import Derived.Test.YthjicmdmhmffmaaDoorNum
import Derived.Test.YthjicmdmhmffmaaDoorC7
namespace Go.Proofs.YthjicmdmhmffmaaDoor
open Go.RowKit

theorem rless_v (x y : Val) : rless x y = vless x y := by
  unfold rless vless
  simp only [Bool.and_or_distrib_left, Bool.and_assoc]
theorem cmpR_L : ∀ (a b : List Val), cmpR a b = cmpL a b
  | [], [] => rfl
  | [], _ :: _ => rfl
  | _ :: _, [] => rfl
  | x :: a, y :: b => by simp only [cmpR, cmpL, rless_v, cmpR_L a b]
theorem cmpI_self (a : Int) : cmpI a a = 0 := by simp [cmpI]
theorem cmpI_ne {a b : Int} (h : a ≠ b) : cmpI a b = if a < b then -1 else 1 := by
  unfold cmpI; split
  · rfl
  · rw [if_pos (by omega)]
theorem cmpS_self (a : ByteArray) : cmpS a a = 0 := by
  unfold cmpS
  rw [bl_irrefl]
  simp
theorem oneI_self (x : Val) : oneI x x = 0 := by simp [oneI, orI, cmpI_self, cmpS_self]
theorem oneI_right (x y : Val) (hx : x.right = true) (hy : y.right = true) (hne : x ≠ y) : oneI x y = if vless x y then -1 else 1 := by
  obtain ⟨k, i, s⟩ := x
  obtain ⟨k', i', s'⟩ := y
  have hx' : rightB k i s = true := hx
  have hy' : rightB k' i' s' = true := hy
  by_cases hk : k = k'
  · subst hk
    rcases right_cases hx' with ⟨rfl, rfl, hs⟩ | ⟨rfl, hs⟩ | ⟨rfl, rfl, hs⟩ <;> rcases right_cases hy' with ⟨h, rfl, hs'⟩ | ⟨h, hs'⟩ | ⟨h, rfl, hs'⟩ <;> try omega
    · exact absurd (by rw [ba_ext (hs.trans hs'.symm)]) hne
    · have es : s = s' := ba_ext (hs.trans hs'.symm)
      subst es
      have hi : i ≠ i' := fun h => hne (by rw [h])
      simp only [oneI, orI, cmpI_self, cmpI_ne hi, vless]
      by_cases h : i < i' <;> simp [h]
    · have hs : s ≠ s' := fun h => hne (by rw [h])
      have hl : (s.toList == s'.toList) = false := by rw [beq_eq_false_iff_ne]; exact fun h => hs (toList_inj h)
      simp [oneI, orI, cmpI_self, cmpS, vless, hl]
  · simp only [oneI, orI, cmpI_ne hk, vless]
    by_cases h : k < k' <;> simp [h, hk]
theorem cmpA_L : ∀ (a b : List Val), allRight a = true → allRight b = true → cmpA a b = cmpL a b
  | [], [], _, _ => rfl
  | [], _ :: _, _, _ => rfl
  | _ :: _, [], _, _ => rfl
  | x :: a, y :: b, ha, hb => by
    have h1 := (allRight_cons x a).1 ha
    have h2 := (allRight_cons y b).1 hb
    simp only [cmpA, cmpL]
    by_cases h : x = y
    · subst h
      rw [if_pos (oneI_self x), if_pos rfl, cmpA_L a b h1.2 h2.2]
    · rw [oneI_right x y h1.1 h2.1 h, if_neg h]
      split
      · split at * <;> simp_all
      · rfl
theorem cmpL_three : ∀ (a b : List Val), cmpL a b = -1 ∨ cmpL a b = 0 ∨ cmpL a b = 1
  | [], [] => by simp [cmpL]
  | [], _ :: _ => by simp [cmpL]
  | _ :: _, [] => by simp [cmpL]
  | x :: a, y :: b => by
    simp only [cmpL]
    split
    · exact cmpL_three a b
    · split <;> simp
end Go.Proofs.YthjicmdmhmffmaaDoor
