/- Vault: how long things and records are. No walk. -/
import Derived.Test.YtnlhjhpikjmoaaaGreatDoorA5
import Derived.Test.YtnlhjhpikjmoaaaGreatDoorA9
namespace Go.Proofs.YtnlhjhpikjmoaaaGreatDoor

theorem rightE_data {top : Nat} : ∀ {l : List VEnt} {t i : Nat}, rightE top t i l = true → ∀ e ∈ l, e.data.length ≤ 32668
  | [], _, _, _, _, he => by simp at he
  | a :: r, t, i, h, e, he => by
    simp only [rightE, Bool.and_eq_true, decide_eq_true_eq] at h
    rcases List.mem_cons.1 he with rfl | he
    · exact h.2.2.2.1
    · exact rightE_data h.2.2.2.2 e he
theorem rightV_data {l : VLog} (h : rightV l = true) : l.sd.length ≤ 32668 ∧ ∀ e ∈ l.es, e.data.length ≤ 32668 := by
  simp only [rightV, Bool.and_eq_true, decide_eq_true_eq] at h
  exact ⟨h.2.2.2.1, rightE_data h.2.2.2.2.2.2⟩
theorem txtB_le (d : List UInt8) : (txtB d).length ≤ 10 + d.length := by
  unfold txtB
  rw [List.length_append]
  have := numB_len d.length
  omega
theorem backT_le {l : List VEnt} {n : Nat} : ∀ x ∈ backT l n, (encT x).length ≤ 20 := by
  intro x hx
  unfold backT at hx
  split at hx
  · rw [List.mem_singleton] at hx
    subst hx
    simp only [encT, List.length_append]
    have h1 := numB_len 5
    have h2 := numB_len (‹VEnt›).idx
    omega
  · simp at hx
theorem thingsV_le {f t : VLog} {kind : Th} (hk : kind = .beg ∨ kind = .fol) (ht : rightV t = true) : ∀ x ∈ (thingsV f t kind).map encT, x.length ≤ 32768 := by
  obtain ⟨h1, h2⟩ := rightV_data ht
  intro y hy
  obtain ⟨x, hx, rfl⟩ := List.mem_map.1 hy
  unfold thingsV at hx
  simp only [List.mem_append, List.mem_singleton] at hx
  have n0 := numB_len
  rcases hx with rfl | hx | hx | hx | hx | rfl
  · rcases hk with rfl | rfl
    · exact Nat.le_trans (n0 1) (by omega)
    · exact Nat.le_trans (n0 2) (by omega)
  · split at hx
    · simp at hx
    · rw [List.mem_singleton] at hx
      subst hx
      simp only [encT, List.length_append]
      have a1 := n0 3
      have a2 := n0 t.term
      have a3 := n0 t.vote.toNat
      omega
  · split at hx
    · simp at hx
    · rw [List.mem_singleton] at hx
      subst hx
      simp only [encT, List.length_append]
      have a1 := n0 4
      have a2 := n0 t.si
      have a3 := n0 t.st
      have a4 := txtB_le t.sd
      omega
  · exact Nat.le_trans (backT_le x hx) (by omega)
  · obtain ⟨e, he, rfl⟩ := List.mem_map.1 hx
    have := h2 e (List.mem_of_mem_drop he)
    simp only [encT, List.length_append]
    have a1 := n0 6
    have a2 := n0 e.term
    have a4 := txtB_le e.data
    omega
  · exact Nat.le_trans (n0 7) (by omega)
theorem packB_length (lim : Nat) : ∀ (ts : List (List UInt8)) (b : List UInt8), (packB lim b ts).length ≤ ts.length + 1
  | [], b => by simp [packB]
  | t :: r, b => by
    unfold packB
    split
    · have := packB_length lim r t
      simp only [List.length_cons]
      omega
    · have := packB_length lim r (b ++ t)
      simp only [List.length_cons]
      omega
theorem thingsV_length (f t : VLog) (kind : Th) : (thingsV f t kind).length ≤ t.es.length + 5 := by
  unfold thingsV
  have hb : ∀ (l : List VEnt) (n : Nat), (backT l n).length ≤ 1 := fun l n => by unfold backT; split <;> simp
  have hh : ∀ (p : Prop) [Decidable p] (x : Th), (if p then [] else [x]).length ≤ 1 := fun p _ x => by split <;> simp
  simp only [List.length_append, List.length_singleton, List.length_map, List.length_drop]
  have h1 := hb (if f.si = t.si ∧ f.st = t.st ∧ f.sd = t.sd then f else changeV f t.si t.st t.sd).es (comN (if f.si = t.si ∧ f.st = t.st ∧ f.sd = t.sd then f else changeV f t.si t.st t.sd).es t.es)
  have h2 := hh (f.term = t.term ∧ f.vote = t.vote) (.hard t.term t.vote.toNat)
  have h3 := hh (f.si = t.si ∧ f.st = t.st ∧ f.sd = t.sd) (.snap t.si t.st t.sd)
  omega
theorem recordsV_length (f t : VLog) (kind : Th) : (recordsV f t kind).length ≤ t.es.length + 6 := by
  unfold recordsV
  have h1 := packB_length 32768 ((thingsV f t kind).map encT) []
  have h2 := thingsV_length f t kind
  rw [List.length_map] at h1
  omega
theorem recordsV_le {f t : VLog} {kind : Th} (hk : kind = .beg ∨ kind = .fol) (ht : rightV t = true) : ∀ r ∈ recordsV f t kind, r.length ≤ 32768 :=
  packB_le 32768 _ [] (by simp) (thingsV_le hk ht)
end Go.Proofs.YtnlhjhpikjmoaaaGreatDoor
