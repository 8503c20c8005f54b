/- Plain: what tuple.Dec says of the beginning of a row's bytes. -/
import Derived.Test.YtikkknaofiafhaaDec
namespace Go.Proofs.Ytikkknaofiafhaa
open Go.RowKit

theorem textD_cut (s : List UInt8) : ∀ (acc : List UInt8) (j : Nat), acc.length + s.length ≤ 20 → j < (textB s).length + 2 → textD acc ((textB s ++ [0, 1]).take j) = .inr 8 := by
  induction s with
  | nil =>
    intro acc j _ hj
    rw [textB_nil] at *
    match j, hj with
    | 0, _ => rfl
    | 1, _ => exact textD_01 acc
  | cons c s ih =>
    intro acc j h hj
    simp only [List.length_cons] at h
    have e : textB (c :: s) = escB c ++ textB s := rfl
    rw [e] at hj ⊢
    by_cases hc : c = 0
    · subst hc
      simp only [escB, if_pos, List.append_assoc, List.cons_append, List.nil_append, List.length_cons] at hj ⊢
      match j, hj with
      | 0, _ => rfl
      | 1, _ => exact textD_01 acc
      | j + 2, hj =>
        rw [List.take_succ_cons, List.take_succ_cons, textD_0, if_neg (by decide), if_pos rfl, if_neg (by omega)]
        exact ih _ j (by simp; omega) (by omega)
    · simp only [escB, if_neg hc, List.append_assoc, List.cons_append, List.nil_append, List.length_cons] at hj ⊢
      match j, hj with
      | 0, _ => rfl
      | j + 1, hj =>
        rw [List.take_succ_cons, textD_c _ _ _ hc, if_neg (by omega)]
        exact ih _ j (by simp; omega) (by omega)

theorem takeD_cut (x : Val) (hx : x.right = true) (d : Nat) (h0 : 0 < d) (hd : d < (encV x).length) : takeD ((encV x).take d) = .inr 8 := by
  obtain ⟨k, i, s⟩ := x
  obtain ⟨d, rfl⟩ : ∃ d', d = d' + 1 := ⟨d - 1, by omega⟩
  rcases right_cases hx with ⟨rfl, rfl, hs⟩ | ⟨rfl, hs⟩ | ⟨rfl, rfl, hs⟩
  · simp [encV] at hd
  · have h1 : encV ⟨1, i, s⟩ = 2 :: intB i := by simp [encV]
    rw [h1] at hd ⊢
    rw [List.length_cons, intB_length] at hd
    rw [List.take_succ_cons, takeD, if_neg (by decide), if_pos rfl, if_pos (by rw [List.length_take, intB_length]; omega)]
  · have h1 : encV ⟨2, 0, s⟩ = 3 :: (textB s.data.toList ++ [0, 1]) := by simp [encV]
    rw [h1] at hd ⊢
    rw [List.length_cons, List.length_append] at hd
    rw [List.take_succ_cons, takeD, if_neg (by decide), if_neg (by decide), if_pos rfl, textD_cut _ [] d (by simpa using hs) (by simp at hd; omega)]

theorem decD_cut : ∀ (l : List Val), allRight l = true → okVals l → ∀ (f : Nat) (acc : List Val) (k : Nat), k ≤ (encL l).length → k ≤ f → (∀ i, i ≤ l.length → (encL (l.take i)).length ≠ k) → decD f acc ((encL l).take k) = ([], 8)
  | [], _, _, _, _, k, hk, _, hn => absurd (by simpa [encL] using hk : k = 0) (fun h => hn 0 (by simp) (by simp [encL, h]))
  | x :: l, hr, ho, f, acc, k, hk, hf, hn => by
    have h1 := (allRight_cons x l).1 hr
    have ox : x.ok := ho x (by simp)
    have ol : okVals l := fun y hy => ho y (by simp [hy])
    have hk0 : 0 < k := by
      rcases Nat.eq_zero_or_pos k with h | h
      · exact absurd (by simp [encL, h]) (hn 0 (by simp))
      · exact h
    obtain ⟨f, rfl⟩ : ∃ f', f = f' + 1 := ⟨f - 1, by omega⟩
    rw [encL_cons] at hk ⊢
    by_cases hlt : k < (encV x).length
    · rw [List.take_append_of_le_length (by omega)]
      have ht := takeD_cut x h1.1 k hk0 hlt
      obtain ⟨b, t, hbt⟩ : ∃ b t, (encV x).take k = b :: t := by
        cases hq : (encV x).take k with
        | nil => have := congrArg List.length hq; rw [List.length_take, List.length_nil] at this; omega
        | cons b t => exact ⟨b, t, rfl⟩
      rw [hbt] at ht ⊢
      rw [decD, ht]
    · have hge : (encV x).length ≤ k := by omega
      have hne : (encV x).length ≠ k := by
        have := hn 1 (by simp)
        simpa [encL] using this
      rw [List.take_append, List.take_of_length_le hge]
      have ht := takeD_enc x h1.1 ox ((encL l).take (k - (encV x).length))
      obtain ⟨b, t, hbt, _⟩ := encV_cons x h1.1
      have hlen : 0 < (encV x).length := by rw [hbt]; simp
      have hih := decD_cut l h1.2 ol f (acc ++ [x]) (k - (encV x).length) (by rw [List.length_append] at hk; omega) (by omega) (fun i hi h => hn (i + 1) (by simp; omega) (by rw [List.take_succ_cons, encL_cons, List.length_append]; omega))
      rw [hbt, List.cons_append] at ht ⊢
      rw [decD, ht]
      rw [hbt] at hih
      exact hih

/-- the bytes' beginning that ends with a value -/
theorem decB_whole (l : List Val) (h : allRight l = true) (ho : okVals l) (h16 : l.length ≤ 16) (i : Nat) (k : Nat) (hk : (encL (l.take i)).length = k) : decB ((encL l).take k) = (l.take i, 0) := by
  have e : encL l = encL (l.take i) ++ encL (l.drop i) := by
    unfold encL; rw [← List.flatMap_append, List.take_append_drop]
  rw [e, List.take_append_of_le_length (by omega), List.take_of_length_le (by omega)]
  have h1 : allRight (l.take i) = true := by
    unfold allRight at *
    rw [List.all_eq_true] at *
    exact fun x hx => h x (List.mem_of_mem_take hx)
  exact decB_enc _ h1 (fun x hx => ho x (List.mem_of_mem_take hx)) (by rw [List.length_take]; omega)
theorem decB_cut (l : List Val) (h : allRight l = true) (ho : okVals l) (k : Nat) (hk : k ≤ (encL l).length) (hn : ∀ i, i ≤ l.length → (encL (l.take i)).length ≠ k) : decB ((encL l).take k) = ([], 8) := by
  unfold decB
  exact decD_cut l h ho _ [] k hk (by rw [List.length_take]; omega) hn
end Go.Proofs.Ytikkknaofiafhaa
