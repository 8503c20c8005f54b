/- A log on a disk: writes that wait, whole or torn. No walk. -/
import Derived.Test.YtlnnfdjhejdgdaaV3
namespace Go.Proofs.Ytlnnfdjhejdgdaa
open Go.RowKit

theorem mod_ne {s a b m : Nat} (ha : a < m) (hb : b < m) (hab : a ≠ b) : (s + a) % m ≠ (s + b) % m := fun h => by
  rcases Nat.lt_or_gt_of_ne hab with hlt | hlt
  · have := Nat.sub_mod_eq_zero_of_mod_eq h.symm
    rw [show s + b - (s + a) = b - a by omega, Nat.mod_eq_of_lt (by omega)] at this
    omega
  · have := Nat.sub_mod_eq_zero_of_mod_eq h
    rw [show s + a - (s + b) = a - b by omega, Nat.mod_eq_of_lt (by omega)] at this
    omega
theorem secsB_mem {T : Nat} {b s : List UInt8} (h : s ∈ secsB T b) : ∃ p : List UInt8, p.length ≤ 48 ∧ s = secB T p := by
  unfold secsB at h
  obtain ⟨k, _, rfl⟩ := List.mem_map.1 h
  exact ⟨_, partB_le _ _, rfl⟩
theorem secs_mem {T : Nat} {us : List (List UInt8)} {s : List UInt8} (h : s ∈ secs T us) : ∃ p : List UInt8, p.length ≤ 48 ∧ s = secB T p := by
  unfold secs at h
  obtain ⟨b, _, hb⟩ := List.mem_flatMap.1 h
  exact secsB_mem hb
theorem Chain.cong {I I' : List (List UInt8)} {ring T : Nat} : ∀ {r : List (Nat × List UInt8)} {p : Nat}, (∀ o, o < secSum (r.map (·.2)) → ringAt I' ring (p + o) = ringAt I ring (p + o)) → Chain I ring T p r → Chain I' ring T p r
  | [], _, _, _ => trivial
  | x :: r, p, h, hc => by
    rw [List.map_cons, secSum_cons] at h
    refine ⟨⟨hc.1.1, hc.1.2.1, hc.1.2.2.1, fun k hk => (h k (by omega)).trans (hc.1.2.2.2 k hk)⟩, Chain.cong (fun o ho => ?_) hc.2⟩
    rw [Nat.add_assoc]
    exact h _ (by omega)
theorem chain_of {I : List (List UInt8)} {ring T : Nat} (hT : 0 < T) : ∀ {us : List (List UInt8)} {p : Nat}, (∀ u ∈ us, u.length ≤ 32768) → (∀ j s, (secs T us)[j]? = some s → ringAt I ring (p + j) = s) → Chain I ring T p (us.map fun b => (T, b))
  | [], _, _, _ => trivial
  | u :: us, p, hu, h => ⟨⟨hT, Nat.le_refl _, hu u (by simp), fun k hk => h k _ (secs_head T u us hk)⟩, chain_of hT (fun v hv => hu v (List.mem_cons_of_mem _ hv)) fun j s hs => by
      rw [Nat.add_assoc]
      exact h _ s (by rw [secs_tail]; exact hs)⟩
theorem ringAt_set {I : List (List UInt8)} {n : Nat} (hn : I.length = n) (h3 : 3 ≤ n) (q : Nat) (s : List UInt8) (p : Nat) : ringAt (I.set (2 + q % (n - 2)) s) (n - 2) p = if p % (n - 2) = q % (n - 2) then s else ringAt I (n - 2) p := by
  have hq := Nat.mod_lt q (show 0 < n - 2 by omega)
  unfold ringAt
  rw [List.getD_eq_getElem?_getD, List.getElem?_set]
  by_cases h : p % (n - 2) = q % (n - 2)
  · rw [if_pos (by omega), if_pos (by omega), if_pos h]
    rfl
  · rw [if_neg (by omega), if_neg h, List.getD_eq_getElem?_getD]
theorem torn_same (s : List UInt8) (k : Nat) : torn s s k = s := List.take_append_drop _ _
section
variable {I : List (List UInt8)} {n T first start nx : Nat} {rs : List (Nat × List UInt8)} {us : List (List UInt8)}
theorem Img.tear (h : Img I n T first start nx rs us) {j : Nat} {s : List UInt8} (hj : (secs T us)[j]? = some s) (k : Nat) :
    Img (I.set (2 + (start + secSum (rs.map (·.2)) + j) % (n - 2)) (torn s (ringAt I (n - 2) (start + secSum (rs.map (·.2)) + j)) k)) n T first start nx rs us := by
  have hfit := h.fit
  have h3 := h.bas.n3
  have hT1 := h.bas.T1
  have hjl : j < secSum us := by rw [← secs_len T]; exact (List.getElem?_eq_some_iff.1 hj).1
  obtain ⟨p, hp, rfl⟩ := secs_mem (List.mem_of_getElem? hj)
  have hm := Nat.mod_lt (start + secSum (rs.map (·.2)) + j) (show 0 < n - 2 by omega)
  have hold : Sm (ringAt I (n - 2) (start + secSum (rs.map (·.2)) + j)) := h.bas.sm _ (by omega)
  obtain ⟨hsm, hc⟩ := torn_cases (secB_sm hT1 hp) hold k
  have hbk : sback (secB T p) = T := secB_back _ _ hp (by omega)
  have hb0 := h.bas.back (start + secSum (rs.map (·.2)) + j)
  have hlow : ∀ i, i < 2 → (I.set (2 + (start + secSum (rs.map (·.2)) + j) % (n - 2)) (torn (secB T p) (ringAt I (n - 2) (start + secSum (rs.map (·.2)) + j)) k)).getD i [] = I.getD i [] := fun i hi => by
    rw [List.getD_eq_getElem?_getD, List.getElem?_set_ne (by omega), List.getD_eq_getElem?_getD]
  have h2 : ∀ x, x % 2 < 2 := fun x => Nat.mod_lt _ (by omega)
  have hset := ringAt_set h.bas.len h3 (start + secSum (rs.map (·.2)) + j) (torn (secB T p) (ringAt I (n - 2) (start + secSum (rs.map (·.2)) + j)) k)
  refine ⟨⟨by rw [List.length_set]; exact h.bas.len, h3, h.bas.n64, fun i hi => ?_, hT1, h.bas.st, fun q => ?_, Chain.cong (fun o ho => ?_) h.bas.chain, h.bas.fit, by rw [hlow _ (h2 _)]; exact h.bas.hd, h.bas.f64⟩, h.T0, h.usl, hfit, fun i hi => ?_, by rw [hlow _ (h2 _)]; exact h.head, h.nx1, h.nx2, h.nxT, by rw [hlow _ (h2 _)]; exact h.other⟩
  · rw [List.getD_eq_getElem?_getD, List.getElem?_set]
    split
    · rw [if_pos (by rw [h.bas.len]; omega)]
      exact hsm
    · rw [← List.getD_eq_getElem?_getD]
      exact h.bas.sm i hi
  · rw [hset]
    split
    · rcases hc with e | ⟨_, e⟩ | e
      · rw [e]; exact hb0
      · rw [e]; exact hb0
      · rw [e, hbk]; exact Nat.le_refl _
    · exact h.bas.back q
  · rw [hset, Nat.add_assoc start, if_neg (mod_ne (by omega) (by omega) (by omega))]
  · rw [hset]
    by_cases hij : i = j
    · subst hij
      rw [if_pos rfl]
      rcases h.free i hi with e | e
      · rw [hj] at e
        rw [← Option.some.inj e, torn_same]
        exact .inl hj
      · rcases hc with e' | ⟨_, e'⟩ | e'
        · rw [e']; exact .inr e
        · rw [e']; exact .inr e
        · rw [e']; exact .inl hj
    · rw [if_neg (by rw [Nat.add_assoc start, Nat.add_assoc start]; exact mod_ne (by omega) (by omega) (by omega))]
      exact h.free i hi
theorem torn_all {s o : List UInt8} (hs : s.length = 64) (ho : o.length = 64) : torn s o 64 = s := by
  unfold torn
  rw [List.take_of_length_le (by omega), List.drop_of_length_le (by omega), List.append_nil]
/-- all that waits is written -/
theorem img_keep : ∀ (l : List (List UInt8)) (j0 : Nat) {I : List (List UInt8)}, Img I n T first start nx rs us → j0 + l.length = (secs T us).length → (∀ i, l[i]? = (secs T us)[j0 + i]?) → (∀ j s, j < j0 → (secs T us)[j]? = some s → ringAt I (n - 2) (start + secSum (rs.map (·.2)) + j) = s) →
    Img (keepW I (putsW (n - 2) ((start + secSum (rs.map (·.2)) + j0) % (n - 2)) l)) n T first start nx rs us ∧ ∀ j s, (secs T us)[j]? = some s → ringAt (keepW I (putsW (n - 2) ((start + secSum (rs.map (·.2)) + j0) % (n - 2)) l)) (n - 2) (start + secSum (rs.map (·.2)) + j) = s
  | [], j0, I, h, hl, _, hd => ⟨h, fun j s hs => hd j s (by have := (List.getElem?_eq_some_iff.1 hs).1; rw [List.length_nil] at hl; omega) hs⟩
  | s :: l, j0, I, h, hl, hi, hd => by
    have h3 := h.bas.n3
    have hfit := h.fit
    have hsl := secs_len T us
    rw [List.length_cons] at hl
    have hs0 : (secs T us)[j0]? = some s := by have := hi 0; rw [Nat.add_zero] at this; rw [← this]; rfl
    have hm := Nat.mod_lt (start + secSum (rs.map (·.2)) + j0) (show 0 < n - 2 by omega)
    have hsm : s.length = 64 := by obtain ⟨p, hp, rfl⟩ := secs_mem (List.mem_of_getElem? hs0); exact secB_len _ _ hp
    have ht := h.tear hs0 64
    have hold : Sm (ringAt I (n - 2) (start + secSum (rs.map (·.2)) + j0)) := h.bas.sm _ (by omega)
    rw [torn_all hsm hold.len] at ht
    have := img_keep l (j0 + 1) ht (by omega) (fun i => by have := hi (i + 1); rw [List.getElem?_cons_succ] at this; rw [this, Nat.add_assoc, Nat.add_comm 1]) fun j u hj hu => by
      rw [ringAt_set h.bas.len h3]
      by_cases e : j = j0
      · subst e
        rw [if_pos rfl]
        exact Option.some.inj (hs0.symm.trans hu)
      · rw [if_neg (by rw [Nat.add_assoc start, Nat.add_assoc start]; exact mod_ne (by omega) (by omega) (by omega))]
        exact hd j u (by omega) hu
    rw [putsW, Nat.mod_add_mod]
    rw [← Nat.add_assoc] at this
    exact this
/-- and so it is safe -/
theorem Img.safe (h : Img I n T first start nx rs us) (hc : ∀ j s, (secs T us)[j]? = some s → ringAt I (n - 2) (start + secSum (rs.map (·.2)) + j) = s) : Img I n T first start nx (rs ++ us.map fun b => (T, b)) [] := by
  have hfit := h.fit
  have hs : secSum ((rs ++ us.map fun b => (T, b)).map (·.2)) = secSum (rs.map (·.2)) + secSum us := by rw [List.map_append, snd_pairs, secSum_append]
  refine ⟨h.bas.more (chain_of h.T0 h.usl hc) (by rw [hs]; exact hfit), h.T0, (fun u hu => by cases hu), by rw [hs, secSum_nil]; omega, fun j hj => ?_, h.head, h.nx1, by rw [List.length_append]; have := h.nx2; omega, fun i hi hx => ?_, h.other⟩
  · rw [hs] at hj ⊢
    rcases h.free (secSum us + j) (by omega) with e | e
    · rw [List.getElem?_eq_none (by rw [secs_len]; omega)] at e
      cases e
    · exact .inr (by simpa [Nat.add_assoc] using e)
  · by_cases hlt : i < rs.length
    · rw [List.getElem_append_left hlt]
      exact h.nxT i hlt hx
    · rw [List.getElem_append_right (by omega)]
      simp
/-- one more waits -/
theorem Img.wait (h : Img I n T first start nx rs us) {b : List UInt8} (hb : b.length ≤ 32768) (hf : secSum (rs.map (·.2)) + secSum us + secN b.length ≤ n - 2) : Img I n T first start nx rs (us ++ [b]) := by
  have e1 : secSum (us ++ [b]) = secSum us + secN b.length := by rw [secSum_append]; simp [secSum]
  refine ⟨h.bas, h.T0, fun u hu => (List.mem_append.1 hu).elim (h.usl u) fun e => by rw [List.mem_singleton.1 e]; exact hb, by rw [e1]; omega, fun j hj => ?_, h.head, h.nx1, h.nx2, h.nxT, h.other⟩
  rcases h.free j hj with e | e
  · refine .inl ?_
    rw [secs_append, List.getElem?_append_left (List.getElem?_eq_some_iff.1 e).1]
    exact e
  · exact .inr e
end
theorem putsW_append (ring : Nat) : ∀ (a b : List (List UInt8)) (x : Nat), x < ring → putsW ring x (a ++ b) = putsW ring x a ++ putsW ring ((x + a.length) % ring) b
  | [], b, x, h => by rw [List.length_nil, Nat.add_zero, Nat.mod_eq_of_lt h]; rfl
  | s :: a, b, x, h => by
    rw [List.cons_append, putsW, putsW, putsW_append ring a b _ (Nat.mod_lt _ (by omega)), Nat.mod_add_mod, List.length_cons, List.cons_append, show x + 1 + a.length = x + (a.length + 1) by omega]
end Go.Proofs.Ytlnnfdjhejdgdaa
