/- What a log finds on a disk. No walk. -/
import Derived.Test.YtlnnfdjhejdgdaaV1
namespace Go.Proofs.Ytlnnfdjhejdgdaa
open Go.RowKit

theorem secSum_cons (b : List UInt8) (r : List (List UInt8)) : secSum (b :: r) = secN b.length + secSum r := by simp [secSum]
theorem secSum_nil : secSum [] = 0 := rfl
/-- what stands at a place of the ring -/
def ringAt (I : List (List UInt8)) (ring p : Nat) : List UInt8 := I.getD (2 + p % ring) []
/-- records that stand in the ring, each with its turn -/
def Chain (I : List (List UInt8)) (ring T : Nat) : Nat → List (Nat × List UInt8) → Prop
  | _, [] => True
  | p, x :: r => (0 < x.1 ∧ x.1 ≤ T ∧ x.2.length ≤ 32768 ∧ ∀ k, k < secN x.2.length → ringAt I ring (p + k) = secB x.1 (partB x.2 k)) ∧ Chain I ring T (p + secN x.2.length) r
theorem Chain.append {I : List (List UInt8)} {ring T : Nat} : ∀ {r : List (Nat × List UInt8)} {p : Nat} {q : List (Nat × List UInt8)}, Chain I ring T p r → Chain I ring T (p + secSum (r.map (·.2))) q → Chain I ring T p (r ++ q)
  | [], p, q, _, h => by rw [List.map_nil, secSum_nil, Nat.add_zero] at h; exact h
  | x :: r, p, q, h1, h2 => ⟨h1.1, Chain.append h1.2 (by rw [List.map_cons, secSum_cons] at h2; rw [Nat.add_assoc]; exact h2)⟩
theorem Chain.drop {I : List (List UInt8)} {ring T : Nat} : ∀ {r : List (Nat × List UInt8)} {p : Nat} (k : Nat), Chain I ring T p r → Chain I ring T (p + secSum ((r.take k).map (·.2))) (r.drop k)
  | [], p, k, _ => by rw [List.drop_nil]; trivial
  | x :: r, p, 0, h => h
  | x :: r, p, k + 1, h => by
    have := Chain.drop k h.2
    rw [List.take_succ_cons, List.map_cons, secSum_cons, ← Nat.add_assoc]
    exact this
theorem Chain.up {I I' : List (List UInt8)} {ring T T' : Nat} (hT : T ≤ T') (hI : ∀ p, ringAt I' ring p = ringAt I ring p) : ∀ {r : List (Nat × List UInt8)} {p : Nat}, Chain I ring T p r → Chain I' ring T' p r
  | [], _, _ => trivial
  | x :: r, p, h => ⟨⟨h.1.1, Nat.le_trans h.1.2.1 hT, h.1.2.2.1, fun k hk => (hI _).trans (h.1.2.2.2 k hk)⟩, Chain.up hT hI h.2⟩
theorem ringAt_mod (I : List (List UInt8)) (ring p k : Nat) : ringAt I ring (p % ring + k) = ringAt I ring (p + k) := by
  unfold ringAt
  rw [Nat.mod_add_mod]
/-- the places of records -/
def plc (ring : Nat) : Nat → List (List UInt8) → List Nat
  | _, [] => []
  | p, b :: r => p % ring :: plc ring (p + secN b.length) r
theorem plc_append (ring : Nat) : ∀ (r : List (List UInt8)) (p : Nat) (b : List UInt8), plc ring p (r ++ [b]) = plc ring p r ++ [(p + secSum r) % ring]
  | [], p, b => by simp [plc, secSum]
  | x :: r, p, b => by rw [List.cons_append, plc, plc, plc_append ring r, secSum_cons, List.cons_append, Nat.add_assoc]
theorem plc_len (ring : Nat) : ∀ (r : List (List UInt8)) (p : Nat), (plc ring p r).length = r.length
  | [], _ => rfl
  | x :: r, p => by rw [plc, List.length_cons, plc_len ring r, List.length_cons]
theorem plc_drop (ring : Nat) : ∀ (r : List (List UInt8)) (p k : Nat), (plc ring p r).drop k = plc ring (p + secSum (r.take k)) (r.drop k)
  | [], p, k => by simp [plc]
  | x :: r, p, 0 => rfl
  | x :: r, p, k + 1 => by rw [plc, List.drop_succ_cons, plc_drop ring r, List.take_succ_cons, secSum_cons, List.drop_succ_cons, Nat.add_assoc]
theorem plc_get (ring : Nat) : ∀ (r : List (List UInt8)) (p k : Nat) (h : k < (plc ring p r).length), (plc ring p r)[k] = (p + secSum (r.take k)) % ring
  | x :: r, p, 0, h => by simp [plc, secSum]
  | x :: r, p, k + 1, h => by
    have := plc_get ring r (p + secN x.length) k (by simpa [plc] using h)
    simp only [plc, List.getElem_cons_succ, List.take_succ_cons, secSum_cons, this, Nat.add_assoc]
  | [], p, k, h => by simp [plc] at h
/-- a log that has these records, from a place on -/
def lgS (T first ring start : Nat) (bs_ : List (List UInt8)) : LogD := ⟨false, T, first, bs_, plc ring start bs_, (start + secSum bs_) % ring, secSum bs_, false⟩
theorem lgS_took (T first ring start : Nat) (r : List (List UInt8)) (b : List UInt8) : took (lgS T first ring start r) b ring = lgS T first ring start (r ++ [b]) := by
  unfold took lgS
  simp only [plc_append, secSum_append, show secSum [b] = secN b.length by simp [secSum], Nat.mod_add_mod, Nat.add_assoc]
section
variable {d : DskD} {I : List (List UInt8)} {n : Nat}
structure Sees (d : DskD) (I : List (List UInt8)) (n : Nat) : Prop where
  up : d.down = false
  len : d.kept.length = n
  img : keepW d.kept d.wait = I
  n3 : 3 ≤ n
theorem Sees.at_ (h : Sees d I n) (p k : Nat) : d.read ((2 + (p % (n - 2) + k) % (n - 2) : Nat) : Int) = (ringAt I (n - 2) (p + k), 0) := by
  have h3 := h.n3
  have hm := Nat.mod_lt (p % (n - 2) + k) (show 0 < n - 2 by omega)
  rw [read_up h.up (by rw [h.len]; omega), h.img, ← ringAt_mod]
  rfl
theorem next_all (h : Sees d I n) {T first start t tt : Nat} {r : List (List UInt8)} {b : List UInt8} (hb : b.length ≤ 32768) (h0 : 0 < tt) (h64 : tt < 18446744073709551616) (ht : t = 0 ∨ t = tt) (hfit : secSum r + secN b.length ≤ n - 2)
    (hr : ∀ k, k < secN b.length → ringAt I (n - 2) (start + secSum r + k) = secB tt (partB b k)) : nextL (lgS T first (n - 2) start r) d t = (b, true, 0) := by
  have := nextF_all (d := d) (e0 := (start + secSum r) % (n - 2)) (ring := n - 2) hb h0 h64 ht (fun k hk => by rw [h.at_, hr k hk]) (secN b.length) 0 (by omega) (n - 2 - secSum r) (by omega)
  rw [accR_zero, if_pos rfl] at this
  unfold nextL
  rw [h.len]
  exact this
theorem next_cut (h : Sees d I n) {T first start t tt : Nat} {r : List (List UInt8)} {b : List UInt8} (hb : b.length ≤ 32768) (h0 : 0 < tt) (h64 : tt < 18446744073709551616) (ht : t = 0 ∨ t = tt) {j : Nat} (hj : j < secN b.length)
    (hr : ∀ k, k < j → ringAt I (n - 2) (start + secSum r + k) = secB tt (partB b k)) (hm : misT (ringAt I (n - 2) (start + secSum r + j)) t) : nextL (lgS T first (n - 2) start r) d t = ([], false, 0) := by
  have := nextF_cut (d := d) (e0 := (start + secSum r) % (n - 2)) (ring := n - 2) hb h0 h64 ht hj (fun k hk => by rw [h.at_, hr k hk]) (h.at_ _ _) hm j 0 (by omega) (n - 2 - secSum r)
  rw [accR_zero, if_pos rfl] at this
  unfold nextL
  rw [h.len]
  exact this
theorem next_full {T first start t : Nat} {r : List (List UInt8)} (h : Sees d I n) (hfull : secSum r = n - 2) : nextL (lgS T first (n - 2) start r) d t = ([], false, 0) := by
  unfold nextL
  rw [h.len, show n - 2 - (lgS T first (n - 2) start r).used = 0 from by show n - 2 - secSum r = 0; omega, nextF, if_pos (.inl rfl)]
theorem back_mis {s : List UInt8} {T : Nat} (h : sback s < T) : misT s T := by
  unfold misT
  unfold sback at h
  omega
theorem findT_yes {T first nx start e0 : Nat} {r : List (List UInt8)} (hx : nx ≤ first + r.length) : findT ⟨T, first, nx, start, e0⟩ (lgS T first (n - 2) start r) = T := if_pos hx
theorem findT_no {T first nx start e0 : Nat} {r : List (List UInt8)} (hx : ¬ nx ≤ first + r.length) : findT ⟨T, first, nx, start, e0⟩ (lgS T first (n - 2) start r) = 0 := if_neg hx
theorem find_some (h : Sees d I n) {T first start e0 nx : Nat} (hT : T < 18446744073709551616) : ∀ (q : List (Nat × List UInt8)) (r : List (List UInt8)) (k : Nat), Chain I (n - 2) T (start + secSum r) q → secSum r + secSum (q.map (·.2)) ≤ n - 2 →
    (∀ i (hi : i < q.length), nx ≤ first + (r.length + i) → q[i].1 = T) → 0 < T →
    findF d ⟨T, first, nx, start, e0⟩ (k + q.length) (lgS T first (n - 2) start r) = findF d ⟨T, first, nx, start, e0⟩ k (lgS T first (n - 2) start (r ++ q.map (·.2)))
  | [], r, k, _, _, _, _ => by simp
  | x :: q, r, k, hc, hf, hx, h0 => by
    rw [List.map_cons, secSum_cons] at hf
    have ht : findT ⟨T, first, nx, start, e0⟩ (lgS T first (n - 2) start r) = 0 ∨ findT ⟨T, first, nx, start, e0⟩ (lgS T first (n - 2) start r) = x.1 := by
      by_cases hle : nx ≤ first + r.length
      · exact .inr ((findT_yes hle).trans (hx 0 (by simp) hle).symm)
      · exact .inl (findT_no hle)
    have hne : ¬ (findT ⟨T, first, nx, start, e0⟩ (lgS T first (n - 2) start r) = 0 ∧ (HeadD.mk T first nx start e0).next ≤ (lgS T first (n - 2) start r).first + (lgS T first (n - 2) start r).recs.length) := fun hh => by
      have := findT_yes (T := T) (start := start) (e0 := e0) (n := n) (r := r) (first := first) (nx := nx) hh.2
      rw [this] at hh
      omega
    have hnx := next_all h (T := T) (first := first) (start := start) (r := r) (b := x.2) hc.1.2.2.1 hc.1.1 (by have := hc.1.2.1; omega) ht (by omega) hc.1.2.2.2
    rw [List.length_cons, ← Nat.add_assoc, findF, if_neg hne, hnx]
    simp only
    rw [if_neg (by simp), h.len, lgS_took, find_some h hT q (r ++ [x.2]) k (by rw [secSum_append, show secSum [x.2] = secN x.2.length by simp [secSum], ← Nat.add_assoc]; exact hc.2) (by rw [secSum_append, show secSum [x.2] = secN x.2.length by simp [secSum]]; omega)
      (fun i hi hn => by have := hx (i + 1) (by simpa using hi) (by rw [List.length_append, List.length_singleton] at hn; omega); simpa using this) h0, List.append_assoc, List.map_cons]
    rfl
theorem find_stop {T first start e0 nx k : Nat} {r : List (List UInt8)} (h0 : 0 < T) (hn : nextL (lgS T first (n - 2) start r) d T = ([], false, 0)) (hx : nx ≤ first + r.length) :
    findF d ⟨T, first, nx, start, e0⟩ k (lgS T first (n - 2) start r) = (lgS T first (n - 2) start r, 0) := by
  cases k with
  | zero => rfl
  | succ k =>
    have ht : findT ⟨T, first, nx, start, e0⟩ (lgS T first (n - 2) start r) = T := by
      unfold findT
      exact if_pos hx
    rw [findF, ht, hn, if_neg (by omega)]
    simp
theorem least (P : Nat → Prop) : ∀ N, (∀ k, k < N → P k) ∨ ∃ j, j < N ∧ (∀ k, k < j → P k) ∧ ¬ P j
  | 0 => .inl fun k hk => absurd hk (Nat.not_lt_zero _)
  | N + 1 => by
    rcases least P N with h | ⟨j, h1, h2, h3⟩
    · by_cases hp : P N
      · exact .inl fun k hk => by
          by_cases e : k = N
          · exact e ▸ hp
          · exact h k (by omega)
      · exact .inr ⟨N, Nat.lt_succ_self _, h, hp⟩
    · exact .inr ⟨j, Nat.lt_succ_of_lt h1, h2, h3⟩
/-- the sectors of records -/
def secs (T : Nat) (us : List (List UInt8)) : List (List UInt8) := us.flatMap (secsB T)
theorem secs_len (T : Nat) : ∀ us : List (List UInt8), (secs T us).length = secSum us
  | [] => rfl
  | u :: us => by
    have := secs_len T us
    unfold secs at *
    rw [List.flatMap_cons, List.length_append, this, secsB_len, secSum_cons]
theorem secs_append (T : Nat) (us vs : List (List UInt8)) : secs T (us ++ vs) = secs T us ++ secs T vs := by unfold secs; rw [List.flatMap_append]
theorem secsB_get (T : Nat) (b : List UInt8) {k : Nat} (hk : k < secN b.length) : (secsB T b)[k]? = some (secB T (partB b k)) := by
  unfold secsB
  rw [List.getElem?_map, List.getElem?_range hk]
  rfl
theorem secs_head (T : Nat) (u : List UInt8) (us : List (List UInt8)) {k : Nat} (hk : k < secN u.length) : (secs T (u :: us))[k]? = some (secB T (partB u k)) := by
  show (secsB T u ++ secs T us)[k]? = _
  rw [List.getElem?_append_left (by rw [secsB_len]; exact hk), secsB_get T u hk]
theorem secs_tail (T : Nat) (u : List UInt8) (us : List (List UInt8)) (j : Nat) : (secs T (u :: us))[secN u.length + j]? = (secs T us)[j]? := by
  show (secsB T u ++ secs T us)[secN u.length + j]? = _
  rw [List.getElem?_append_right (by rw [secsB_len]; omega), secsB_len, Nat.add_sub_cancel_left]
/-- of what may be there, a beginning is there -/
theorem find_more (h : Sees d I n) {T first start e0 nx : Nat} (h0 : 0 < T) (h64 : T < 18446744073709551616) : ∀ (us : List (List UInt8)) (r : List (List UInt8)) (k : Nat), us.length < k → (∀ u ∈ us, u.length ≤ 32768) → secSum r + secSum us ≤ n - 2 → nx ≤ first + r.length →
    (∀ j, secSum r + j < n - 2 → (secs T us)[j]? = some (ringAt I (n - 2) (start + secSum r + j)) ∨ sback (ringAt I (n - 2) (start + secSum r + j)) < T) →
    ∃ m, m ≤ us.length ∧ findF d ⟨T, first, nx, start, e0⟩ k (lgS T first (n - 2) start r) = (lgS T first (n - 2) start (r ++ us.take m), 0) ∧ Chain I (n - 2) T (start + secSum r) ((us.take m).map fun b => (T, b)) ∧
      ((∀ j s, (secs T us)[j]? = some s → ringAt I (n - 2) (start + secSum r + j) = s) → m = us.length)
  | [], r, k, hk, _, hf, hx, hfree => by
    refine ⟨0, Nat.le_refl _, ?_, trivial, fun _ => rfl⟩
    rw [List.take_nil, List.append_nil]
    refine find_stop h0 ?_ hx
    by_cases hfull : secSum r = n - 2
    · exact next_full h hfull
    · rw [secSum_nil] at hf
      refine next_cut h (b := []) (tt := T) (by simp) h0 h64 (.inr rfl) (j := 0) (secN_pos _) (fun k hk => absurd hk (Nat.not_lt_zero _)) ?_
      rcases hfree 0 (by omega) with hs | hs
      · simp [secs] at hs
      · exact back_mis hs
  | u :: us, r, k, hk, hu, hf, hx, hfree => by
    rw [secSum_cons] at hf
    have hul := hu u (by simp)
    rcases least (fun j => ringAt I (n - 2) (start + secSum r + j) = secB T (partB u j)) (secN u.length) with hall | ⟨j, hj, hbef, hnot⟩
    · obtain ⟨k, rfl⟩ : ∃ k', k = k' + 1 := ⟨k - 1, by omega⟩
      have hnx := next_all h (T := T) (first := first) (start := start) (t := T) (r := r) hul h0 h64 (.inr rfl) (by omega) hall
      have e1 : secSum (r ++ [u]) = secSum r + secN u.length := by rw [secSum_append]; simp [secSum]
      obtain ⟨m, hm, he, hc, hw⟩ := find_more h (first := first) (e0 := e0) (nx := nx) h0 h64 us (r ++ [u]) k (by rw [List.length_cons] at hk; omega) (fun v hv => hu v (List.mem_cons_of_mem _ hv)) (by rw [e1]; omega) (by rw [List.length_append]; omega)
        (fun j hj => by
          rw [e1] at hj ⊢
          have := hfree (secN u.length + j) (by omega)
          rw [secs_tail] at this
          simpa [Nat.add_assoc] using this)
      have ht : findT ⟨T, first, nx, start, e0⟩ (lgS T first (n - 2) start r) = T := by
        unfold findT
        exact if_pos hx
      refine ⟨m + 1, by rw [List.length_cons]; omega, ?_, ⟨⟨h0, Nat.le_refl _, hul, hall⟩, by rw [e1, ← Nat.add_assoc] at hc; exact hc⟩, fun hcomp => ?_⟩
      · rw [findF, ht, hnx, if_neg (by omega)]
        simp only
        rw [if_neg (by simp), h.len, lgS_took, he, List.append_assoc]
        rfl
      · rw [List.length_cons, hw fun j s hs => ?_]
        rw [e1, ← Nat.add_assoc, Nat.add_assoc (start + secSum r)]
        exact hcomp _ s (by rw [secs_tail]; exact hs)
    · refine ⟨0, Nat.zero_le _, ?_, trivial, fun hcomp => absurd (hcomp j _ (secs_head T u us hj)) hnot⟩
      rw [List.take_zero, List.append_nil]
      refine find_stop h0 (next_cut h hul h0 h64 (.inr rfl) hj hbef ?_) hx
      have hjn : j < secN u.length := hj
      rcases hfree j (by omega) with hs | hs
      · rw [secs_head T u us hj] at hs
        exact absurd (Option.some.inj hs).symm hnot
      · exact back_mis hs
end
end Go.Proofs.Ytlnnfdjhejdgdaa
