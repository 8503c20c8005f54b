/- What stands in a sector of a log, and what is read from it. No walk.
What a log finds on a disk. No walk.
A log on a disk: what stands there; writes that are torn; what is found. No walk.
A log on a disk: writes that wait, whole or torn. No walk.
A log that is up, and its disk: what each function leaves, when nothing is hit. No walk. -/
import Derived.Test.YtnlhjhpikjmoaaaGreatDoorW34
namespace Go.Proofs.YtnlhjhpikjmoaaaGreatDoor
open Go.RowKit
def sfront (s : List UInt8) : Nat := rdN s 0
def sback (s : List UInt8) : Nat := rdN s 56
theorem rdN_at (a : List UInt8) (t : Nat) (b : List UInt8) (k : Nat) (hk : a.length = k) (ht : t < 18446744073709551616) : rdN (a ++ be8 t ++ b) k = t := by
  unfold rdN
  rw [List.append_assoc, List.drop_append_of_le_length (by omega), ← hk, List.drop_length, List.nil_append, List.take_append_of_le_length (by rw [be8_length]; exact Nat.le_refl _), List.take_of_length_le (by rw [be8_length]; exact Nat.le_refl _)]
  exact beNat_be8 t ht
theorem secB_front (t : Nat) (p : List UInt8) (ht : t < 18446744073709551616) : sfront (secB t p) = t := by
  have := rdN_at [] t (p ++ List.replicate (48 - p.length) 0 ++ be8 t) 0 rfl ht
  simpa [sfront, secB] using this
theorem secB_back (t : Nat) (p : List UInt8) (hp : p.length ≤ 48) (ht : t < 18446744073709551616) : sback (secB t p) = t := by
  have := rdN_at (be8 t ++ p ++ List.replicate (48 - p.length) 0) t [] 56 (by simp [be8_length]; omega) ht
  simpa [sback, secB] using this
theorem secB_mid (t : Nat) (p : List UInt8) (hp : p.length ≤ 48) : ((secB t p).drop 8).take 48 = p ++ List.replicate (48 - p.length) 0 := by
  unfold secB
  rw [List.append_assoc, List.append_assoc, List.drop_append_of_le_length (by rw [be8_length]; exact Nat.le_refl _), List.drop_of_length_le (by rw [be8_length]; exact Nat.le_refl _), List.nil_append, ← List.append_assoc, List.take_append_of_le_length (by simp; omega), List.take_of_length_le (by simp; omega)]
theorem hdB_at (t f n s e : Nat) (ht : t < 18446744073709551616) (hf : f < 18446744073709551616) (hn : n < 18446744073709551616) (hs : s < 18446744073709551616) (he : e < 18446744073709551616) :
    readH (hdB t f n s e) = ⟨t, f, n, s, e⟩ ∧ sback (hdB t f n s e) = t := by
  have h0 := rdN_at [] t (be8 f ++ be8 n ++ be8 s ++ be8 e ++ List.replicate 16 0 ++ be8 t) 0 rfl ht
  have h1 := rdN_at (be8 t) f (be8 n ++ be8 s ++ be8 e ++ List.replicate 16 0 ++ be8 t) 8 rfl hf
  have h2 := rdN_at (be8 t ++ be8 f) n (be8 s ++ be8 e ++ List.replicate 16 0 ++ be8 t) 16 rfl hn
  have h3 := rdN_at (be8 t ++ be8 f ++ be8 n) s (be8 e ++ List.replicate 16 0 ++ be8 t) 24 rfl hs
  have h4 := rdN_at (be8 t ++ be8 f ++ be8 n ++ be8 s) e (List.replicate 16 0 ++ be8 t) 32 rfl he
  have h5 := rdN_at (be8 t ++ be8 f ++ be8 n ++ be8 s ++ be8 e ++ List.replicate 16 0) t [] 56 rfl ht
  simp only [List.append_assoc, List.nil_append, List.append_nil] at h0 h1 h2 h3 h4 h5
  unfold readH sback hdB
  simp only [List.append_assoc, h0, h1, h2, h3, h4, h5]
  exact ⟨trivial, trivial⟩
theorem showW_keepW (i : Nat) : ∀ (l : List (Nat × List UInt8)) (k : List (List UInt8)), i < k.length → showW i (k.getD i []) l = (keepW k l).getD i []
  | [], _, _ => rfl
  | p :: l, k, h => by
    show showW i (if p.1 = i then p.2 else k.getD i []) l = (keepW (k.set p.1 p.2) l).getD i []
    rw [← showW_keepW i l (k.set p.1 p.2) (by rw [List.length_set]; exact h)]
    congr 1
    rw [List.getD_eq_getElem?_getD, List.getD_eq_getElem?_getD, List.getElem?_set]
    split
    · rename_i e
      rw [if_pos (by omega)]
      rfl
    · rfl
theorem read_up {d : DskD} (hu : d.down = false) {i : Nat} (hi : i < d.kept.length) : d.read (i : Int) = ((keepW d.kept d.wait).getD i [], 0) := by
  unfold DskD.read
  rw [if_neg (by rw [hu]; decide), if_neg (by omega), Int.toNat_natCast]
  unfold DskD.shown
  rw [showW_keepW i _ _ hi]
def padR (b : List UInt8) : List UInt8 := recB b ++ List.replicate 48 0
def accR (b : List UInt8) (i : Nat) : List UInt8 := (padR b).take (48 * i)
theorem padR_len (b : List UInt8) : (padR b).length = b.length + 51 := by unfold padR; rw [List.length_append, recB_len, List.length_replicate]
theorem accR_len (b : List UInt8) {i : Nat} (hi : i ≤ secN b.length) : (accR b i).length = 48 * i := by
  unfold accR
  rw [List.length_take, padR_len]
  unfold secN at hi
  omega
theorem part_pad (b : List UInt8) {k : Nat} (hk : k < secN b.length) : partB b k ++ List.replicate (48 - (partB b k).length) 0 = ((padR b).drop (48 * k)).take 48 := by
  unfold secN at hk
  have hl := recB_len b
  unfold partB padR
  rw [List.drop_append_of_le_length (by omega), List.take_append, List.take_replicate]
  congr 2
  rw [List.length_take, List.length_drop]
  omega
theorem accR_succ (b : List UInt8) {k : Nat} (hk : k < secN b.length) : accR b k ++ (partB b k ++ List.replicate (48 - (partB b k).length) 0) = accR b (k + 1) := by
  rw [part_pad b hk]
  unfold accR
  rw [Nat.mul_succ, List.take_add]
theorem rd3_acc (b : List UInt8) (hb : b.length ≤ 32768) {i : Nat} (hi : 1 ≤ i) : rd3 (accR b i) = b.length := by
  have h : ∀ j, j < 3 → (accR b i).getD j 0 = (recB b).getD j 0 := fun j hj => by
    unfold accR padR
    rw [List.getD_eq_getElem?_getD, List.getD_eq_getElem?_getD, List.getElem?_take_of_lt (by omega), List.getElem?_append_left (by rw [recB_len]; omega)]
  unfold rd3
  rw [h 0 (by omega), h 1 (by omega), h 2 (by omega)]
  simp only [recB, List.cons_append, List.nil_append, List.getD_eq_getElem?_getD, List.getElem?_cons_zero, List.getElem?_cons_succ, Option.getD_some, UInt8.toNat_ofNat']
  omega
theorem acc_rec (b : List UInt8) {i : Nat} (hi : secN b.length ≤ i) : ((accR b i).drop 3).take b.length = b := by
  unfold secN at hi
  unfold accR
  rw [List.drop_take, List.take_take, Nat.min_eq_left (by omega)]
  unfold padR
  rw [List.drop_append_of_le_length (by rw [recB_len]; omega), show (recB b).drop 3 = b from by simp [recB], List.take_append_of_le_length (Nat.le_refl _), List.take_length]
theorem partB_le (b : List UInt8) (k : Nat) : (partB b k).length ≤ 48 := by unfold partB; rw [List.length_take]; omega
theorem not_misT {s : List UInt8} {t : Nat} (h1 : sfront s ≠ 0) (h2 : sfront s = sback s) (h3 : t = 0 ∨ t = sfront s) : ¬ misT s t := by
  unfold misT
  unfold sfront sback at *
  omega
theorem nextF_step {d : DskD} {e0 ring t tt : Nat} {b : List UInt8} (hb : b.length ≤ 32768) (h0 : 0 < tt) (h64 : tt < 18446744073709551616) (ht : t = 0 ∨ t = tt) {i : Nat} (hi : i < secN b.length)
    (hr : d.read ((2 + (e0 + i) % ring : Nat) : Int) = (secB tt (partB b i), 0)) (k : Nat) :
    nextF d e0 ring t (k + 1) i (accR b i) (if i = 0 then 0 else b.length) = nextF d e0 ring t k (i + 1) (accR b (i + 1)) (if i + 1 = 0 then 0 else b.length) := by
  have hc : i = 0 ∨ (accR b i).length < 3 + (if i = 0 then 0 else b.length) := by
    by_cases h : i = 0
    · exact .inl h
    · refine .inr ?_
      rw [if_neg h, accR_len b (Nat.le_of_lt hi)]
      unfold secN at hi
      omega
  have hm := not_misT (s := secB tt (partB b i)) (t := t) (by rw [secB_front _ _ h64]; omega) (by rw [secB_front _ _ h64, secB_back _ _ (partB_le _ _) h64]) (by rw [secB_front _ _ h64]; exact ht)
  have hn : (if i = 0 then rd3 (accR b (i + 1)) else if i = 0 then 0 else b.length) = b.length := by
    by_cases h : i = 0
    · rw [if_pos h, rd3_acc b hb (by omega)]
    · rw [if_neg h, if_neg h]
  rw [nextF, if_pos hc, hr]
  simp only
  rw [if_neg (by decide), if_neg hm, secB_mid _ _ (partB_le _ _), accR_succ b hi, hn, if_neg (by omega), if_neg (by omega)]
theorem nextF_fin {d : DskD} {e0 ring t : Nat} {b : List UInt8} (k : Nat) : nextF d e0 ring t k (secN b.length) (accR b (secN b.length)) (if secN b.length = 0 then 0 else b.length) = (b, true, 0) := by
  have h1 : secN b.length ≠ 0 := by unfold secN; omega
  have hc : ¬ (secN b.length = 0 ∨ (accR b (secN b.length)).length < 3 + b.length) := by
    rw [accR_len b (Nat.le_refl _)]
    unfold secN at *
    omega
  rw [if_neg h1]
  cases k with
  | zero => rw [nextF, if_neg hc, acc_rec b (Nat.le_refl _)]
  | succ k => rw [nextF, if_neg hc, acc_rec b (Nat.le_refl _)]
theorem nextF_all {d : DskD} {e0 ring t tt : Nat} {b : List UInt8} (hb : b.length ≤ 32768) (h0 : 0 < tt) (h64 : tt < 18446744073709551616) (ht : t = 0 ∨ t = tt)
    (hr : ∀ k, k < secN b.length → d.read ((2 + (e0 + k) % ring : Nat) : Int) = (secB tt (partB b k), 0)) : ∀ m i, i + m = secN b.length → ∀ fuel, m ≤ fuel → nextF d e0 ring t fuel i (accR b i) (if i = 0 then 0 else b.length) = (b, true, 0)
  | 0, i, hi, fuel, _ => by
    rw [Nat.add_zero] at hi
    rw [hi]
    exact nextF_fin fuel
  | m + 1, i, hi, fuel, hf => by
    obtain ⟨k, rfl⟩ : ∃ k, fuel = k + 1 := ⟨fuel - 1, by omega⟩
    rw [nextF_step hb h0 h64 ht (by omega) (hr i (by omega)) k]
    exact nextF_all hb h0 h64 ht hr m (i + 1) (by omega) k (by omega)
theorem nextF_cut {d : DskD} {e0 ring t tt : Nat} {b : List UInt8} (hb : b.length ≤ 32768) (h0 : 0 < tt) (h64 : tt < 18446744073709551616) (ht : t = 0 ∨ t = tt) {j : Nat} (hj : j < secN b.length)
    (hr : ∀ k, k < j → d.read ((2 + (e0 + k) % ring : Nat) : Int) = (secB tt (partB b k), 0)) {s : List UInt8} (hs : d.read ((2 + (e0 + j) % ring : Nat) : Int) = (s, 0)) (hm : misT s t) :
    ∀ m i, i + m = j → ∀ fuel, nextF d e0 ring t fuel i (accR b i) (if i = 0 then 0 else b.length) = ([], false, 0)
  | m, i, hi, fuel => by
    have hc : i = 0 ∨ (accR b i).length < 3 + (if i = 0 then 0 else b.length) := by
      by_cases h : i = 0
      · exact .inl h
      · refine .inr ?_
        rw [if_neg h, accR_len b (by omega)]
        unfold secN at hj
        omega
    cases fuel with
    | zero => rw [nextF, if_pos hc]
    | succ k =>
      cases m with
      | zero =>
        obtain rfl : i = j := by omega
        rw [nextF, if_pos hc, hs]
        simp only
        rw [if_neg (by decide), if_pos hm]
      | succ m =>
        rw [nextF_step hb h0 h64 ht (by omega) (hr i (by omega)) k]
        exact nextF_cut hb h0 h64 ht hj hr hs hm m (i + 1) (by omega) k
theorem accR_zero (b : List UInt8) : accR b 0 = [] := by simp [accR]
end Go.Proofs.YtnlhjhpikjmoaaaGreatDoor
namespace Go.Proofs.YtnlhjhpikjmoaaaGreatDoor
open Go.RowKit
theorem secSum_cons (b : List UInt8) (r : List (List UInt8)) : secSum (b :: r) = secN b.length + secSum r := by simp [secSum]
theorem secSum_nil : secSum [] = 0 := rfl
def ringAt (I : List (List UInt8)) (ring p : Nat) : List UInt8 := I.getD (2 + p % ring) []
def Chain (I : List (List UInt8)) (ring T : Nat) : Nat → List (Nat × List UInt8) → Prop
  | _, [] => True
  | p, x :: r => (0 < x.1 ∧ x.1 ≤ T ∧ x.2.length ≤ 32768 ∧ ∀ k, k < secN x.2.length → ringAt I ring (p + k) = secB x.1 (partB x.2 k)) ∧ Chain I ring T (p + secN x.2.length) r
theorem Chain.append {I : List (List UInt8)} {ring T : Nat} : ∀ {r : List (Nat × List UInt8)} {p : Nat} {q : List (Nat × List UInt8)}, Chain I ring T p r → Chain I ring T (p + secSum (r.map (·.2))) q → Chain I ring T p (r ++ q)
  | [], p, q, _, h => by rw [List.map_nil, secSum_nil, Nat.add_zero] at h; exact h
  | x :: r, p, q, h1, h2 => ⟨h1.1, Chain.append h1.2 (by rw [List.map_cons, secSum_cons] at h2; rw [Nat.add_assoc]; exact h2)⟩
theorem Chain.drop {I : List (List UInt8)} {ring T : Nat} : ∀ {r : List (Nat × List UInt8)} {p : Nat} (k : Nat), Chain I ring T p r → Chain I ring T (p + secSum ((r.take k).map (·.2))) (r.drop k)
  | [], p, k, _ => by rw [List.drop_nil]; trivial
  | x :: r, p, 0, h => h
  | x :: r, p, k + 1, h => by
    have := Chain.drop k h.2
    rw [List.take_succ_cons, List.map_cons, secSum_cons, ← Nat.add_assoc]
    exact this
theorem Chain.up {I I' : List (List UInt8)} {ring T T' : Nat} (hT : T ≤ T') (hI : ∀ p, ringAt I' ring p = ringAt I ring p) : ∀ {r : List (Nat × List UInt8)} {p : Nat}, Chain I ring T p r → Chain I' ring T' p r
  | [], _, _ => trivial
  | x :: r, p, h => ⟨⟨h.1.1, Nat.le_trans h.1.2.1 hT, h.1.2.2.1, fun k hk => (hI _).trans (h.1.2.2.2 k hk)⟩, Chain.up hT hI h.2⟩
theorem ringAt_mod (I : List (List UInt8)) (ring p k : Nat) : ringAt I ring (p % ring + k) = ringAt I ring (p + k) := by
  unfold ringAt
  rw [Nat.mod_add_mod]
def plc (ring : Nat) : Nat → List (List UInt8) → List Nat
  | _, [] => []
  | p, b :: r => p % ring :: plc ring (p + secN b.length) r
theorem plc_append (ring : Nat) : ∀ (r : List (List UInt8)) (p : Nat) (b : List UInt8), plc ring p (r ++ [b]) = plc ring p r ++ [(p + secSum r) % ring]
  | [], p, b => by simp [plc, secSum]
  | x :: r, p, b => by rw [List.cons_append, plc, plc, plc_append ring r, secSum_cons, List.cons_append, Nat.add_assoc]
theorem plc_len (ring : Nat) : ∀ (r : List (List UInt8)) (p : Nat), (plc ring p r).length = r.length
  | [], _ => rfl
  | x :: r, p => by rw [plc, List.length_cons, plc_len ring r, List.length_cons]
theorem plc_drop (ring : Nat) : ∀ (r : List (List UInt8)) (p k : Nat), (plc ring p r).drop k = plc ring (p + secSum (r.take k)) (r.drop k)
  | [], p, k => by simp [plc]
  | x :: r, p, 0 => rfl
  | x :: r, p, k + 1 => by rw [plc, List.drop_succ_cons, plc_drop ring r, List.take_succ_cons, secSum_cons, List.drop_succ_cons, Nat.add_assoc]
theorem plc_get (ring : Nat) : ∀ (r : List (List UInt8)) (p k : Nat) (h : k < (plc ring p r).length), (plc ring p r)[k] = (p + secSum (r.take k)) % ring
  | x :: r, p, 0, h => by simp [plc, secSum]
  | x :: r, p, k + 1, h => by
    have := plc_get ring r (p + secN x.length) k (by simpa [plc] using h)
    simp only [plc, List.getElem_cons_succ, List.take_succ_cons, secSum_cons, this, Nat.add_assoc]
  | [], p, k, h => by simp [plc] at h
def lgS (T first ring start : Nat) (bs_ : List (List UInt8)) : LogD := ⟨false, T, first, bs_, plc ring start bs_, (start + secSum bs_) % ring, secSum bs_, false⟩
theorem lgS_took (T first ring start : Nat) (r : List (List UInt8)) (b : List UInt8) : took (lgS T first ring start r) b ring = lgS T first ring start (r ++ [b]) := by
  unfold took lgS
  simp only [plc_append, secSum_append, show secSum [b] = secN b.length by simp [secSum], Nat.mod_add_mod, Nat.add_assoc]
section
variable {d : DskD} {I : List (List UInt8)} {n : Nat}
structure Sees (d : DskD) (I : List (List UInt8)) (n : Nat) : Prop where
  up : d.down = false
  len : d.kept.length = n
  img : keepW d.kept d.wait = I
  n3 : 3 ≤ n
theorem Sees.at_ (h : Sees d I n) (p k : Nat) : d.read ((2 + (p % (n - 2) + k) % (n - 2) : Nat) : Int) = (ringAt I (n - 2) (p + k), 0) := by
  have h3 := h.n3
  have hm := Nat.mod_lt (p % (n - 2) + k) (show 0 < n - 2 by omega)
  rw [read_up h.up (by rw [h.len]; omega), h.img, ← ringAt_mod]
  rfl
theorem next_all (h : Sees d I n) {T first start t tt : Nat} {r : List (List UInt8)} {b : List UInt8} (hb : b.length ≤ 32768) (h0 : 0 < tt) (h64 : tt < 18446744073709551616) (ht : t = 0 ∨ t = tt) (hfit : secSum r + secN b.length ≤ n - 2)
    (hr : ∀ k, k < secN b.length → ringAt I (n - 2) (start + secSum r + k) = secB tt (partB b k)) : nextL (lgS T first (n - 2) start r) d t = (b, true, 0) := by
  have := nextF_all (d := d) (e0 := (start + secSum r) % (n - 2)) (ring := n - 2) hb h0 h64 ht (fun k hk => by rw [h.at_, hr k hk]) (secN b.length) 0 (by omega) (n - 2 - secSum r) (by omega)
  rw [accR_zero, if_pos rfl] at this
  unfold nextL
  rw [h.len]
  exact this
theorem next_cut (h : Sees d I n) {T first start t tt : Nat} {r : List (List UInt8)} {b : List UInt8} (hb : b.length ≤ 32768) (h0 : 0 < tt) (h64 : tt < 18446744073709551616) (ht : t = 0 ∨ t = tt) {j : Nat} (hj : j < secN b.length)
    (hr : ∀ k, k < j → ringAt I (n - 2) (start + secSum r + k) = secB tt (partB b k)) (hm : misT (ringAt I (n - 2) (start + secSum r + j)) t) : nextL (lgS T first (n - 2) start r) d t = ([], false, 0) := by
  have := nextF_cut (d := d) (e0 := (start + secSum r) % (n - 2)) (ring := n - 2) hb h0 h64 ht hj (fun k hk => by rw [h.at_, hr k hk]) (h.at_ _ _) hm j 0 (by omega) (n - 2 - secSum r)
  rw [accR_zero, if_pos rfl] at this
  unfold nextL
  rw [h.len]
  exact this
theorem next_full {T first start t : Nat} {r : List (List UInt8)} (h : Sees d I n) (hfull : secSum r = n - 2) : nextL (lgS T first (n - 2) start r) d t = ([], false, 0) := by
  unfold nextL
  rw [h.len, show n - 2 - (lgS T first (n - 2) start r).used = 0 from by show n - 2 - secSum r = 0; omega, nextF, if_pos (.inl rfl)]
theorem back_mis {s : List UInt8} {T : Nat} (h : sback s < T) : misT s T := by
  unfold misT
  unfold sback at h
  omega
theorem findT_yes {T first nx start e0 : Nat} {r : List (List UInt8)} (hx : nx ≤ first + r.length) : findT ⟨T, first, nx, start, e0⟩ (lgS T first (n - 2) start r) = T := if_pos hx
theorem findT_no {T first nx start e0 : Nat} {r : List (List UInt8)} (hx : ¬ nx ≤ first + r.length) : findT ⟨T, first, nx, start, e0⟩ (lgS T first (n - 2) start r) = 0 := if_neg hx
theorem find_some (h : Sees d I n) {T first start e0 nx : Nat} (hT : T < 18446744073709551616) : ∀ (q : List (Nat × List UInt8)) (r : List (List UInt8)) (k : Nat), Chain I (n - 2) T (start + secSum r) q → secSum r + secSum (q.map (·.2)) ≤ n - 2 →
    (∀ i (hi : i < q.length), nx ≤ first + (r.length + i) → q[i].1 = T) → 0 < T →
    findF d ⟨T, first, nx, start, e0⟩ (k + q.length) (lgS T first (n - 2) start r) = findF d ⟨T, first, nx, start, e0⟩ k (lgS T first (n - 2) start (r ++ q.map (·.2)))
  | [], r, k, _, _, _, _ => by simp
  | x :: q, r, k, hc, hf, hx, h0 => by
    rw [List.map_cons, secSum_cons] at hf
    have ht : findT ⟨T, first, nx, start, e0⟩ (lgS T first (n - 2) start r) = 0 ∨ findT ⟨T, first, nx, start, e0⟩ (lgS T first (n - 2) start r) = x.1 := by
      by_cases hle : nx ≤ first + r.length
      · exact .inr ((findT_yes hle).trans (hx 0 (by simp) hle).symm)
      · exact .inl (findT_no hle)
    have hne : ¬ (findT ⟨T, first, nx, start, e0⟩ (lgS T first (n - 2) start r) = 0 ∧ (HeadD.mk T first nx start e0).next ≤ (lgS T first (n - 2) start r).first + (lgS T first (n - 2) start r).recs.length) := fun hh => by
      have := findT_yes (T := T) (start := start) (e0 := e0) (n := n) (r := r) (first := first) (nx := nx) hh.2
      rw [this] at hh
      omega
    have hnx := next_all h (T := T) (first := first) (start := start) (r := r) (b := x.2) hc.1.2.2.1 hc.1.1 (by have := hc.1.2.1; omega) ht (by omega) hc.1.2.2.2
    rw [List.length_cons, ← Nat.add_assoc, findF, if_neg hne, hnx]
    simp only
    rw [if_neg (by simp), h.len, lgS_took, find_some h hT q (r ++ [x.2]) k (by rw [secSum_append, show secSum [x.2] = secN x.2.length by simp [secSum], ← Nat.add_assoc]; exact hc.2) (by rw [secSum_append, show secSum [x.2] = secN x.2.length by simp [secSum]]; omega)
      (fun i hi hn => by have := hx (i + 1) (by simpa using hi) (by rw [List.length_append, List.length_singleton] at hn; omega); simpa using this) h0, List.append_assoc, List.map_cons]
    rfl
theorem find_stop {T first start e0 nx k : Nat} {r : List (List UInt8)} (h0 : 0 < T) (hn : nextL (lgS T first (n - 2) start r) d T = ([], false, 0)) (hx : nx ≤ first + r.length) :
    findF d ⟨T, first, nx, start, e0⟩ k (lgS T first (n - 2) start r) = (lgS T first (n - 2) start r, 0) := by
  cases k with
  | zero => rfl
  | succ k =>
    have ht : findT ⟨T, first, nx, start, e0⟩ (lgS T first (n - 2) start r) = T := by
      unfold findT
      exact if_pos hx
    rw [findF, ht, hn, if_neg (by omega)]
    simp
theorem least (P : Nat → Prop) : ∀ N, (∀ k, k < N → P k) ∨ ∃ j, j < N ∧ (∀ k, k < j → P k) ∧ ¬ P j
  | 0 => .inl fun k hk => absurd hk (Nat.not_lt_zero _)
  | N + 1 => by
    rcases least P N with h | ⟨j, h1, h2, h3⟩
    · by_cases hp : P N
      · exact .inl fun k hk => by
          by_cases e : k = N
          · exact e ▸ hp
          · exact h k (by omega)
      · exact .inr ⟨N, Nat.lt_succ_self _, h, hp⟩
    · exact .inr ⟨j, Nat.lt_succ_of_lt h1, h2, h3⟩
def secs (T : Nat) (us : List (List UInt8)) : List (List UInt8) := us.flatMap (secsB T)
theorem secs_len (T : Nat) : ∀ us : List (List UInt8), (secs T us).length = secSum us
  | [] => rfl
  | u :: us => by
    have := secs_len T us
    unfold secs at *
    rw [List.flatMap_cons, List.length_append, this, secsB_len, secSum_cons]
theorem secs_append (T : Nat) (us vs : List (List UInt8)) : secs T (us ++ vs) = secs T us ++ secs T vs := by unfold secs; rw [List.flatMap_append]
theorem secsB_get (T : Nat) (b : List UInt8) {k : Nat} (hk : k < secN b.length) : (secsB T b)[k]? = some (secB T (partB b k)) := by
  unfold secsB
  rw [List.getElem?_map, List.getElem?_range hk]
  rfl
theorem secs_head (T : Nat) (u : List UInt8) (us : List (List UInt8)) {k : Nat} (hk : k < secN u.length) : (secs T (u :: us))[k]? = some (secB T (partB u k)) := by
  show (secsB T u ++ secs T us)[k]? = _
  rw [List.getElem?_append_left (by rw [secsB_len]; exact hk), secsB_get T u hk]
theorem secs_tail (T : Nat) (u : List UInt8) (us : List (List UInt8)) (j : Nat) : (secs T (u :: us))[secN u.length + j]? = (secs T us)[j]? := by
  show (secsB T u ++ secs T us)[secN u.length + j]? = _
  rw [List.getElem?_append_right (by rw [secsB_len]; omega), secsB_len, Nat.add_sub_cancel_left]
theorem find_more (h : Sees d I n) {T first start e0 nx : Nat} (h0 : 0 < T) (h64 : T < 18446744073709551616) : ∀ (us : List (List UInt8)) (r : List (List UInt8)) (k : Nat), us.length < k → (∀ u ∈ us, u.length ≤ 32768) → secSum r + secSum us ≤ n - 2 → nx ≤ first + r.length →
    (∀ j, secSum r + j < n - 2 → (secs T us)[j]? = some (ringAt I (n - 2) (start + secSum r + j)) ∨ sback (ringAt I (n - 2) (start + secSum r + j)) < T) →
    ∃ m, m ≤ us.length ∧ findF d ⟨T, first, nx, start, e0⟩ k (lgS T first (n - 2) start r) = (lgS T first (n - 2) start (r ++ us.take m), 0) ∧ Chain I (n - 2) T (start + secSum r) ((us.take m).map fun b => (T, b)) ∧
      ((∀ j s, (secs T us)[j]? = some s → ringAt I (n - 2) (start + secSum r + j) = s) → m = us.length)
  | [], r, k, hk, _, hf, hx, hfree => by
    refine ⟨0, Nat.le_refl _, ?_, trivial, fun _ => rfl⟩
    rw [List.take_nil, List.append_nil]
    refine find_stop h0 ?_ hx
    by_cases hfull : secSum r = n - 2
    · exact next_full h hfull
    · rw [secSum_nil] at hf
      refine next_cut h (b := []) (tt := T) (by simp) h0 h64 (.inr rfl) (j := 0) (secN_pos _) (fun k hk => absurd hk (Nat.not_lt_zero _)) ?_
      rcases hfree 0 (by omega) with hs | hs
      · simp [secs] at hs
      · exact back_mis hs
  | u :: us, r, k, hk, hu, hf, hx, hfree => by
    rw [secSum_cons] at hf
    have hul := hu u (by simp)
    rcases least (fun j => ringAt I (n - 2) (start + secSum r + j) = secB T (partB u j)) (secN u.length) with hall | ⟨j, hj, hbef, hnot⟩
    · obtain ⟨k, rfl⟩ : ∃ k', k = k' + 1 := ⟨k - 1, by omega⟩
      have hnx := next_all h (T := T) (first := first) (start := start) (t := T) (r := r) hul h0 h64 (.inr rfl) (by omega) hall
      have e1 : secSum (r ++ [u]) = secSum r + secN u.length := by rw [secSum_append]; simp [secSum]
      obtain ⟨m, hm, he, hc, hw⟩ := find_more h (first := first) (e0 := e0) (nx := nx) h0 h64 us (r ++ [u]) k (by rw [List.length_cons] at hk; omega) (fun v hv => hu v (List.mem_cons_of_mem _ hv)) (by rw [e1]; omega) (by rw [List.length_append]; omega)
        (fun j hj => by
          rw [e1] at hj ⊢
          have := hfree (secN u.length + j) (by omega)
          rw [secs_tail] at this
          simpa [Nat.add_assoc] using this)
      have ht : findT ⟨T, first, nx, start, e0⟩ (lgS T first (n - 2) start r) = T := by
        unfold findT
        exact if_pos hx
      refine ⟨m + 1, by rw [List.length_cons]; omega, ?_, ⟨⟨h0, Nat.le_refl _, hul, hall⟩, by rw [e1, ← Nat.add_assoc] at hc; exact hc⟩, fun hcomp => ?_⟩
      · rw [findF, ht, hnx, if_neg (by omega)]
        simp only
        rw [if_neg (by simp), h.len, lgS_took, he, List.append_assoc]
        rfl
      · rw [List.length_cons, hw fun j s hs => ?_]
        rw [e1, ← Nat.add_assoc, Nat.add_assoc (start + secSum r)]
        exact hcomp _ s (by rw [secs_tail]; exact hs)
    · refine ⟨0, Nat.zero_le _, ?_, trivial, fun hcomp => absurd (hcomp j _ (secs_head T u us hj)) hnot⟩
      rw [List.take_zero, List.append_nil]
      refine find_stop h0 (next_cut h hul h0 h64 (.inr rfl) hj hbef ?_) hx
      have hjn : j < secN u.length := hj
      rcases hfree j (by omega) with hs | hs
      · rw [secs_head T u us hj] at hs
        exact absurd (Option.some.inj hs).symm hnot
      · exact back_mis hs
end
end Go.Proofs.YtnlhjhpikjmoaaaGreatDoor
namespace Go.Proofs.YtnlhjhpikjmoaaaGreatDoor
open Go.RowKit
structure Sm (s : List UInt8) : Prop where
  len : s.length = 64
  lo : s.take 7 = List.replicate 7 0
  hi : (s.drop 56).take 7 = List.replicate 7 0
theorem be8_small {t : Nat} (h : t < 256) : (be8 t).take 7 = List.replicate 7 0 := by
  unfold be8
  have e : ∀ k, 256 ≤ k → t / k = 0 := fun k hk => Nat.div_eq_of_lt (by omega)
  rw [e _ (by omega), e _ (by omega), e _ (by omega), e _ (by omega), e _ (by omega), e _ (by omega), e _ (by omega)]
  rfl
theorem secB_sm {t : Nat} (h : t < 256) {p : List UInt8} (hp : p.length ≤ 48) : Sm (secB t p) := by
  have hb := be8_small h
  have hl := be8_length t
  refine ⟨by simp [secB, hl]; omega, ?_, ?_⟩
  · unfold secB
    rw [List.append_assoc, List.append_assoc, List.take_append_of_le_length (by omega), hb]
  · unfold secB
    rw [List.drop_append_of_le_length (by simp [hl]; omega), List.drop_of_length_le (by simp [hl]; omega), List.nil_append, hb]
theorem hdB_sm {t f n s e : Nat} (h : t < 256) : Sm (hdB t f n s e) := by
  have hb := be8_small h
  have hl := be8_length
  refine ⟨hdB_len _ _ _ _ _, ?_, ?_⟩
  · unfold hdB
    simp only [List.append_assoc]
    rw [List.take_append_of_le_length (by rw [hl]; omega), hb]
  · unfold hdB
    rw [List.drop_append_of_le_length (by simp [hl]), List.drop_of_length_le (by simp [hl]), List.nil_append, hb]
theorem zero_sm : Sm (List.replicate 64 0) := ⟨by simp, by simp, by simp⟩
def torn (s o : List UInt8) (k : Nat) : List UInt8 := s.take k ++ o.drop k
theorem take_le {a b : List UInt8} {i k : Nat} (h : a.take k = b.take k) (hi : i ≤ k) : a.take i = b.take i := by
  have := congrArg (List.take i) h
  rwa [List.take_take, List.take_take, Nat.min_eq_left hi] at this
theorem torn_cases {s o : List UInt8} (hs : Sm s) (ho : Sm o) (k : Nat) : Sm (torn s o k) ∧ (torn s o k = o ∨ (sfront (torn s o k) = sfront s ∧ sback (torn s o k) = sback o) ∨ torn s o k = s) := by
  by_cases h7 : k ≤ 7
  · have : torn s o k = o := by
      unfold torn
      rw [take_le (b := o) (hs.lo.trans ho.lo.symm) h7, List.take_append_drop]
    rw [this]
    exact ⟨ho, .inl rfl⟩
  by_cases h64 : 64 ≤ k
  · have : torn s o k = s := by
      unfold torn
      rw [List.take_of_length_le (by rw [hs.len]; exact h64), List.drop_of_length_le (by rw [ho.len]; exact h64), List.append_nil]
    rw [this]
    exact ⟨hs, .inr (.inr rfl)⟩
  have hl := hs.len
  have hlo := ho.len
  have hfr : ∀ i, i ≤ 8 → (torn s o k).take i = s.take i := fun i hi => by
    unfold torn
    rw [List.take_append_of_le_length (by rw [List.length_take]; omega), List.take_take, Nat.min_eq_left (by omega)]
  have hbk : (torn s o k).drop 56 = o.drop 56 := by
    unfold torn
    rw [List.drop_append, List.drop_take, List.length_take, hl, Nat.min_eq_left (by omega), List.drop_drop]
    by_cases h56 : k ≤ 56
    · rw [show k - 56 = 0 by omega, List.take_zero, List.nil_append, show k + (56 - k) = 56 by omega]
    · have := take_le (i := k - 56) (hs.hi.trans ho.hi.symm) (by omega)
      rw [this, show k + (56 - k) = 56 + (k - 56) by omega, ← List.drop_drop, List.take_append_drop]
  refine ⟨⟨by unfold torn; rw [List.length_append, List.length_take, List.length_drop]; omega, by rw [hfr 7 (by omega), hs.lo], by rw [hbk, ho.hi]⟩, .inr (.inl ⟨?_, ?_⟩)⟩
  · unfold sfront rdN
    rw [List.drop_zero, List.drop_zero, hfr 8 (Nat.le_refl _)]
  · unfold sback rdN
    rw [hbk]
theorem secSum_td (l : List (List UInt8)) (k : Nat) : secSum (l.take k) + secSum (l.drop k) = secSum l := by rw [← secSum_append, List.take_append_drop]
theorem mod_add_left {p q k m : Nat} (h : p % m = q % m) : (p + k) % m = (q + k) % m := by rw [← Nat.mod_add_mod, h, Nat.mod_add_mod]
theorem Chain.same {I : List (List UInt8)} {ring T : Nat} : ∀ {r : List (Nat × List UInt8)} {p q : Nat}, p % ring = q % ring → Chain I ring T p r → Chain I ring T q r
  | [], _, _, _, _ => trivial
  | x :: r, p, q, h, hc => ⟨⟨hc.1.1, hc.1.2.1, hc.1.2.2.1, fun k hk => by
      rw [← hc.1.2.2.2 k hk]
      unfold ringAt
      rw [mod_add_left h]⟩, Chain.same (mod_add_left h) hc.2⟩
theorem plc_same {ring : Nat} : ∀ (r : List (List UInt8)) {p q : Nat}, p % ring = q % ring → plc ring p r = plc ring q r
  | [], _, _, _ => rfl
  | x :: r, p, q, h => by rw [plc, plc, h, plc_same r (mod_add_left h)]
structure Bas (I : List (List UInt8)) (n T first start : Nat) (rs : List (Nat × List UInt8)) : Prop where
  len : I.length = n
  n3 : 3 ≤ n
  n64 : n ≤ 65536
  sm : ∀ i, i < n → Sm (I.getD i [])
  T1 : T < 256
  st : start < n - 2
  back : ∀ p, sback (ringAt I (n - 2) p) ≤ T
  chain : Chain I (n - 2) T start rs
  fit : secSum (rs.map (·.2)) ≤ n - 2
  hd : sfront (I.getD (T % 2) []) = T ∧ sback (I.getD (T % 2) []) = T
  f64 : first + 70000 < 18446744073709551616
structure Img (I : List (List UInt8)) (n T first start nx : Nat) (rs : List (Nat × List UInt8)) (us : List (List UInt8)) : Prop where
  bas : Bas I n T first start rs
  T0 : 0 < T
  usl : ∀ u ∈ us, u.length ≤ 32768
  fit : secSum (rs.map (·.2)) + secSum us ≤ n - 2
  free : ∀ j, secSum (rs.map (·.2)) + j < n - 2 → (secs T us)[j]? = some (ringAt I (n - 2) (start + secSum (rs.map (·.2)) + j)) ∨ sback (ringAt I (n - 2) (start + secSum (rs.map (·.2)) + j)) < T
  head : ∃ e, e < 18446744073709551616 ∧ I.getD (T % 2) [] = hdB T first nx start e
  nx1 : first ≤ nx
  nx2 : nx ≤ first + rs.length
  nxT : ∀ i (h : i < rs.length), nx ≤ first + i → rs[i].1 = T
  other : sback (I.getD ((T + 1) % 2) []) ≤ T ∧ (sfront (I.getD ((T + 1) % 2) []) = sback (I.getD ((T + 1) % 2) []) → sfront (I.getD ((T + 1) % 2) []) < T)
theorem stepH_no {b : HeadD} {s : List UInt8} (h : sfront s = sback s → sfront s ≤ b.turn) : stepH b s = b := by
  unfold stepH
  refine if_neg fun hh => ?_
  have h1 := h hh.1
  have h2 : b.turn < sfront s := hh.2
  omega
theorem stepH_yes {b : HeadD} {s : List UInt8} (h1 : sfront s = sback s) (h : b.turn < sfront s) : stepH b s = readH s := if_pos ⟨h1, h⟩
theorem stepH_lt {b : HeadD} {s : List UInt8} {T : Nat} (hb : b.turn < T) (h : sfront s = sback s → sfront s < T) : (stepH b s).turn < T := by
  unfold stepH
  split
  · rename_i hh
    exact h hh.1
  · exact hb
theorem img_best {d : DskD} {I : List (List UInt8)} {n T first start nx : Nat} {rs : List (Nat × List UInt8)} {us : List (List UInt8)} (hs : Sees d I n) (h : Img I n T first start nx rs us) : ∃ e, bestI d (min 2 d.kept.length) = ⟨T, first, nx, start, e⟩ := by
  obtain ⟨e, he, hd⟩ := h.head
  have hT := h.bas.T1
  have hst := h.bas.st
  have hn := h.bas.n64
  have hf := h.bas.f64
  have hn2 := h.nx2
  have hfit := h.bas.fit
  have hrl : rs.length ≤ secSum (rs.map (·.2)) := by have := secSum_ge (rs.map (·.2)); rwa [List.length_map] at this
  have hrd := hdB_at T first nx start e (by omega) (by omega) (by omega) (by omega) he
  have hfr : sfront (hdB T first nx start e) = T := congrArg HeadD.turn hrd.1
  have hsh : ∀ i, i < n → d.shown i = I.getD i [] := fun i hi => by
    unfold DskD.shown
    rw [showW_keepW i _ _ (by rw [hs.len]; exact hi), hs.img]
  have h3 := hs.n3
  have ho := h.other.2
  refine ⟨e, ?_⟩
  rw [Nat.min_eq_left (by rw [hs.len]; omega), bestI, bestI, bestI, hsh 0 (by omega), hsh 1 (by omega), ← hrd.1]
  have hz : zeroH.turn = 0 := rfl
  have hT0 := h.T0
  rcases Nat.mod_two_eq_zero_or_one T with h0 | h0
  · rw [h0] at hd
    rw [show (T + 1) % 2 = 1 by omega] at ho
    rw [hd, stepH_yes (b := zeroH) (s := hdB T first nx start e) (by rw [hfr, hrd.2]) (by rw [hfr, hz]; exact hT0)]
    exact stepH_no fun hh => Nat.le_of_lt (Nat.lt_of_lt_of_le (ho hh) (Nat.le_of_eq (congrArg HeadD.turn hrd.1).symm))
  · rw [h0] at hd
    rw [show (T + 1) % 2 = 0 by omega] at ho
    rw [hd]
    exact stepH_yes (by rw [hfr, hrd.2]) (by rw [hfr]; exact stepH_lt (by rw [hz]; exact hT0) ho)
theorem Bas.more {I : List (List UInt8)} {n T first start : Nat} {rs q : List (Nat × List UInt8)} (h : Bas I n T first start rs) (hc : Chain I (n - 2) T (start + secSum (rs.map (·.2))) q) (hf : secSum ((rs ++ q).map (·.2)) ≤ n - 2) : Bas I n T first start (rs ++ q) :=
  ⟨h.len, h.n3, h.n64, h.sm, h.T1, h.st, h.back, h.chain.append hc, hf, h.hd, h.f64⟩
theorem snd_pairs (T : Nat) (us : List (List UInt8)) : (us.map fun b => (T, b)).map (·.2) = us := by simp [List.map_map, Function.comp_def]
theorem img_find {d : DskD} {I : List (List UInt8)} {n T first start nx : Nat} {rs : List (Nat × List UInt8)} {us : List (List UInt8)} (hs : Sees d I n) (h : Img I n T first start nx rs us) :
    ∃ m e, m ≤ us.length ∧ bestI d (min 2 d.kept.length) = ⟨T, first, nx, start, e⟩ ∧ findL zeroL d ⟨T, first, nx, start, e⟩ = (lgS T first (n - 2) start (rs.map (·.2) ++ us.take m), 0) ∧ Bas I n T first start (rs ++ (us.take m).map fun b => (T, b)) ∧
      ((∀ j s, (secs T us)[j]? = some s → ringAt I (n - 2) (start + secSum (rs.map (·.2)) + j) = s) → m = us.length) := by
  obtain ⟨e, he⟩ := img_best hs h
  have hT := h.bas.T1
  have hT0 := h.T0
  have hst := h.bas.st
  have hfit := h.fit
  have hn1 := h.nx1
  have hn3 := h.bas.n3
  have hrl : rs.length ≤ secSum (rs.map (·.2)) := by have := secSum_ge (rs.map (·.2)); rwa [List.length_map] at this
  have hul := secSum_ge us
  obtain ⟨m, hm, hf, hc, hw⟩ := find_more hs (first := first) (e0 := e) (nx := nx) hT0 (by omega) us (rs.map (·.2)) (n - 1 - rs.length) (by omega) h.usl hfit (by rw [List.length_map]; exact h.nx2) h.free
  have h1 := find_some hs (first := first) (start := start) (e0 := e) (nx := nx) (T := T) (by omega) rs [] (n - 1 - rs.length) (by rw [secSum_nil, Nat.add_zero]; exact h.bas.chain) (by rw [secSum_nil, Nat.zero_add]; exact h.bas.fit)
    (fun i hi hx => h.nxT i hi (by simpa using hx)) hT0
  refine ⟨m, e, hm, he, ?_, h.bas.more hc ?_, hw⟩
  · unfold findL
    rw [hs.len, if_neg (by show ¬ (n < 3 ∨ n - 2 ≤ start ∨ nx < first); omega)]
    have hz : ({ zeroL with turn := T, first := first, end_ := start } : LogD) = lgS T first (n - 2) start [] := by
      unfold lgS zeroL
      rw [secSum_nil, Nat.add_zero, Nat.mod_eq_of_lt hst]
      rfl
    have e2 : findF d ⟨T, first, nx, start, e⟩ (n - 1) (lgS T first (n - 2) start []) = (lgS T first (n - 2) start (rs.map (·.2) ++ us.take m), 0) := by
      rw [← hf]
      have := h1
      rw [List.nil_append, show n - 1 - rs.length + rs.length = n - 1 by omega] at this
      exact this
    rw [← hz] at e2
    exact e2
  · rw [List.map_append, snd_pairs, secSum_append]
    have := secSum_td us m
    omega
theorem ringAt_head {I : List (List UInt8)} {ring i : Nat} (hi : i < 2) (s : List UInt8) (p : Nat) : ringAt (I.set i s) ring p = ringAt I ring p := by
  unfold ringAt
  rw [List.getD_eq_getElem?_getD, List.getElem?_set_ne (by omega), List.getD_eq_getElem?_getD]
theorem bas_tell {I : List (List UInt8)} {n T first start : Nat} {rs : List (Nat × List UInt8)} (h : Bas I n T first start rs) (hT : T + 1 < 256) (k : Nat) (hk : k ≤ rs.length) (hf : first + k + 70000 < 18446744073709551616) (e : Nat) (he : e < 18446744073709551616) :
    Img (I.set ((T + 1) % 2) (hdB (T + 1) (first + k) (first + rs.length) ((start + secSum ((rs.take k).map (·.2))) % (n - 2)) e)) n (T + 1) (first + k) ((start + secSum ((rs.take k).map (·.2))) % (n - 2)) (first + rs.length) (rs.drop k) [] := by
  have hn3 := h.n3
  have hn64 := h.n64
  have hp : (T + 1) % 2 < 2 := Nat.mod_lt _ (by omega)
  have hr := ringAt_head (I := I) (ring := n - 2) hp (hdB (T + 1) (first + k) (first + rs.length) ((start + secSum ((rs.take k).map (·.2))) % (n - 2)) e)
  have hrl : rs.length ≤ secSum (rs.map (·.2)) := by have := secSum_ge (rs.map (·.2)); rwa [List.length_map] at this
  have hfit := h.fit
  have hst' := Nat.mod_lt (start + secSum ((rs.take k).map (·.2))) (show 0 < n - 2 by omega)
  have hrd := hdB_at (T + 1) (first + k) (first + rs.length) ((start + secSum ((rs.take k).map (·.2))) % (n - 2)) e (by omega) (by omega) (by omega) (by omega) he
  have hget : (I.set ((T + 1) % 2) (hdB (T + 1) (first + k) (first + rs.length) ((start + secSum ((rs.take k).map (·.2))) % (n - 2)) e)).getD ((T + 1) % 2) [] = hdB (T + 1) (first + k) (first + rs.length) ((start + secSum ((rs.take k).map (·.2))) % (n - 2)) e := by
    rw [List.getD_eq_getElem?_getD, List.getElem?_set_self (by rw [h.len]; omega)]
    rfl
  have hne : ∀ i, i ≠ (T + 1) % 2 → (I.set ((T + 1) % 2) (hdB (T + 1) (first + k) (first + rs.length) ((start + secSum ((rs.take k).map (·.2))) % (n - 2)) e)).getD i [] = I.getD i [] := fun i hi => by
    rw [List.getD_eq_getElem?_getD, List.getElem?_set_ne (by omega), List.getD_eq_getElem?_getD]
  have hfit' : secSum ((rs.drop k).map (·.2)) ≤ n - 2 := by
    have := secSum_td (rs.map (·.2)) k
    rw [List.map_drop]
    omega
  have hsm := hdB_sm (f := first + k) (n := first + rs.length) (s := (start + secSum ((rs.take k).map (·.2))) % (n - 2)) (e := e) hT
  generalize hs : hdB (T + 1) (first + k) (first + rs.length) ((start + secSum ((rs.take k).map (·.2))) % (n - 2)) e = s at *
  have hb : ∀ p, sback (ringAt (I.set ((T + 1) % 2) s) (n - 2) p) < T + 1 := fun p => by rw [hr]; have := h.back p; omega
  refine ⟨⟨by rw [List.length_set]; exact h.len, hn3, hn64, fun i hi => ?_, hT, hst', fun p => Nat.le_of_lt (hb p), ?_, hfit', ?_, hf⟩, Nat.succ_pos _, (fun u hu => by cases hu), by rw [secSum_nil]; exact hfit', fun j _ => .inr (hb _), ⟨e, he, ?_⟩, Nat.add_le_add_left hk _, by rw [List.length_drop]; omega, fun i hi hx => ?_, ?_⟩
  · by_cases e0 : i = (T + 1) % 2
    · rw [e0, hget]
      exact hsm
    · rw [hne i e0]
      exact h.sm i hi
  · exact Chain.same (p := start + secSum ((rs.take k).map (·.2))) (by rw [Nat.mod_mod]) ((h.chain.drop k).up (Nat.le_succ _) hr)
  · rw [hget]
    exact ⟨congrArg HeadD.turn hrd.1, hrd.2⟩
  · rw [hget, hs]
  · rw [List.length_drop] at hi
    omega
  · rw [show (T + 1 + 1) % 2 = T % 2 by omega, hne (T % 2) (by omega), h.hd.1, h.hd.2]
    exact ⟨Nat.le_succ _, fun _ => Nat.lt_succ_self _⟩
end Go.Proofs.YtnlhjhpikjmoaaaGreatDoor
namespace Go.Proofs.YtnlhjhpikjmoaaaGreatDoor
open Go.RowKit
theorem mod_ne {s a b m : Nat} (ha : a < m) (hb : b < m) (hab : a ≠ b) : (s + a) % m ≠ (s + b) % m := fun h => by
  rcases Nat.lt_or_gt_of_ne hab with hlt | hlt
  · have := Nat.sub_mod_eq_zero_of_mod_eq h.symm
    rw [show s + b - (s + a) = b - a by omega, Nat.mod_eq_of_lt (by omega)] at this
    omega
  · have := Nat.sub_mod_eq_zero_of_mod_eq h
    rw [show s + a - (s + b) = a - b by omega, Nat.mod_eq_of_lt (by omega)] at this
    omega
theorem secsB_mem {T : Nat} {b s : List UInt8} (h : s ∈ secsB T b) : ∃ p : List UInt8, p.length ≤ 48 ∧ s = secB T p := by
  unfold secsB at h
  obtain ⟨k, _, rfl⟩ := List.mem_map.1 h
  exact ⟨_, partB_le _ _, rfl⟩
theorem secs_mem {T : Nat} {us : List (List UInt8)} {s : List UInt8} (h : s ∈ secs T us) : ∃ p : List UInt8, p.length ≤ 48 ∧ s = secB T p := by
  unfold secs at h
  obtain ⟨b, _, hb⟩ := List.mem_flatMap.1 h
  exact secsB_mem hb
theorem Chain.cong {I I' : List (List UInt8)} {ring T : Nat} : ∀ {r : List (Nat × List UInt8)} {p : Nat}, (∀ o, o < secSum (r.map (·.2)) → ringAt I' ring (p + o) = ringAt I ring (p + o)) → Chain I ring T p r → Chain I' ring T p r
  | [], _, _, _ => trivial
  | x :: r, p, h, hc => by
    rw [List.map_cons, secSum_cons] at h
    refine ⟨⟨hc.1.1, hc.1.2.1, hc.1.2.2.1, fun k hk => (h k (by omega)).trans (hc.1.2.2.2 k hk)⟩, Chain.cong (fun o ho => ?_) hc.2⟩
    rw [Nat.add_assoc]
    exact h _ (by omega)
theorem chain_of {I : List (List UInt8)} {ring T : Nat} (hT : 0 < T) : ∀ {us : List (List UInt8)} {p : Nat}, (∀ u ∈ us, u.length ≤ 32768) → (∀ j s, (secs T us)[j]? = some s → ringAt I ring (p + j) = s) → Chain I ring T p (us.map fun b => (T, b))
  | [], _, _, _ => trivial
  | u :: us, p, hu, h => ⟨⟨hT, Nat.le_refl _, hu u (by simp), fun k hk => h k _ (secs_head T u us hk)⟩, chain_of hT (fun v hv => hu v (List.mem_cons_of_mem _ hv)) fun j s hs => by
      rw [Nat.add_assoc]
      exact h _ s (by rw [secs_tail]; exact hs)⟩
theorem ringAt_set {I : List (List UInt8)} {n : Nat} (hn : I.length = n) (h3 : 3 ≤ n) (q : Nat) (s : List UInt8) (p : Nat) : ringAt (I.set (2 + q % (n - 2)) s) (n - 2) p = if p % (n - 2) = q % (n - 2) then s else ringAt I (n - 2) p := by
  have hq := Nat.mod_lt q (show 0 < n - 2 by omega)
  unfold ringAt
  rw [List.getD_eq_getElem?_getD, List.getElem?_set]
  by_cases h : p % (n - 2) = q % (n - 2)
  · rw [if_pos (by omega), if_pos (by omega), if_pos h]
    rfl
  · rw [if_neg (by omega), if_neg h, List.getD_eq_getElem?_getD]
theorem torn_same (s : List UInt8) (k : Nat) : torn s s k = s := List.take_append_drop _ _
section
variable {I : List (List UInt8)} {n T first start nx : Nat} {rs : List (Nat × List UInt8)} {us : List (List UInt8)}
theorem Img.tear (h : Img I n T first start nx rs us) {j : Nat} {s : List UInt8} (hj : (secs T us)[j]? = some s) (k : Nat) :
    Img (I.set (2 + (start + secSum (rs.map (·.2)) + j) % (n - 2)) (torn s (ringAt I (n - 2) (start + secSum (rs.map (·.2)) + j)) k)) n T first start nx rs us := by
  have hfit := h.fit
  have h3 := h.bas.n3
  have hT1 := h.bas.T1
  have hjl : j < secSum us := by rw [← secs_len T]; exact (List.getElem?_eq_some_iff.1 hj).1
  obtain ⟨p, hp, rfl⟩ := secs_mem (List.mem_of_getElem? hj)
  have hm := Nat.mod_lt (start + secSum (rs.map (·.2)) + j) (show 0 < n - 2 by omega)
  have hold : Sm (ringAt I (n - 2) (start + secSum (rs.map (·.2)) + j)) := h.bas.sm _ (by omega)
  obtain ⟨hsm, hc⟩ := torn_cases (secB_sm hT1 hp) hold k
  have hbk : sback (secB T p) = T := secB_back _ _ hp (by omega)
  have hb0 := h.bas.back (start + secSum (rs.map (·.2)) + j)
  have hlow : ∀ i, i < 2 → (I.set (2 + (start + secSum (rs.map (·.2)) + j) % (n - 2)) (torn (secB T p) (ringAt I (n - 2) (start + secSum (rs.map (·.2)) + j)) k)).getD i [] = I.getD i [] := fun i hi => by
    rw [List.getD_eq_getElem?_getD, List.getElem?_set_ne (by omega), List.getD_eq_getElem?_getD]
  have h2 : ∀ x, x % 2 < 2 := fun x => Nat.mod_lt _ (by omega)
  have hset := ringAt_set h.bas.len h3 (start + secSum (rs.map (·.2)) + j) (torn (secB T p) (ringAt I (n - 2) (start + secSum (rs.map (·.2)) + j)) k)
  refine ⟨⟨by rw [List.length_set]; exact h.bas.len, h3, h.bas.n64, fun i hi => ?_, hT1, h.bas.st, fun q => ?_, Chain.cong (fun o ho => ?_) h.bas.chain, h.bas.fit, by rw [hlow _ (h2 _)]; exact h.bas.hd, h.bas.f64⟩, h.T0, h.usl, hfit, fun i hi => ?_, by rw [hlow _ (h2 _)]; exact h.head, h.nx1, h.nx2, h.nxT, by rw [hlow _ (h2 _)]; exact h.other⟩
  · rw [List.getD_eq_getElem?_getD, List.getElem?_set]
    split
    · rw [if_pos (by rw [h.bas.len]; omega)]
      exact hsm
    · rw [← List.getD_eq_getElem?_getD]
      exact h.bas.sm i hi
  · rw [hset]
    split
    · rcases hc with e | ⟨_, e⟩ | e
      · rw [e]; exact hb0
      · rw [e]; exact hb0
      · rw [e, hbk]; exact Nat.le_refl _
    · exact h.bas.back q
  · rw [hset, Nat.add_assoc start, if_neg (mod_ne (by omega) (by omega) (by omega))]
  · rw [hset]
    by_cases hij : i = j
    · subst hij
      rw [if_pos rfl]
      rcases h.free i hi with e | e
      · rw [hj] at e
        rw [← Option.some.inj e, torn_same]
        exact .inl hj
      · rcases hc with e' | ⟨_, e'⟩ | e'
        · rw [e']; exact .inr e
        · rw [e']; exact .inr e
        · rw [e']; exact .inl hj
    · rw [if_neg (by rw [Nat.add_assoc start, Nat.add_assoc start]; exact mod_ne (by omega) (by omega) (by omega))]
      exact h.free i hi
theorem torn_all {s o : List UInt8} (hs : s.length = 64) (ho : o.length = 64) : torn s o 64 = s := by
  unfold torn
  rw [List.take_of_length_le (by omega), List.drop_of_length_le (by omega), List.append_nil]
theorem img_keep : ∀ (l : List (List UInt8)) (j0 : Nat) {I : List (List UInt8)}, Img I n T first start nx rs us → j0 + l.length = (secs T us).length → (∀ i, l[i]? = (secs T us)[j0 + i]?) → (∀ j s, j < j0 → (secs T us)[j]? = some s → ringAt I (n - 2) (start + secSum (rs.map (·.2)) + j) = s) →
    Img (keepW I (putsW (n - 2) ((start + secSum (rs.map (·.2)) + j0) % (n - 2)) l)) n T first start nx rs us ∧ ∀ j s, (secs T us)[j]? = some s → ringAt (keepW I (putsW (n - 2) ((start + secSum (rs.map (·.2)) + j0) % (n - 2)) l)) (n - 2) (start + secSum (rs.map (·.2)) + j) = s
  | [], j0, I, h, hl, _, hd => ⟨h, fun j s hs => hd j s (by have := (List.getElem?_eq_some_iff.1 hs).1; rw [List.length_nil] at hl; omega) hs⟩
  | s :: l, j0, I, h, hl, hi, hd => by
    have h3 := h.bas.n3
    have hfit := h.fit
    have hsl := secs_len T us
    rw [List.length_cons] at hl
    have hs0 : (secs T us)[j0]? = some s := by have := hi 0; rw [Nat.add_zero] at this; rw [← this]; rfl
    have hm := Nat.mod_lt (start + secSum (rs.map (·.2)) + j0) (show 0 < n - 2 by omega)
    have hsm : s.length = 64 := by obtain ⟨p, hp, rfl⟩ := secs_mem (List.mem_of_getElem? hs0); exact secB_len _ _ hp
    have ht := h.tear hs0 64
    have hold : Sm (ringAt I (n - 2) (start + secSum (rs.map (·.2)) + j0)) := h.bas.sm _ (by omega)
    rw [torn_all hsm hold.len] at ht
    have := img_keep l (j0 + 1) ht (by omega) (fun i => by have := hi (i + 1); rw [List.getElem?_cons_succ] at this; rw [this, Nat.add_assoc, Nat.add_comm 1]) fun j u hj hu => by
      rw [ringAt_set h.bas.len h3]
      by_cases e : j = j0
      · subst e
        rw [if_pos rfl]
        exact Option.some.inj (hs0.symm.trans hu)
      · rw [if_neg (by rw [Nat.add_assoc start, Nat.add_assoc start]; exact mod_ne (by omega) (by omega) (by omega))]
        exact hd j u (by omega) hu
    rw [putsW, Nat.mod_add_mod]
    rw [← Nat.add_assoc] at this
    exact this
theorem Img.safe (h : Img I n T first start nx rs us) (hc : ∀ j s, (secs T us)[j]? = some s → ringAt I (n - 2) (start + secSum (rs.map (·.2)) + j) = s) : Img I n T first start nx (rs ++ us.map fun b => (T, b)) [] := by
  have hfit := h.fit
  have hs : secSum ((rs ++ us.map fun b => (T, b)).map (·.2)) = secSum (rs.map (·.2)) + secSum us := by rw [List.map_append, snd_pairs, secSum_append]
  refine ⟨h.bas.more (chain_of h.T0 h.usl hc) (by rw [hs]; exact hfit), h.T0, (fun u hu => by cases hu), by rw [hs, secSum_nil]; omega, fun j hj => ?_, h.head, h.nx1, by rw [List.length_append]; have := h.nx2; omega, fun i hi hx => ?_, h.other⟩
  · rw [hs] at hj ⊢
    rcases h.free (secSum us + j) (by omega) with e | e
    · rw [List.getElem?_eq_none (by rw [secs_len]; omega)] at e
      cases e
    · exact .inr (by simpa [Nat.add_assoc] using e)
  · by_cases hlt : i < rs.length
    · rw [List.getElem_append_left hlt]
      exact h.nxT i hlt hx
    · rw [List.getElem_append_right (by omega)]
      simp
theorem Img.wait (h : Img I n T first start nx rs us) {b : List UInt8} (hb : b.length ≤ 32768) (hf : secSum (rs.map (·.2)) + secSum us + secN b.length ≤ n - 2) : Img I n T first start nx rs (us ++ [b]) := by
  have e1 : secSum (us ++ [b]) = secSum us + secN b.length := by rw [secSum_append]; simp [secSum]
  refine ⟨h.bas, h.T0, fun u hu => (List.mem_append.1 hu).elim (h.usl u) fun e => by rw [List.mem_singleton.1 e]; exact hb, by rw [e1]; omega, fun j hj => ?_, h.head, h.nx1, h.nx2, h.nxT, h.other⟩
  rcases h.free j hj with e | e
  · refine .inl ?_
    rw [secs_append, List.getElem?_append_left (List.getElem?_eq_some_iff.1 e).1]
    exact e
  · exact .inr e
end
theorem putsW_append (ring : Nat) : ∀ (a b : List (List UInt8)) (x : Nat), x < ring → putsW ring x (a ++ b) = putsW ring x a ++ putsW ring ((x + a.length) % ring) b
  | [], b, x, h => by rw [List.length_nil, Nat.add_zero, Nat.mod_eq_of_lt h]; rfl
  | s :: a, b, x, h => by
    rw [List.cons_append, putsW, putsW, putsW_append ring a b _ (Nat.mod_lt _ (by omega)), Nat.mod_add_mod, List.length_cons, List.cons_append, show x + 1 + a.length = x + (a.length + 1) by omega]
end Go.Proofs.YtnlhjhpikjmoaaaGreatDoor
namespace Go.Proofs.YtnlhjhpikjmoaaaGreatDoor
open Go.RowKit
structure Lg (l : LogD) (T first ring start : Nat) (b : List (List UInt8)) : Prop where
  turn : l.turn = T
  first : l.first = first
  recs : l.recs = b
  places : l.places = plc ring start b
  end_ : l.end_ = (start + secSum b) % ring
  used : l.used = secSum b
structure Inv (n : Nat) (l : LogD) (d : DskD) (T first start nx : Nat) (rs : List (Nat × List UInt8)) (us : List (List UInt8)) : Prop where
  img : Img d.kept n T first start nx rs us
  log : Lg l T first (n - 2) start (rs.map (·.2) ++ us)
  wait : d.wait = putsW (n - 2) ((start + secSum (rs.map (·.2))) % (n - 2)) (secs T us)
  wts : l.waits = false → us = []
section
variable {n : Nat} {l : LogD} {d : DskD} {T first start nx : Nat} {rs : List (Nat × List UInt8)} {us : List (List UInt8)}
theorem Inv.shown (h : Inv n l d T first start nx rs us) : Img (keepW d.kept d.wait) n T first start nx (rs ++ us.map fun b => (T, b)) [] := by
  have hk := img_keep (secs T us) 0 h.img (by rw [Nat.zero_add]) (fun i => by rw [Nat.zero_add]) fun j s hj => absurd hj (Nat.not_lt_zero _)
  rw [Nat.add_zero] at hk
  rw [h.wait]
  exact hk.1.safe hk.2
theorem Inv.wait_len (h : Inv n l d T first start nx rs us) : d.wait.length ≤ 65536 := by
  rw [h.wait, putsW_len, secs_len]
  have := h.img.fit
  have := h.img.bas.n64
  omega
theorem Inv.append (h : Inv n l d T first start nx rs us) {b : List UInt8} (hb : b.length ≤ 32768) (hf : secSum (rs.map (·.2) ++ us) + secN b.length ≤ n - 2) :
    Inv n { took l b (n - 2) with waits := true } { d with wait := d.wait ++ putsW (n - 2) l.end_ (secsB l.turn b) } T first start nx rs (us ++ [b]) := by
  have hn3 := h.img.bas.n3
  have hm := Nat.mod_lt (start + secSum (rs.map (·.2))) (show 0 < n - 2 by omega)
  rw [secSum_append] at hf
  refine ⟨h.img.wait hb hf, ⟨h.log.turn, h.log.first, ?_, ?_, ?_, ?_⟩, ?_, fun h => by cases h⟩
  · show l.recs ++ [b] = _
    rw [h.log.recs, List.append_assoc]
  · show l.places ++ [l.end_] = _
    rw [h.log.places, h.log.end_, ← List.append_assoc, plc_append]
  · show (l.end_ + secN b.length) % (n - 2) = _
    rw [h.log.end_, Nat.mod_add_mod, ← List.append_assoc, secSum_append (rs.map (·.2) ++ us), show secSum [b] = secN b.length by simp [secSum], Nat.add_assoc]
  · show l.used + secN b.length = _
    rw [h.log.used, ← List.append_assoc, secSum_append (rs.map (·.2) ++ us), show secSum [b] = secN b.length by simp [secSum]]
  · show d.wait ++ putsW (n - 2) l.end_ (secsB l.turn b) = _
    rw [h.wait, h.log.turn, h.log.end_, secs_append, putsW_append _ _ _ _ hm, Nat.mod_add_mod, secs_len, secSum_append, Nat.add_assoc, show secs T [b] = secsB T b by simp [secs]]
theorem Inv.flush (h : Inv n l d T first start nx rs us) (x : Bool) : Inv n { l with waits := x } d.all T first start nx (rs ++ us.map fun b => (T, b)) [] := by
  refine ⟨h.shown, ⟨h.log.turn, h.log.first, ?_, ?_, ?_, ?_⟩, rfl, fun _ => rfl⟩
  · show l.recs = _
    rw [h.log.recs, List.map_append, snd_pairs, List.append_nil]
  · show l.places = _
    rw [h.log.places, List.map_append, snd_pairs, List.append_nil]
  · show l.end_ = _
    rw [h.log.end_, List.map_append, snd_pairs, List.append_nil]
  · show l.used = _
    rw [h.log.used, List.map_append, snd_pairs, List.append_nil]
theorem told_inv {I : List (List UInt8)} {q : List (Nat × List UInt8)} (hb : Bas I n T first start q) (hl : Lg l T first (n - 2) start (q.map (·.2))) (hT : T + 1 < 256) (k : Nat) (hk : k ≤ q.length) (hf : first + k + 70000 < 18446744073709551616) (w : Bool) (down : Bool) (armed : Nat) :
    Inv n { l with turn := l.turn + 1, first := l.first + k, recs := l.recs.drop k, places := l.places.drop k, used := l.used - secSum (l.recs.take k), waits := w } ⟨I.set ((l.turn + 1) % 2) (tellB l k), [], down, armed⟩ (T + 1) (first + k) ((start + secSum ((q.take k).map (·.2))) % (n - 2)) (first + q.length) (q.drop k) [] := by
  have hn3 := hb.n3
  have hn64 := hb.n64
  have he : l.end_ < 18446744073709551616 := by
    rw [hl.end_]
    have := Nat.mod_lt (start + secSum (q.map (·.2))) (show 0 < n - 2 by omega)
    omega
  have ht := bas_tell hb hT k hk hf l.end_ he
  have hbt : tellB l k = hdB (T + 1) (first + k) (first + q.length) ((start + secSum ((q.take k).map (·.2))) % (n - 2)) l.end_ := by
    unfold tellB
    rw [hl.turn, hl.first, hl.recs, List.length_map]
    congr 1
    simp only [hl.places]
    split
    · rw [plc_get, List.map_take]
    · rename_i hlt
      rw [plc_len, List.length_map] at hlt
      rw [hl.end_, List.take_of_length_le (by omega)]
  refine ⟨by rw [hbt, hl.turn]; exact ht, ⟨by show l.turn + 1 = _; rw [hl.turn], by show l.first + k = _; rw [hl.first], ?_, ?_, ?_, ?_⟩, rfl, fun _ => rfl⟩
  · show l.recs.drop k = _
    rw [hl.recs, List.append_nil, List.map_drop]
  · show l.places.drop k = _
    rw [hl.places, List.append_nil, List.map_drop, plc_drop, List.map_take]
    exact plc_same _ (Nat.mod_mod _ _).symm
  · show l.end_ = _
    rw [hl.end_, List.append_nil, Nat.mod_add_mod, List.map_drop, List.map_take, Nat.add_assoc, secSum_td]
  · show l.used - secSum (l.recs.take k) = _
    rw [hl.used, hl.recs, List.append_nil, List.map_drop]
    have := secSum_td (q.map (·.2)) k
    omega
end
structure Up (n : Nat) (l : LogD) (d : DskD) (T first : Nat) (rs : List (Nat × List UInt8)) (us : List (List UInt8)) : Prop where
  inv : ∃ start nx, Inv n l d T first start nx rs us
  calm : Calm d
  dead : l.dead = false
section
variable {n : Nat} {l : LogD} {d : DskD} {T first : Nat} {rs : List (Nat × List UInt8)} {us : List (List UInt8)}
theorem Up.good (h : Up n l d T first rs us) : Good n l d ∧ 3 ≤ n ∧ l.end_ < n - 2 ∧ l.recs = rs.map (·.2) ++ us ∧ l.first = first ∧ l.turn = T ∧ d.wait.length ≤ 65536 ∧ first + 70000 < 18446744073709551616 ∧ T < 256 := by
  obtain ⟨start, nx, hi⟩ := h.inv
  have hn3 := hi.img.bas.n3
  have hfit := hi.img.fit
  refine ⟨⟨hi.img.bas.len, h.calm, h.dead, by rw [hi.log.used, hi.log.recs], by rw [hi.log.used, secSum_append]; exact hfit⟩, hn3, ?_, hi.log.recs, hi.log.first, hi.log.turn, hi.wait_len, hi.img.bas.f64, hi.img.bas.T1⟩
  rw [hi.log.end_]
  exact Nat.mod_lt _ (by omega)
theorem append_up (h : Up n l d T first rs us) {b : List UInt8} (hb : b.length ≤ 32768) (hf : secSum (rs.map (·.2) ++ us) + secN b.length ≤ n - 2) :
    ∃ l' d', appendL l d b = (l', d', 0) ∧ Up n l' d' T first rs (us ++ [b]) := by
  obtain ⟨hg, hn3, he, hr, _⟩ := h.good
  obtain ⟨start, nx, hi⟩ := h.inv
  refine ⟨_, _, append_good hg hn3 he hb (by rw [hg.sum, hr]; exact hf), ⟨⟨start, nx, hi.append hb hf⟩, ⟨h.calm.down, h.calm.armed⟩, h.dead⟩⟩
theorem sync_up (h : Up n l d T first rs us) : ∃ l' d', syncL l d = (l', d', 0) ∧ Up n l' d' T first (rs ++ us.map fun b => (T, b)) [] := by
  obtain ⟨hg, _⟩ := h.good
  obtain ⟨start, nx, hi⟩ := h.inv
  rw [sync_good hg]
  split
  · exact ⟨_, _, rfl, ⟨⟨start, nx, hi.flush false⟩, h.calm.all, h.dead⟩⟩
  · rename_i hw
    have hus := hi.wts (by simpa using hw)
    subst hus
    exact ⟨_, _, rfl, by simpa using h⟩
theorem cut_up (h : Up n l d T first rs us) (hT : T + 1 < 256) {k : Nat} (h1 : first ≤ k) (h2 : k ≤ first + (rs.map (·.2) ++ us).length) (h64 : k + 70000 < 18446744073709551616) :
    ∃ l' d' T' rs', cutL l d k = (l', d', 0) ∧ T' ≤ T + 1 ∧ Up n l' d' T' k rs' [] ∧ rs'.map (·.2) = (rs.map (·.2) ++ us).drop (k - first) := by
  obtain ⟨hg, hn3, _, hr, hfi, htu, _⟩ := h.good
  rw [cut_good hg hn3 (by rw [hfi]; exact h1) (by rw [hfi, hr]; exact h2)]
  split
  · rename_i hk
    obtain ⟨l', d', he, hu⟩ := sync_up h
    rw [hk, hfi]
    exact ⟨l', d', T, _, he, Nat.le_succ _, hu, by rw [List.map_append, snd_pairs, Nat.sub_self, List.drop_zero]⟩
  · obtain ⟨start, nx, hi⟩ := h.inv
    have hi2 := hi.flush l.waits
    have hlg := hi2.log
    rw [List.append_nil] at hlg
    have hq : (rs ++ us.map fun b => (T, b)).length = (rs.map (·.2) ++ us).length := by simp
    have := told_inv (l := { l with waits := l.waits }) hi2.img.bas hlg hT (k - first) (by rw [hq]; omega) (by rw [Nat.add_sub_cancel' h1]; exact h64) false d.down d.armed
    rw [show first + (k - first) = k by omega] at this
    have hfk : l.first + (k - first) = k := by rw [hfi]; omega
    refine ⟨_, _, T + 1, (rs ++ us.map fun b => (T, b)).drop (k - first), rfl, Nat.le_refl _, ⟨⟨(start + secSum (((rs ++ us.map fun b => (T, b)).take (k - first)).map (·.2))) % (n - 2), first + (rs ++ us.map fun b => (T, b)).length, ?_⟩, ⟨h.calm.down, h.calm.armed⟩, h.dead⟩, ?_⟩
    · simp only [hfk] at this
      rw [hfi]
      exact this
    · rw [List.map_drop, List.map_append, snd_pairs]
end
theorem ring_new {n : Nat} (hn : 3 ≤ n) (p : Nat) : ringAt (newD n).kept (n - 2) p = List.replicate 64 0 := by
  have hm := Nat.mod_lt p (show 0 < n - 2 by omega)
  unfold ringAt newD
  rw [List.getD_eq_getElem?_getD, List.getElem?_replicate_of_lt (by omega)]
  rfl
theorem new_up (n : Nat) (hn : 3 ≤ n) (h64 : n ≤ 65536) : ∃ l d, openL (newD n) = (l, d, 0) ∧ Up n l d 1 0 [] [] := by
  have hf : findL zeroL (newD n) zeroH = (zeroL, 0) := by
    unfold findL
    rw [if_neg (by rw [newD_len]; show ¬ (n < 3 ∨ n - 2 ≤ 0 ∨ 0 < 0); omega), newD_len, show n - 1 = (n - 2) + 1 by omega, findF, if_pos ⟨rfl, Nat.le_refl _⟩]
    rfl
  have hz : ∀ i, i < n → (newD n).kept.getD i [] = List.replicate 64 0 := fun i hi => by
    unfold newD
    rw [List.getD_eq_getElem?_getD, List.getElem?_replicate_of_lt hi]
    rfl
  have hr0 : rdN (List.replicate 64 0) 56 = 0 := rdN_zero 56
  have hB : Bas (newD n).kept n 0 0 0 [] := ⟨newD_len n, hn, h64, fun i hi => by rw [hz i hi]; exact zero_sm, by omega, by omega, fun p => by rw [ring_new hn p]; unfold sback; rw [hr0]; exact Nat.le_refl _, trivial, Nat.zero_le _, by rw [hz 0 (by omega)]; exact ⟨rdN_zero 0, hr0⟩, by omega⟩
  have hL : Lg zeroL 0 0 (n - 2) 0 [] := ⟨rfl, rfl, rfl, rfl, (Nat.zero_mod _).symm, rfl⟩
  have hG : Good n zeroL (newD n) := ⟨newD_len n, ⟨rfl, rfl⟩, rfl, rfl, Nat.zero_le _⟩
  have ho : openL (newD n) = tellL zeroL (newD n) 0 := by
    unfold openL
    rw [if_neg (show ¬ ((newD n).down = true) from Bool.false_ne_true), newD_best, hf]
    rfl
  have ht := told_inv hB hL (by omega) 0 (Nat.le_refl _) (by omega) false false 0
  rw [ho, tell_good hG hn]
  exact ⟨_, _, rfl, ⟨⟨_, _, ht⟩, ⟨rfl, rfl⟩, rfl⟩⟩
end Go.Proofs.YtnlhjhpikjmoaaaGreatDoor
