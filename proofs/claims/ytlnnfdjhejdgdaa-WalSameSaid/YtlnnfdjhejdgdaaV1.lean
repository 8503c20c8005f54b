/- What stands in a sector of a log, and what is read from it. No walk. -/
import Derived.Test.YtlnnfdjhejdgdaaW34
namespace Go.Proofs.Ytlnnfdjhejdgdaa
open Go.RowKit

def sfront (s : List UInt8) : Nat := rdN s 0
def sback (s : List UInt8) : Nat := rdN s 56
theorem rdN_at (a : List UInt8) (t : Nat) (b : List UInt8) (k : Nat) (hk : a.length = k) (ht : t < 18446744073709551616) : rdN (a ++ be8 t ++ b) k = t := by
  unfold rdN
  rw [List.append_assoc, List.drop_append_of_le_length (by omega), ← hk, List.drop_length, List.nil_append, List.take_append_of_le_length (by rw [be8_length]; exact Nat.le_refl _), List.take_of_length_le (by rw [be8_length]; exact Nat.le_refl _)]
  exact beNat_be8 t ht
theorem secB_front (t : Nat) (p : List UInt8) (ht : t < 18446744073709551616) : sfront (secB t p) = t := by
  have := rdN_at [] t (p ++ List.replicate (48 - p.length) 0 ++ be8 t) 0 rfl ht
  simpa [sfront, secB] using this
theorem secB_back (t : Nat) (p : List UInt8) (hp : p.length ≤ 48) (ht : t < 18446744073709551616) : sback (secB t p) = t := by
  have := rdN_at (be8 t ++ p ++ List.replicate (48 - p.length) 0) t [] 56 (by simp [be8_length]; omega) ht
  simpa [sback, secB] using this
theorem secB_mid (t : Nat) (p : List UInt8) (hp : p.length ≤ 48) : ((secB t p).drop 8).take 48 = p ++ List.replicate (48 - p.length) 0 := by
  unfold secB
  rw [List.append_assoc, List.append_assoc, List.drop_append_of_le_length (by rw [be8_length]; exact Nat.le_refl _), List.drop_of_length_le (by rw [be8_length]; exact Nat.le_refl _), List.nil_append, ← List.append_assoc, List.take_append_of_le_length (by simp; omega), List.take_of_length_le (by simp; omega)]
theorem hdB_at (t f n s e : Nat) (ht : t < 18446744073709551616) (hf : f < 18446744073709551616) (hn : n < 18446744073709551616) (hs : s < 18446744073709551616) (he : e < 18446744073709551616) :
    readH (hdB t f n s e) = ⟨t, f, n, s, e⟩ ∧ sback (hdB t f n s e) = t := by
  have h0 := rdN_at [] t (be8 f ++ be8 n ++ be8 s ++ be8 e ++ List.replicate 16 0 ++ be8 t) 0 rfl ht
  have h1 := rdN_at (be8 t) f (be8 n ++ be8 s ++ be8 e ++ List.replicate 16 0 ++ be8 t) 8 rfl hf
  have h2 := rdN_at (be8 t ++ be8 f) n (be8 s ++ be8 e ++ List.replicate 16 0 ++ be8 t) 16 rfl hn
  have h3 := rdN_at (be8 t ++ be8 f ++ be8 n) s (be8 e ++ List.replicate 16 0 ++ be8 t) 24 rfl hs
  have h4 := rdN_at (be8 t ++ be8 f ++ be8 n ++ be8 s) e (List.replicate 16 0 ++ be8 t) 32 rfl he
  have h5 := rdN_at (be8 t ++ be8 f ++ be8 n ++ be8 s ++ be8 e ++ List.replicate 16 0) t [] 56 rfl ht
  simp only [List.append_assoc, List.nil_append, List.append_nil] at h0 h1 h2 h3 h4 h5
  unfold readH sback hdB
  simp only [List.append_assoc, h0, h1, h2, h3, h4, h5]
  exact ⟨trivial, trivial⟩
theorem showW_keepW (i : Nat) : ∀ (l : List (Nat × List UInt8)) (k : List (List UInt8)), i < k.length → showW i (k.getD i []) l = (keepW k l).getD i []
  | [], _, _ => rfl
  | p :: l, k, h => by
    show showW i (if p.1 = i then p.2 else k.getD i []) l = (keepW (k.set p.1 p.2) l).getD i []
    rw [← showW_keepW i l (k.set p.1 p.2) (by rw [List.length_set]; exact h)]
    congr 1
    rw [List.getD_eq_getElem?_getD, List.getD_eq_getElem?_getD, List.getElem?_set]
    split
    · rename_i e
      rw [if_pos (by omega)]
      rfl
    · rfl
theorem read_up {d : DskD} (hu : d.down = false) {i : Nat} (hi : i < d.kept.length) : d.read (i : Int) = ((keepW d.kept d.wait).getD i [], 0) := by
  unfold DskD.read
  rw [if_neg (by rw [hu]; decide), if_neg (by omega), Int.toNat_natCast]
  unfold DskD.shown
  rw [showW_keepW i _ _ hi]
/-! ### a record -/
def padR (b : List UInt8) : List UInt8 := recB b ++ List.replicate 48 0
def accR (b : List UInt8) (i : Nat) : List UInt8 := (padR b).take (48 * i)
theorem padR_len (b : List UInt8) : (padR b).length = b.length + 51 := by unfold padR; rw [List.length_append, recB_len, List.length_replicate]
theorem accR_len (b : List UInt8) {i : Nat} (hi : i ≤ secN b.length) : (accR b i).length = 48 * i := by
  unfold accR
  rw [List.length_take, padR_len]
  unfold secN at hi
  omega
theorem part_pad (b : List UInt8) {k : Nat} (hk : k < secN b.length) : partB b k ++ List.replicate (48 - (partB b k).length) 0 = ((padR b).drop (48 * k)).take 48 := by
  unfold secN at hk
  have hl := recB_len b
  unfold partB padR
  rw [List.drop_append_of_le_length (by omega), List.take_append, List.take_replicate]
  congr 2
  rw [List.length_take, List.length_drop]
  omega
theorem accR_succ (b : List UInt8) {k : Nat} (hk : k < secN b.length) : accR b k ++ (partB b k ++ List.replicate (48 - (partB b k).length) 0) = accR b (k + 1) := by
  rw [part_pad b hk]
  unfold accR
  rw [Nat.mul_succ, List.take_add]
theorem rd3_acc (b : List UInt8) (hb : b.length ≤ 32768) {i : Nat} (hi : 1 ≤ i) : rd3 (accR b i) = b.length := by
  have h : ∀ j, j < 3 → (accR b i).getD j 0 = (recB b).getD j 0 := fun j hj => by
    unfold accR padR
    rw [List.getD_eq_getElem?_getD, List.getD_eq_getElem?_getD, List.getElem?_take_of_lt (by omega), List.getElem?_append_left (by rw [recB_len]; omega)]
  unfold rd3
  rw [h 0 (by omega), h 1 (by omega), h 2 (by omega)]
  simp only [recB, List.cons_append, List.nil_append, List.getD_eq_getElem?_getD, List.getElem?_cons_zero, List.getElem?_cons_succ, Option.getD_some, UInt8.toNat_ofNat']
  omega
theorem acc_rec (b : List UInt8) {i : Nat} (hi : secN b.length ≤ i) : ((accR b i).drop 3).take b.length = b := by
  unfold secN at hi
  unfold accR
  rw [List.drop_take, List.take_take, Nat.min_eq_left (by omega)]
  unfold padR
  rw [List.drop_append_of_le_length (by rw [recB_len]; omega), show (recB b).drop 3 = b from by simp [recB], List.take_append_of_le_length (Nat.le_refl _), List.take_length]
theorem partB_le (b : List UInt8) (k : Nat) : (partB b k).length ≤ 48 := by unfold partB; rw [List.length_take]; omega
theorem not_misT {s : List UInt8} {t : Nat} (h1 : sfront s ≠ 0) (h2 : sfront s = sback s) (h3 : t = 0 ∨ t = sfront s) : ¬ misT s t := by
  unfold misT
  unfold sfront sback at *
  omega
/-- one more sector of a record -/
theorem nextF_step {d : DskD} {e0 ring t tt : Nat} {b : List UInt8} (hb : b.length ≤ 32768) (h0 : 0 < tt) (h64 : tt < 18446744073709551616) (ht : t = 0 ∨ t = tt) {i : Nat} (hi : i < secN b.length)
    (hr : d.read ((2 + (e0 + i) % ring : Nat) : Int) = (secB tt (partB b i), 0)) (k : Nat) :
    nextF d e0 ring t (k + 1) i (accR b i) (if i = 0 then 0 else b.length) = nextF d e0 ring t k (i + 1) (accR b (i + 1)) (if i + 1 = 0 then 0 else b.length) := by
  have hc : i = 0 ∨ (accR b i).length < 3 + (if i = 0 then 0 else b.length) := by
    by_cases h : i = 0
    · exact .inl h
    · refine .inr ?_
      rw [if_neg h, accR_len b (Nat.le_of_lt hi)]
      unfold secN at hi
      omega
  have hm := not_misT (s := secB tt (partB b i)) (t := t) (by rw [secB_front _ _ h64]; omega) (by rw [secB_front _ _ h64, secB_back _ _ (partB_le _ _) h64]) (by rw [secB_front _ _ h64]; exact ht)
  have hn : (if i = 0 then rd3 (accR b (i + 1)) else if i = 0 then 0 else b.length) = b.length := by
    by_cases h : i = 0
    · rw [if_pos h, rd3_acc b hb (by omega)]
    · rw [if_neg h, if_neg h]
  rw [nextF, if_pos hc, hr]
  simp only
  rw [if_neg (by decide), if_neg hm, secB_mid _ _ (partB_le _ _), accR_succ b hi, hn, if_neg (by omega), if_neg (by omega)]
theorem nextF_fin {d : DskD} {e0 ring t : Nat} {b : List UInt8} (k : Nat) : nextF d e0 ring t k (secN b.length) (accR b (secN b.length)) (if secN b.length = 0 then 0 else b.length) = (b, true, 0) := by
  have h1 : secN b.length ≠ 0 := by unfold secN; omega
  have hc : ¬ (secN b.length = 0 ∨ (accR b (secN b.length)).length < 3 + b.length) := by
    rw [accR_len b (Nat.le_refl _)]
    unfold secN at *
    omega
  rw [if_neg h1]
  cases k with
  | zero => rw [nextF, if_neg hc, acc_rec b (Nat.le_refl _)]
  | succ k => rw [nextF, if_neg hc, acc_rec b (Nat.le_refl _)]
/-- a whole record is read -/
theorem nextF_all {d : DskD} {e0 ring t tt : Nat} {b : List UInt8} (hb : b.length ≤ 32768) (h0 : 0 < tt) (h64 : tt < 18446744073709551616) (ht : t = 0 ∨ t = tt)
    (hr : ∀ k, k < secN b.length → d.read ((2 + (e0 + k) % ring : Nat) : Int) = (secB tt (partB b k), 0)) : ∀ m i, i + m = secN b.length → ∀ fuel, m ≤ fuel → nextF d e0 ring t fuel i (accR b i) (if i = 0 then 0 else b.length) = (b, true, 0)
  | 0, i, hi, fuel, _ => by
    rw [Nat.add_zero] at hi
    rw [hi]
    exact nextF_fin fuel
  | m + 1, i, hi, fuel, hf => by
    obtain ⟨k, rfl⟩ : ∃ k, fuel = k + 1 := ⟨fuel - 1, by omega⟩
    rw [nextF_step hb h0 h64 ht (by omega) (hr i (by omega)) k]
    exact nextF_all hb h0 h64 ht hr m (i + 1) (by omega) k (by omega)
/-- a record that is there in part is not read -/
theorem nextF_cut {d : DskD} {e0 ring t tt : Nat} {b : List UInt8} (hb : b.length ≤ 32768) (h0 : 0 < tt) (h64 : tt < 18446744073709551616) (ht : t = 0 ∨ t = tt) {j : Nat} (hj : j < secN b.length)
    (hr : ∀ k, k < j → d.read ((2 + (e0 + k) % ring : Nat) : Int) = (secB tt (partB b k), 0)) {s : List UInt8} (hs : d.read ((2 + (e0 + j) % ring : Nat) : Int) = (s, 0)) (hm : misT s t) :
    ∀ m i, i + m = j → ∀ fuel, nextF d e0 ring t fuel i (accR b i) (if i = 0 then 0 else b.length) = ([], false, 0)
  | m, i, hi, fuel => by
    have hc : i = 0 ∨ (accR b i).length < 3 + (if i = 0 then 0 else b.length) := by
      by_cases h : i = 0
      · exact .inl h
      · refine .inr ?_
        rw [if_neg h, accR_len b (by omega)]
        unfold secN at hj
        omega
    cases fuel with
    | zero => rw [nextF, if_pos hc]
    | succ k =>
      cases m with
      | zero =>
        obtain rfl : i = j := by omega
        rw [nextF, if_pos hc, hs]
        simp only
        rw [if_neg (by decide), if_pos hm]
      | succ m =>
        rw [nextF_step hb h0 h64 ht (by omega) (hr i (by omega)) k]
        exact nextF_cut hb h0 h64 ht hj hr hs hm m (i + 1) (by omega) k
theorem accR_zero (b : List UInt8) : accR b 0 = [] := by simp [accR]
end Go.Proofs.Ytlnnfdjhejdgdaa
