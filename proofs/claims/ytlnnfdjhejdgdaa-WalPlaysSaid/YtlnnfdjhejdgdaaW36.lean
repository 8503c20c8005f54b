/- The log on a calm disk, in a free set of blocks. No walk. -/
import Derived.Test.YtlnnfdjhejdgdaaW34
namespace Go.Proofs.Ytlnnfdjhejdgdaa
open Go.RowKit

def LogF (f : Nat → Prop) (w : World) (gl gd n : Nat) (recs : List (List UInt8)) (first turn wt : Nat) : Prop :=
  ∃ l d, Both f w gl gd l d ∧ St n l d recs first turn wt
theorem LogAt.free {B : Nat} {w : World} {gl gd n : Nat} {recs : List (List UInt8)} {first turn wt : Nat} (h : LogAt B w gl gd n recs first turn wt) : LogF (fun x => B ≤ x ∧ x < w.heap.size) w gl gd n recs first turn wt := h
theorem LogF.mono {f f' : Nat → Prop} {w : World} {gl gd n : Nat} {recs : List (List UInt8)} {first turn wt : Nat} (h : LogF f w gl gd n recs first turn wt) (hm : ∀ x, f x → x < w.heap.size → f' x) : LogF f' w gl gd n recs first turn wt := by
  obtain ⟨l, d, h1, h2⟩ := h
  exact ⟨l, d, h1.mono hm, h2⟩
theorem LogF.at {f : Nat → Prop} {B : Nat} {w : World} {gl gd n : Nat} {recs : List (List UInt8)} {first turn wt : Nat} (h : LogF f w gl gd n recs first turn wt) (hm : ∀ x, f x → B ≤ x) : LogAt B w gl gd n recs first turn wt := by
  obtain ⟨l, d, h1, h2⟩ := h
  exact ⟨l, d, h1.mono fun x hx hlt => ⟨hm x hx, hlt⟩, h2⟩
theorem LogF.kp {f ok : Nat → Prop} {w w' : World} {gl gd n : Nat} {recs : List (List UInt8)} {first turn wt : Nat} (h : LogF f w gl gd n recs first turn wt) (hk : Kp ok w w') (hok : ∀ x, f x → ok x) : LogF f w' gl gd n recs first turn wt := by
  obtain ⟨l, d, h1, h2⟩ := h
  exact ⟨l, d, h1.kp hk hok, h2⟩
theorem LogF.below {f : Nat → Prop} {w w' : World} {gl gd n : Nat} {recs : List (List UInt8)} {first turn wt : Nat} (h : LogF f w gl gd n recs first turn wt) (hb : Below w.heap.size w w') : LogF f w' gl gd n recs first turn wt := by
  obtain ⟨l, d, h1, h2⟩ := h
  exact ⟨l, d, h1.below hb, h2⟩
theorem LogF.lt {f : Nat → Prop} {w : World} {gl gd n : Nat} {recs : List (List UInt8)} {first turn wt : Nat} (h : LogF f w gl gd n recs first turn wt) : f gl := by
  obtain ⟨l, d, h1, h2⟩ := h
  exact h1.glf
theorem LogF.le {f : Nat → Prop} {w : World} {gl gd n : Nat} {recs : List (List UInt8)} {first t t' x x' : Nat} (h : LogF f w gl gd n recs first t x) (ht : t ≤ t') (hx : x ≤ x') : LogF f w gl gd n recs first t' x' := by
  obtain ⟨l, d, h1, h2⟩ := h
  exact ⟨l, d, h1, ⟨h2.good, h2.end_, h2.recs, h2.first, Nat.le_trans h2.turn ht, Nat.le_trans h2.wait hx⟩⟩
section
variable {f : Nat → Prop} {w w0 : World} {gl gd n : Nat} {recs : List (List UInt8)} {first turn wt : Nat}
theorem append_opF (hn : 3 ≤ n) (h : LogF f w gl gd n recs first turn wt) (v : Value) (b : List UInt8) (hrb : RB (fun x => ¬ f x) w v b) (hlen : b.length ≤ 32768) (hfit : secSum recs + secN b.length ≤ n - 2) (hf : first + 70000 < 18446744073709551616) (hw : wt + 1000 ≤ 1000000000) :
    Calls Try.prog 11 #[.pointer (some ⟨gl, 0, none⟩), v] w fun e w' => e = .returned (.int .i64 0) ∧ LogF (fun x => f x ∨ w.heap.size ≤ x) w' gl gd n (recs ++ [b]) first turn (wt + secN b.length) ∧ Kp (fun x => ¬ f x) w w' := by
  obtain ⟨l, d, h1, h2⟩ := h
  obtain ⟨l', d', he, hs⟩ := append_st hn h2 hlen hfit
  refine (append_any v b h1 hrb (fun x hx => hx) (by omega) h2.good.sum (by rw [h2.first]; exact hf) (by have := h2.wait; omega)).mono ?_
  rintro e w' ⟨rfl, hB, hk⟩
  rw [he] at hB ⊢
  exact ⟨rfl, ⟨l', d', hB, hs⟩, hk⟩
theorem sync_opF (h : LogF f w gl gd n recs first turn wt) :
    Calls Try.prog 16 #[.pointer (some ⟨gl, 0, none⟩)] w fun e w' => e = .returned (.int .i64 0) ∧ LogF f w' gl gd n recs first turn wt ∧ Kp (fun x => ¬ f x) w w' := by
  obtain ⟨l, d, h1, h2⟩ := h
  obtain ⟨l', d', he, hs⟩ := sync_st h2
  refine (sync_b h1).mono ?_
  rintro e w' ⟨rfl, hB, hk⟩
  rw [he] at hB ⊢
  exact ⟨rfl, ⟨l', d', hB, hs⟩, hk⟩
theorem cut_opF (hn : 3 ≤ n) (h : LogF f w gl gd n recs first turn wt) (k : Nat) (h1 : first ≤ k) (h2 : k ≤ first + recs.length) (hk : k < 18446744073709551616) (ht : turn + 1 < 18446744073709551616) (hw : wt + 1 ≤ 1000000000) :
    Calls Try.prog 12 #[.pointer (some ⟨gl, 0, none⟩), .int .u64 (k : Int)] w fun e w' => e = .returned (.int .i64 0) ∧ LogF (fun x => f x ∨ w.heap.size ≤ x) w' gl gd n (recs.drop (k - first)) k (turn + 1) wt ∧ Kp (fun x => ¬ f x) w w' := by
  obtain ⟨l, d, g1, g2⟩ := h
  obtain ⟨l', d', he, hs⟩ := cut_st hn g2 h1 h2
  refine (cut_any k g1 hk g2.good.sum (by have := g2.turn; omega) (by have := g2.wait; omega)).mono ?_
  rintro e w' ⟨rfl, hB, hk⟩
  rw [he] at hB ⊢
  exact ⟨rfl, ⟨l', d', hB, hs⟩, hk⟩
end
end Go.Proofs.Ytlnnfdjhejdgdaa
