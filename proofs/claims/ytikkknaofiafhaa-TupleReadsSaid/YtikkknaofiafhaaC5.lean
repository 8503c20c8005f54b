/- awake; TupleWrites's walk. -/
import Derived.Test.YtikkknaofiafhaaC4
namespace Go.Proofs.Ytikkknaofiafhaa
open Go.RowKit

def oneVal : List Val := [⟨1, 1, ⟨#[]⟩⟩]
theorem oneEnc : encSpec oneVal = ([2, 128, 0, 0, 0, 0, 0, 0, 1], 0) := by decide +kernel

set_option maxRecDepth 100000 in
set_option maxHeartbeats 800000 in
theorem awake_any (w : World) :
    Calls Try.prog 14 #[] w fun e w' => e = .returned (.bool true) ∧ Below w.heap.size w w' := by
  go_enter Try.func14, Try.ntmps14
  go_wp2_with fail
  refine (enc_any (some ⟨w.heap.size, 0, none⟩) 1 1 oneVal _ (Rd.new w _ 3 1 _ rfl) (by omega) (by intro x hx; simp [oneVal] at hx; subst hx; unfold Val.ok; decide)).mono ?_
  unfold EncPost
  rw [oneEnc]
  rintro e w1 ⟨⟨A, n, c, rfl, hown⟩, hb1⟩
  have hn : 9 = n := hown.len
  subst hn
  obtain ⟨b, off, rfl, _, h0⟩ := hown.rd.byteB (k := 0) (by decide)
  obtain ⟨b', off', hA, _, h1⟩ := hown.rd.byteB (k := 1) (by decide)
  obtain ⟨b2, off2, hA2, _, h8⟩ := hown.rd.byteB (k := 8) (by decide)
  simp only [Option.some.injEq, Addr.mk.injEq] at hA hA2
  obtain ⟨rfl, rfl, _⟩ := hA
  obtain ⟨rfl, rfl, _⟩ := hA2
  simp at h0 h1 h8
  go_wp2_with fail
  refine (right_any _ _ _ _).mono ?_
  rintro e w2 ⟨rfl, hb2⟩
  go_wp2
  go_ret
  exact ⟨ret_bool (by unfold rightB; rw [ByteArray.toList_eq]; rfl), ((Below.refl _ _).alloc (Nat.le_refl _) _).trans ((hb1.mono (by simp)).trans (hb2.mono (by have := hb1.size; simp at this; omega)))⟩

set_option maxRecDepth 100000 in
set_option maxHeartbeats 800000 in
theorem lawWrites (A : Option Addr) (n c : Nat) (vs : List Val) (x : Val) (w : World) (hr : Rd w 3 A n (vcs vs)) (hm : n ≤ 4398046511104) (hok : okVals vs) :
    Calls Try.prog 3 #[.slice A n c, .agg #[.int .i64 x.k, .int .i64 x.i, .string x.s]] w fun e w' => e = .returned (.bool true) ∧ Below w.heap.size w w' := by
  by_cases h60 : 60 < n
  · go_enter Try.func3, Try.ntmps3
    go_wp2_with (go_at_call 14; refine (awake_any _).mono ?_; rintro e w1 ⟨rfl, hb1⟩)
    go_ret
    exact ⟨rfl, ((Below.refl _ _).alloc (Nat.le_refl _) _).trans (hb1.mono (by simp))⟩
  · have hq : Below w.heap.size w (w.alloc (.cells #[.int .i64 x.k, .int .i64 x.i, .string x.s] 24)) := (Below.refl _ _).alloc (Nat.le_refl _) _
    go_enter Try.func3, Try.ntmps3
    go_wp2_with fail
    refine (ownVal_any A n c vs ⟨71, 0, ⟨#[]⟩⟩ _ (hr.below hq) hm).mono ?_
    rintro e w1 ⟨⟨g, rfl, hown⟩, hb1⟩
    have hb1' : Below w.heap.size w w1 := hq.trans (hb1.mono (by simp))
    have hrw : Rd w1 3 (some ⟨g, 0, none⟩) (n + 3) (vcs (vs ++ [⟨71, 0, ⟨#[]⟩⟩, ⟨71, 0, ⟨#[]⟩⟩, ⟨71, 0, ⟨#[]⟩⟩])) := Rd.of_own hown
    have hr1 : Rd w1 3 (some ⟨g, 0, none⟩) n (vcs vs) := by
      have hl : vs.length = n := by have := hr.1; rw [vcs_length] at this; omega
      have := hrw.take (k := n) (by omega)
      rw [vcs_take, ← hl, List.take_left' rfl, hl] at this
      exact this
    go_wp2_with fail
    refine (enc_any _ n _ vs _ hr1 (by omega) hok).mono ?_
    rintro e w2 ⟨⟨A2, n2, c2, rfl, hown2⟩, hb2⟩
    go_wp2_with fail
    refine (refEnc_any A n c vs _ (hr.below (hb1'.trans (hb2.mono hb1'.size))) (by omega) hok).mono ?_
    rintro e w3 ⟨⟨A3, n3, c3, rfl, hown3⟩, hb3⟩
    have hb2' : Below w.heap.size w w2 := hb1'.trans (hb2.mono hb1'.size)
    have hb3' : Below w.heap.size w w3 := hb2'.trans (hb3.mono hb2'.size)
    have q2 : Rd w3 1 A2 n2 (bs (encSpec vs).1) := hown2.rd.below hb3
    have q3 : Rd w3 1 A3 n3 (bs (encSpec vs).1) := hown3.rd
    have qx : w3.cell? ⟨w.heap.size, 0, none⟩ = some (.int .i64 x.k) ∧ w3.cell? ⟨w.heap.size, 0 + 1, none⟩ = some (.int .i64 x.i) ∧ w3.cell? ⟨w.heap.size, 0 + 2, none⟩ = some (.string x.s) := by
      have hb13 : Below (w.heap.size + 1) (w.alloc (.cells #[.int .i64 x.k, .int .i64 x.i, .string x.s] 24)) w3 :=
        (hb1.mono (by simp)).trans ((hb2.mono (by have := hb1.size; simp at this; omega)).trans (hb3.mono (by have := hb1.size; have := hb2.size; simp at *; omega)))
      exact val_later hb13 (by simp) (by simp) (by simp) (by simp)
    obtain ⟨m0, m1, m2⟩ := qx
    simp only [Nat.zero_add] at m1 m2
    have l0 := Later.cell m0
    have l1 := Later.cell m1
    have l2 := Later.cell m2
    have qr := hrw.below (hb2.trans (hb3.mono hb2.size))
    have qv := hr.below hb3'
    go_wp2
    refine wp_region_later (by kernel_rfl) (by kernel_rfl) ?_
    repeat (go_big_quiet_step ((first
      | (go_at_call 14; exact Later.call (awake_any _))
      | (go_at_call 18; exact Later.call_same (bytes_same _ _ _ _ _ _ _ _ (Later.rd _ q2) (Later.rd _ q3)))
      | (go_at_call 19; exact Later.call (right_any _ _ _ _))
      | (go_at_call 20; exact Later.call (refRight_any _ _ _ _))
      | (go_at_call 21; exact Later.call (keptVal_any _ _ _ _ _ ⟨71, 0, ⟨#[]⟩⟩ _ (Later.rd _ qr) (Later.rd _ qv) hm)))))
    refine wpQuiet_nil ?_
    intro s
    go_wp2
    go_ret
    exact ⟨rfl, hb3'.trans (s.below.mono hb3'.size)⟩
end Go.Proofs.Ytikkknaofiafhaa
