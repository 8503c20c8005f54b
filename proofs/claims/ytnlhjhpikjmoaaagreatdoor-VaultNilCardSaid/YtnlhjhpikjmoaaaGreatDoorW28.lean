/- Contracts over log and disk together: ready, met, Sync, First, Cut. -/
import Derived.Test.YtnlhjhpikjmoaaaGreatDoorW27
namespace Go.Proofs.YtnlhjhpikjmoaaaGreatDoor
open Go.RowKit

section
variable {f : Nat → Prop} {gl gd : Nat} {l : LogD} {d : DskD} {w : World}
theorem Both.glf (h : Both f w gl gd l d) : f gl := by
  obtain ⟨fl, fd, h1, h2, h3, h4, h5⟩ := h
  exact (h1 _ h4.ftl).1
theorem ready_b (h : Both f w gl gd l d) : Calls Tryz.prog 57 #[.pointer (some ⟨gl, 0, none⟩)] w fun e w' => e = .returned (.int .i64 (rdyE l d)) ∧ Both f w' gl gd (rdy l d) d ∧ Kp (fun b => b ≠ gl) w w' := by
  obtain ⟨fl, fd, h1, h2, h3, h4, h5⟩ := h
  refine (ready_any h4 h5).mono ?_
  rintro e w' ⟨he, hl, hk⟩
  have hz := hk.size
  exact ⟨he, ⟨fl, fd, fun x hx => ⟨(h1 x hx).1, Nat.lt_of_lt_of_le (h1 x hx).2 hz⟩, fun x hx => ⟨(h2 x hx).1, Nat.lt_of_lt_of_le (h2 x hx).2 hz⟩, h3, hl, h5.kp hk fun b hb e => h3 b hb (e ▸ h4.ftl)⟩, hk⟩
theorem met_b (h : Both f w gl gd l d) (k : Int) : Calls Tryz.prog 61 #[.pointer (some ⟨gl, 0, none⟩), .int .i64 k] w fun e w' => e = .returned (.int .i64 k) ∧ Both f w' gl gd { l with dead := l.dead || k == 3 } d ∧ Kp (fun b => b ≠ gl) w w' := by
  obtain ⟨fl, fd, h1, h2, h3, h4, h5⟩ := h
  refine (met_any h4 k).mono ?_
  rintro e w' ⟨he, hl, hk⟩
  have hz := hk.size
  exact ⟨he, ⟨fl, fd, fun x hx => ⟨(h1 x hx).1, Nat.lt_of_lt_of_le (h1 x hx).2 hz⟩, fun x hx => ⟨(h2 x hx).1, Nat.lt_of_lt_of_le (h2 x hx).2 hz⟩, h3, hl, h5.kp hk fun b hb e => h3 b hb (e ▸ h4.ftl)⟩, hk⟩
theorem first_b (h : Both f w gl gd l d) : Calls Tryz.prog 52 #[.pointer (some ⟨gl, 0, none⟩)] w fun e w' => e = .returned (.int .u64 (l.first : Int)) ∧ w' = w := by
  obtain ⟨fl, fd, h1, h2, h3, h4, h5⟩ := h
  exact first_any h4
theorem sync_b (h : Both f w gl gd l d) : Calls Tryz.prog 62 #[.pointer (some ⟨gl, 0, none⟩)] w fun e w' => e = .returned (.int .i64 (syncL l d).2.2) ∧ Both f w' gl gd (syncL l d).1 (syncL l d).2.1 ∧ Kp (fun x => ¬ f x) w w' := by
  obtain ⟨fl, fd, h1, h2, h3, h4, h5⟩ := h
  refine (sync_any h4 h5 h3).mono ?_
  rintro e w' ⟨he, hl, hd, hk⟩
  have hz := hk.size
  exact ⟨he, ⟨fl, fd, fun x hx => ⟨(h1 x hx).1, Nat.lt_of_lt_of_le (h1 x hx).2 hz⟩, fun x hx => ⟨(h2 x hx).1, Nat.lt_of_lt_of_le (h2 x hx).2 hz⟩, h3, hl, hd⟩, hk.mono fun b hb => ⟨fun h => hb (h1 b h).1, fun h => hb (h2 b h).1⟩⟩
theorem records_b (h : Both f w gl gd l d) (hn : l.recs.length ≤ 1000000) : Calls Tryz.prog 53 #[.pointer (some ⟨gl, 0, none⟩)] w fun e w' => (∃ v, e = .returned v ∧ RSl rBs (fun b => w.heap.size ≤ b) w' v l.recs) ∧ Below w.heap.size w w' := by
  obtain ⟨fl, fd, h1, h2, h3, h4, h5⟩ := h
  exact records_any h4 hn
theorem Both.setWaits (h : Both f w gl gd l d) (x : Bool) : Both f (w.setCell ⟨gl, 8, none⟩ (.bool x)) gl gd { l with waits := x } d ∧ Kp (fun b => b ≠ gl) w (w.setCell ⟨gl, 8, none⟩ (.bool x)) := by
  have hk : Kp (fun b => b ≠ gl) w (w.setCell ⟨gl, 8, none⟩ (.bool x)) := (Kp.refl _ _).setCell (fun _ h => h rfl) _
  have hok := h.ok.1
  exact ⟨h.put hk _ rfl rfl ⟨hok.turn, hok.first, hok.recs, hok.places, hok.placed, hok.end_, hok.used⟩ fun vr vp hb => hb.set_ 8 _, hk⟩
end
/-- what Cut makes of a log and its disk, and answers -/
def cutL (l : LogD) (d : DskD) (n : Nat) : LogD × DskD × Int :=
  if n < l.first ∨ l.first + l.recs.length < n then (l, d, 1) else
  if n = l.first then syncL l d else
  if rdyE l d ≠ 0 then (rdy l d, d, 3) else
  let t := tellL l d (n - l.first)
  if t.2.2 ≠ 0 then ({ t.1 with dead := t.1.dead || t.2.2 == 3 }, t.2.1, t.2.2) else ({ t.1 with dead := t.1.dead || t.2.2 == 3, waits := false }, t.2.1, 0)
set_option maxRecDepth 100000 in
set_option maxHeartbeats 6400000 in
theorem cut_any {f : Nat → Prop} {gl gd : Nat} {l : LogD} {d : DskD} {w : World} (n : Nat) (h : Both f w gl gd l d) (hn : n < 18446744073709551616) (hus : l.used = secSum l.recs) (ht : l.turn + 1 < 18446744073709551616) (hwl : d.wait.length + 1 ≤ 1000000000) :
    Calls Tryz.prog 36 #[.pointer (some ⟨gl, 0, none⟩), .int .u64 (n : Int)] w fun e w' => e = .returned (.int .i64 (cutL l d n).2.2) ∧ Both (fun x => f x ∨ w.heap.size ≤ x) w' gl gd (cutL l d n).1 (cutL l d n).2.1 ∧ Kp (fun x => ¬ f x) w w' := by
  obtain ⟨R, hR⟩ : ∃ R, R = cutL l d n := ⟨_, rfl⟩
  rw [← hR]
  have HR := Lib.hid hR
  have hok := h.ok
  have hfg := h.glf
  have HLN := Lib.hid hn
  have HLT := Lib.hid ht
  have HFI := Lib.hid hok.1.first
  have hrl : l.recs.length ≤ 65536 := by have := hok.1.used; have := secSum_ge l.recs; omega
  obtain ⟨Nx, hNx⟩ : ∃ Nx, Nx = l.first + l.recs.length := ⟨_, rfl⟩
  have hnext := fun {w : World} (h : Both f w gl gd l d) => next_b h
  rw [← hNx] at hnext
  have HNX := Lib.hid hNx
  have HB := Lib.hid h
  obtain ⟨bad, hbad⟩ : ∃ bad : Bool, bad = decide (n < l.first ∨ Nx < n) := ⟨_, rfl⟩
  have HBAD := Lib.hid hbad
  clear hbad hNx hn ht hR hok
  go_enter Tryz.func36, Tryz.ntmps36
  go_upto_region 3 with fail
  go_cut [18] (fun v wx => v = .bool bad ∧ Below w.heap.size w wx)
  case first =>
    by_cases h1 : n < l.first
    · have hm : bad = true := by rw [HBAD.out]; exact decide_eq_true (.inl h1)
      have z3 : decide ((n : Int) < (l.first : Int)) = true := decide_eq_true (by omega)
      have z4 : decide (n < l.first) = true := decide_eq_true h1
      clear h1
      go_wp2_with fail
      refine (first_b HB.out).mono ?_
      rintro e w2 ⟨rfl, rfl⟩
      go_wp2
      go_meet
      exact ⟨by rw [hm], Below.refl _ _⟩
    · have z3 : decide ((n : Int) < (l.first : Int)) = false := decide_eq_false (by omega)
      have z4 : decide (n < l.first) = false := decide_eq_false h1
      have hm : bad = decide ((Nx : Int) < (n : Int)) := by rw [HBAD.out]; exact decide_eq_decide.2 (by omega)
      clear h1
      go_wp2_with fail
      refine (first_b HB.out).mono ?_
      rintro e w2 ⟨rfl, rfl⟩
      go_wp2_with fail
      refine (hnext HB.out).mono ?_
      rintro e w3 ⟨rfl, hb3⟩
      go_wp2
      go_meet
      exact ⟨by rw [hm]; first | rfl | (congr 1; exact decide_eq_decide.2 (by omega)), hb3⟩
  obtain ⟨rfl, hbc⟩ := hcut
  have hBc := HB.out.below hbc
  cases bad
  case true =>
    have hRR : R = (l, d, 1) := by rw [HR.out, cutL, if_pos (by rw [← HNX.out]; exact of_decide_eq_true HBAD.out.symm)]
    have HRR := Lib.hid hRR
    clear hRR
    have HBC := Lib.hid hBc
    clear hBc
    go_wp2
    go_ret
    rw [HRR.out]
    exact ⟨rfl, HBC.out.mono fun b hb _ => .inl hb, .of_below hbc⟩
  have hnb := of_decide_eq_false HBAD.out.symm
  have hR2 := HR.out
  rw [cutL, if_neg (by rw [← HNX.out]; exact hnb)] at hR2
  obtain ⟨vr, vp, hbk, _, hgl⟩ := hBc.cells
  have c3 : wc.cell? ⟨gl, 3, none⟩ = some (.int .u64 (l.first : Int)) := hbk.cell 3
  have hzc := hbc.size
  clear hbk HBAD
  by_cases hnf : n = l.first
  · rw [if_pos hnf] at hR2
    have HRR := Lib.hid hR2
    have z3 : ((n : Int) == (l.first : Int)) = true := by simpa using (show (n : Int) = (l.first : Int) by omega)
    have z4 : decide ((n : Int) = (l.first : Int)) = true := decide_eq_true (by omega)
    have z5 : (n == l.first) = true := by simpa using hnf
    have z6 : decide (n = l.first) = true := decide_eq_true hnf
    have hsy := sync_b hBc
    rw [← HRR.out] at hsy
    have HSY := Lib.hid hsy
    clear hR2 hsy hnf hnb hBc
    go_wp2_with fail
    refine HSY.out.mono ?_
    rintro e w4 ⟨rfl, hB4, hK4⟩
    have HB4 := Lib.hid hB4
    have HK4 := Lib.hid ((Kp.of_below (ok := fun x => ¬ f x) hbc).trans hK4)
    clear hB4 hK4 c3
    go_wp2
    go_ret
    exact ⟨rfl, HB4.out.mono fun b hb _ => .inl hb, HK4.out⟩
  rw [if_neg hnf] at hR2
  have z3 : ((n : Int) == (l.first : Int)) = false := by simpa using (show ¬ (n : Int) = (l.first : Int) by omega)
  have z4 : decide ((n : Int) = (l.first : Int)) = false := decide_eq_false (by omega)
  have z5 : (n == l.first) = false := by simpa using hnf
  have z6 : decide (n = l.first) = false := decide_eq_false hnf
  have hrd := ready_b hBc
  rcases rdyE_or l d with he | ⟨he, hrde⟩
  · rw [if_pos (by rw [he]; decide)] at hR2
    rw [he] at hrd
    have HRR := Lib.hid hR2
    have HRD := Lib.hid hrd
    clear hR2 hrd he hnf hnb
    go_wp2_with fail
    refine HRD.out.mono ?_
    rintro e w4 ⟨rfl, hB4, hK4⟩
    have HB4 := Lib.hid hB4
    have HK4 := Lib.hid ((Kp.of_below (ok := fun x => ¬ f x) hbc).thenW hK4 fun b _ hb e => hb (e ▸ hfg))
    clear hB4 hK4 c3 hBc
    go_wp2
    go_ret
    rw [HRR.out]
    exact ⟨rfl, HB4.out.mono fun b hb _ => .inl hb, HK4.out⟩
  rw [if_neg (by rw [he]; decide)] at hR2
  rw [he, hrde] at hrd
  have HRD := Lib.hid hrd
  obtain ⟨t, htd⟩ : ∃ t, t = tellL l d (n - l.first) := ⟨_, rfl⟩
  rw [← htd] at hR2
  simp only at hR2
  have HRR := Lib.hid hR2
  have HTD := Lib.hid htd
  have hnr : n - l.first ≤ l.recs.length := by have := HNX.out; omega
  have hnx : ((n - l.first : Nat) : Int) = (n : Int) - (l.first : Int) := by omega
  obtain ⟨k, hk⟩ : ∃ k, k = n - l.first := ⟨_, rfl⟩
  rw [← hk] at hnr hnx
  have HK := Lib.hid hk
  have HNK := Lib.hid hnx
  clear htd hR2 hrd he hrde hnf hnb hk hnx
  go_wp2_with fail
  refine HRD.out.mono ?_
  rintro e w4 ⟨rfl, hB4, hK4⟩
  obtain ⟨vr4, vp4, hbk4, _⟩ := hB4.cells
  have c34 : w4.cell? ⟨gl, 3, none⟩ = some (.int .u64 (l.first : Int)) := hbk4.cell 3
  clear c3 hbk4
  have y1 : (0 : Int) ≤ (n : Int) - (l.first : Int) := by have := HNK.out; omega
  have y2 : (n : Int) - (l.first : Int) ≤ 65536 := by have := HNK.out; omega
  have hTL := tell_any k hB4 hnr hus HLT.out hwl
  rw [HNK.out] at hTL
  have hTL2 := hTL
  rw [HK.out, ← HTD.out] at hTL2
  obtain ⟨l2, d2, E2⟩ := t
  simp only at hTL2
  have HTL := Lib.hid hTL2
  have HK4 := Lib.hid ((Kp.of_below (ok := fun x => ¬ f x) hbc).thenW hK4 fun b _ hb e => hb (e ▸ hfg))
  have hz4 := hK4.size
  clear hTL hTL2 hK4 hB4 hBc HTD
  go_wp2_with fail
  refine HTL.out.mono ?_
  rintro e w5 ⟨rfl, hB5, hK5⟩
  clear c34
  have hMT := met_b hB5 E2
  have HMT := Lib.hid hMT
  have HK5 := Lib.hid (HK4.out.trans hK5)
  have hz5 := hK5.size
  clear hMT hB5 hK5 HTL HK4
  go_wp2_with fail
  refine HMT.out.mono ?_
  rintro e w6 ⟨rfl, hB6, hK6⟩
  have hmn : ∀ b, (f b ∨ w4.heap.size ≤ b) → f b ∨ w.heap.size ≤ b := fun b hb => hb.elim .inl fun h => .inr (by omega)
  have HK6 := Lib.hid (HK5.out.thenW hK6 fun b _ hb e => hb (e ▸ hfg))
  clear hK6 HK5 HMT
  by_cases hE : E2 = 0
  case neg =>
    have hRR := HRR.out
    rw [if_pos hE] at hRR
    have HR3 := Lib.hid hRR
    have HB6 := Lib.hid hB6
    have z7 : (E2 == 0) = false := by simpa using hE
    have z8 : decide (E2 = 0) = false := decide_eq_false hE
    clear hRR hE hB6
    go_wp2
    go_ret
    rw [HR3.out]
    exact ⟨rfl, HB6.out.mono fun b hb _ => hmn b hb, HK6.out⟩
  subst hE
  have hRR := HRR.out
  rw [if_neg (by simp)] at hRR
  have HR3 := Lib.hid hRR
  have hsw := hB6.setWaits false
  obtain ⟨vr6, vp6, hbk6, _⟩ := hB6.cells
  have fg := fun i => hbk6.frozen i
  have c8 : w6.cell? ⟨gl, 8, none⟩ = some (.bool l2.waits) := hbk6.cell 8
  have HS := Lib.hid hsw
  clear hRR hsw hB6 hbk6
  go_wp2
  go_ret
  rw [HR3.out]
  exact ⟨rfl, HS.out.1.mono fun b hb _ => hmn b hb, HK6.out.thenW HS.out.2 fun b _ hb e => hb (e ▸ hfg)⟩
end Go.Proofs.YtnlhjhpikjmoaaaGreatDoor
