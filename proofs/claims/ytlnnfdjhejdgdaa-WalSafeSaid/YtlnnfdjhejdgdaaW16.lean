/- Contract: (*Log).Sync. -/
import Derived.Test.YtlnnfdjhejdgdaaW15
namespace Go.Proofs.Ytlnnfdjhejdgdaa
open Go.RowKit

/-- what Sync makes of a log and its disk, and answers -/
def syncL (l : LogD) (d : DskD) : LogD × DskD × Int :=
  if rdyE l d ≠ 0 then (rdy l d, d, 3) else if l.waits = false then (l, d, 0) else
  if d.flush.2 ≠ 0 then ({ l with dead := l.dead || d.flush.2 == 3 }, d.flush.1, d.flush.2) else ({ l with dead := l.dead || d.flush.2 == 3, waits := false }, d.flush.1, 0)
theorem LogR.setWaits {fl : Nat → Prop} {gl gd : Nat} {l : LogD} {w : World} (h : LogR fl w gl gd l) (x : Bool) : LogR fl (w.setCell ⟨gl, 8, none⟩ (.bool x)) gl gd { l with waits := x } := by
  obtain ⟨vr, vp, hb, h2, h3, h4, h5, h6, h7, h8, h9, h10⟩ := h
  have hkp : Kp (fun b => b ≠ gl) w (w.setCell ⟨gl, 8, none⟩ (.bool x)) := (Kp.refl _ _).setCell (fun _ h => h rfl) _
  exact ⟨vr, vp, hb.set_ 8 (.bool x), h2.kp hkp (fun b hb => hb.2.1) (fun b hb e => h4 (by rw [hb, e])), h3.kp hkp (fun _ h => h.elim) (fun b hb e => h5 (by rw [hb, e])), h4, h5, h6, h7, h8, h9, ⟨h10.turn, h10.first, h10.recs, h10.places, h10.placed, h10.end_, h10.used⟩⟩
theorem LogR.ftl {fl : Nat → Prop} {gl gd : Nat} {l : LogD} {w : World} (h : LogR fl w gl gd l) : fl gl := by
  obtain ⟨vr, vp, hb, h2, h3, h4, h5, h6, h7, _⟩ := h
  exact h7
theorem rdyE_or (l : LogD) (d : DskD) : rdyE l d = 3 ∨ (rdyE l d = 0 ∧ rdy l d = l) := by
  unfold rdyE rdy
  split
  · exact .inl rfl
  · exact .inr ⟨rfl, rfl⟩
set_option maxRecDepth 100000 in
set_option maxHeartbeats 3200000 in
theorem sync_any {fl fd : Nat → Prop} {gl gd : Nat} {l : LogD} {d : DskD} {w : World} (h : LogR fl w gl gd l) (hd : DiskR fd w gd d) (hdis : ∀ b, fd b → ¬ fl b) :
    Calls Try.prog 16 #[.pointer (some ⟨gl, 0, none⟩)] w fun e w' => e = .returned (.int .i64 (syncL l d).2.2) ∧ LogR fl w' gl gd (syncL l d).1 ∧ DiskR fd w' gd (syncL l d).2.1 ∧ Kp (fun b => ¬ fl b ∧ ¬ fd b) w w' := by
  have hfl := h.ftl
  have HR := Lib.hid (ready_any h hd)
  rcases rdyE_or l d with he | ⟨he, hrd⟩
  · have hs : syncL l d = (rdy l d, d, 3) := by unfold syncL; rw [if_pos (by rw [he]; decide)]
    rw [hs]
    rw [he] at HR
    clear hs he
    go_enter Try.func16, Try.ntmps16
    go_wp2_with fail
    refine HR.out.mono ?_
    rintro e w1 ⟨rfl, hL1, hK1⟩
    go_wp2
    go_ret
    exact ⟨rfl, hL1, hd.kp hK1 fun b hb e => hdis b hb (e ▸ hfl), hK1.mono fun b hb e => hb.1 (e ▸ hfl)⟩
  rw [he, hrd] at HR
  by_cases hw : l.waits = false
  · have hs : syncL l d = (l, d, 0) := by unfold syncL; rw [if_neg (by rw [he]; decide), if_pos hw]
    rw [hs]
    have HW := Lib.hid hw
    clear hs he hrd hw
    go_enter Try.func16, Try.ntmps16
    go_wp2_with fail
    refine HR.out.mono ?_
    rintro e w1 ⟨rfl, hL1, hK1⟩
    have hL := hL1
    obtain ⟨vr, vp, hb, _⟩ := hL1
    have c8 : w1.cell? ⟨gl, 8, none⟩ = some (.bool false) := by rw [← HW.out]; exact hb.cell 8
    clear hb
    go_wp2
    go_ret
    exact ⟨rfl, hL, hd.kp hK1 fun b hb e => hdis b hb (e ▸ hfl), hK1.mono fun b hb e => hb.1 (e ▸ hfl)⟩
  have hwt : l.waits = true := by simpa using hw
  obtain ⟨f, hf⟩ : ∃ f, f = d.flush := ⟨_, rfl⟩
  have hs : syncL l d = if f.2 ≠ 0 then ({ l with dead := l.dead || f.2 == 3 }, f.1, f.2) else ({ l with dead := l.dead || f.2 == 3, waits := false }, f.1, 0) := by
    unfold syncL
    rw [if_neg (by rw [he]; decide), if_neg hw, ← hf]
  rw [hs]
  have HW := Lib.hid hwt
  have HFl := Lib.hid (fun (w1 : World) (h1 : DiskR fd w1 gd d) => dFlush_any h1)
  rw [← hf] at HFl
  obtain ⟨d1, E⟩ := f
  simp only at HFl ⊢
  clear hs he hrd hw hwt hf
  by_cases hE : E = 0
  · subst hE
    rw [if_neg (by decide)]
    go_enter Try.func16, Try.ntmps16
    go_wp2_with fail
    refine HR.out.mono ?_
    rintro e w1 ⟨rfl, hL1, hK1⟩
    have hd1 := hd.kp hK1 fun b hb e => hdis b hb (e ▸ hfl)
    have hL := hL1
    obtain ⟨vr, vp, hb, _⟩ := hL1
    have c8 : w1.cell? ⟨gl, 8, none⟩ = some (.bool true) := by rw [← HW.out]; exact hb.cell 8
    have c0 : w1.cell? ⟨gl, 0, none⟩ = some (.pointer (some ⟨gd, 0, none⟩)) := hb.cell 0
    clear hb
    go_wp2_with fail
    refine (HFl.out _ hd1).mono ?_
    rintro e w2 ⟨rfl, hd2, hK2⟩
    have hL2 := hL.kp hK2 fun b hb e => hdis b e hb
    clear c8 c0
    go_wp2_with fail
    refine (met_any hL2 0).mono ?_
    rintro e w3 ⟨rfl, hL3, hK3⟩
    have hd3 := hd2.kp hK3 fun b hb e => hdis b hb (e ▸ hfl)
    have hL4 := hL3.setWaits false
    have hK4 : Kp (fun b => b ≠ gl) w3 (w3.setCell ⟨gl, 8, none⟩ (.bool false)) := (Kp.refl _ _).setCell (fun _ h => h rfl) _
    have hKz : Kp (fun b => ¬ fl b ∧ ¬ fd b) w (w3.setCell ⟨gl, 8, none⟩ (.bool false)) := (((hK1.mono fun b hb e => hb.1 (e ▸ hfl)).trans (hK2.mono fun b hb => hb.2)).trans (hK3.mono fun b hb e => hb.1 (e ▸ hfl))).trans (hK4.mono fun b hb e => hb.1 (e ▸ hfl))
    have hd4 := hd3.kp hK4 fun b hb e => hdis b hb (e ▸ hfl)
    obtain ⟨vr3, vp3, hb3, _⟩ := hL3
    have fg := fun i => hb3.frozen i
    have c83 : w3.cell? ⟨gl, 8, none⟩ = some (.bool l.waits) := hb3.cell 8
    clear hb3
    go_wp2
    go_ret
    exact ⟨rfl, hL4, hd4, hKz⟩
  · rw [if_pos hE]
    have t1 : (E == 0) = false := by simpa using hE
    have t2 : decide (E = 0) = false := decide_eq_false hE
    go_enter Try.func16, Try.ntmps16
    go_wp2_with fail
    refine HR.out.mono ?_
    rintro e w1 ⟨rfl, hL1, hK1⟩
    have hd1 := hd.kp hK1 fun b hb e => hdis b hb (e ▸ hfl)
    have hL := hL1
    obtain ⟨vr, vp, hb, _⟩ := hL1
    have c8 : w1.cell? ⟨gl, 8, none⟩ = some (.bool true) := by rw [← HW.out]; exact hb.cell 8
    have c0 : w1.cell? ⟨gl, 0, none⟩ = some (.pointer (some ⟨gd, 0, none⟩)) := hb.cell 0
    clear hb
    go_wp2_with fail
    refine (HFl.out _ hd1).mono ?_
    rintro e w2 ⟨rfl, hd2, hK2⟩
    have hL2 := hL.kp hK2 fun b hb e => hdis b e hb
    clear c8 c0
    go_wp2_with fail
    refine (met_any hL2 E).mono ?_
    rintro e w3 ⟨rfl, hL3, hK3⟩
    have hd3 := hd2.kp hK3 fun b hb e => hdis b hb (e ▸ hfl)
    have hKz : Kp (fun b => ¬ fl b ∧ ¬ fd b) w w3 := ((hK1.mono fun b hb e => hb.1 (e ▸ hfl)).trans (hK2.mono fun b hb => hb.2)).trans (hK3.mono fun b hb e => hb.1 (e ▸ hfl))
    go_wp2
    go_ret
    exact ⟨rfl, hL3, hd3, hKz⟩
end Go.Proofs.Ytlnnfdjhejdgdaa
