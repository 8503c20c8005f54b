/- Contracts: (*Log).Next, ready. -/
import Derived.Test.YtlnnfdjhejdgdaaW10
namespace Go.Proofs.Ytlnnfdjhejdgdaa
open Go.RowKit

section
variable {fl fd : Nat → Prop} {gl gd : Nat} {l : LogD} {d : DskD} {w : World}
set_option maxRecDepth 100000 in
theorem next_any (h : LogR fl w gl gd l) : Calls Try.prog 14 #[.pointer (some ⟨gl, 0, none⟩)] w fun e w' => e = .returned (.int .u64 ((l.first + l.recs.length : Nat) : Int)) ∧ Below w.heap.size w w' := by
  obtain ⟨vr, vp, hb, h2, h3, h4, h5, h6, h7, h8, h9, h10⟩ := h
  obtain ⟨A, c, rfl, _⟩ := h2.form
  obtain ⟨c0, c1, c2, c3, c4, _⟩ := lg_cells hb
  have l3 := Later.cell c3
  have l4 := Later.cell c4
  have hf := h10.first
  have HS : Hid (IntKind.u64.wrap ((l.first : Int) + IntKind.u64.wrap (l.recs.length : Int)) = ((l.first + l.recs.length : Nat) : Int)) := Lib.hid (by
    rw [IntKind.wrap_u64, IntKind.wrap_u64]
    omega)
  clear c0 c1 c2 c3 c4 hb h2 h3 h6 h8 h9
  go_enter Try.func14, Try.ntmps14
  go_upto_region 3 with fail
  refine wp_seqL [] (by as_aux_lemma => kernel_rfl) (by as_aux_lemma => kernel_rfl) fun w2 hb2 => ?_
  refine seqL_pre 12 (by kernel_rfl) ?_
  simp only [List.take_succ_cons, List.take_zero, List.drop_succ_cons, List.drop_zero]
  repeat (go_big_quiet_step (fail))
  refine wpQuiet_nil ?_
  refine seqL_nil ?_
  clear l3 l4
  go_wp2
  go_ret
  exact ⟨by rw [Int.natCast_add]; rfl, hb2⟩
/-- behind a look whether anything can be done -/
def rdy (l : LogD) (d : DskD) : LogD := if (l.dead || d.down) = true then { l with dead := true } else l
def rdyE (l : LogD) (d : DskD) : Int := if (l.dead || d.down) = true then 3 else 0
theorem ready_any (h : LogR fl w gl gd l) (hd : DiskR fd w gd d) : Calls Try.prog 33 #[.pointer (some ⟨gl, 0, none⟩)] w fun e w' => e = .returned (.int .i64 (rdyE l d)) ∧ LogR fl w' gl gd (rdy l d) ∧ Kp (fun b => b ≠ gl) w w' := by
  have hR := h
  obtain ⟨vr, vp, hb, _⟩ := h
  obtain ⟨c0, c1, _⟩ := lg_cells hb
  have hfl : (l.dead || d.down) = false → l.dead = false ∧ d.down = false := fun h => by
    cases h1 : l.dead <;> cases h2 : d.down <;> simp [h1, h2] at h ⊢
  have hm : ({ l with dead := l.dead || (3 : Int) == 3 } : LogD) = { l with dead := true } := by
    cases l
    simp
  clear hb
  cases hdd : l.dead <;> rw [hdd] at c1
  · cases hdn : d.down
    · have e1 : rdy l d = l := by unfold rdy; rw [hdd, hdn]; rfl
      have e2 : rdyE l d = 0 := by unfold rdyE; rw [hdd, hdn]; rfl
      rw [e1, e2]
      have HD := Lib.hid (dDown_any hd)
      rw [hdn] at HD
      clear e1 e2
      go_enter Try.func33, Try.ntmps33
      go_wp2_with fail
      refine HD.out.mono ?_
      rintro e w1 ⟨rfl, rfl⟩
      go_wp2
      go_ret
      exact ⟨rfl, hR, Kp.refl _ _⟩
    · have e1 : rdy l d = { l with dead := true } := by unfold rdy; rw [hdd, hdn]; rfl
      have e2 : rdyE l d = 3 := by unfold rdyE; rw [hdd, hdn]; rfl
      rw [e1, e2]
      have HD := Lib.hid (dDown_any hd)
      rw [hdn] at HD
      have HM := Lib.hid (met_any hR 3)
      rw [hm] at HM
      clear e1 e2 hm
      go_enter Try.func33, Try.ntmps33
      go_wp2_with fail
      refine HD.out.mono ?_
      rintro e w1 ⟨rfl, rfl⟩
      go_wp2_with fail
      refine HM.out.mono ?_
      rintro e w2 ⟨rfl, hR2, hK2⟩
      go_wp2
      go_ret
      exact ⟨rfl, hR2, hK2⟩
  · have e1 : rdy l d = { l with dead := true } := by unfold rdy; rw [hdd]; rfl
    have e2 : rdyE l d = 3 := by unfold rdyE; rw [hdd]; rfl
    rw [e1, e2]
    have HM := Lib.hid (met_any hR 3)
    rw [hm] at HM
    clear e1 e2 hm
    go_enter Try.func33, Try.ntmps33
    go_wp2_with fail
    refine HM.out.mono ?_
    rintro e w2 ⟨rfl, hR2, hK2⟩
    go_wp2
    go_ret
    exact ⟨rfl, hR2, hK2⟩
end
end Go.Proofs.Ytlnnfdjhejdgdaa
