/- Contract: (*Log).Records. -/
import Derived.Test.YtlnnfdjhejdgdaaW14
import Derived.Test.YtlnnfdjhejdgdaaS0
namespace Go.Proofs.Ytlnnfdjhejdgdaa
open Go.RowKit

set_option maxRecDepth 100000 in
set_option maxHeartbeats 6400000 in
theorem records_any {fl : Nat → Prop} {gl gd : Nat} {l : LogD} {w : World} (h : LogR fl w gl gd l) (hn : l.recs.length ≤ 1000000) :
    Calls Try.prog 13 #[.pointer (some ⟨gl, 0, none⟩)] w fun e w' => (∃ v, e = .returned v ∧ RSl rBs (fun b => w.heap.size ≤ b) w' v l.recs) ∧ Below w.heap.size w w' := by
  obtain ⟨vr, vp, h1, h2, h3, h4, h5, h6, h7, h8, h9, h10⟩ := h
  obtain ⟨c0, c1, c2, c3, c4, _⟩ := lg_cells h1
  have hrs : RSl rBs (fun _ => True) w vr l.recs := h2.rslP (show l.recs.length * 24 ≤ _ by omega) (fun _ _ _ => trivial) fun _ _ => trivial
  obtain ⟨A, c, rfl, _, _⟩ := hrs.form
  clear h2 h3 h6 h8 h9
  go_enter Try.func13, Try.ntmps13
  go_wp2
  go_loopw [3, 13] (fun v j wr => ∃ i : Nat, i ≤ l.recs.length ∧ j = .int .i64 (i : Int) ∧ Below w.heap.size w wr ∧ OwnL rBs (fun b => w.heap.size ≤ b) w.heap.size 33 wr v (l.recs.take i)) (fun _ j _ => l.recs.length - (intOf j).toNat)
  case atStart => exact ⟨0, by omega, rfl, Below.refl _ _, OwnL.nil_ _ _ _ _ _⟩
  case round =>
    obtain ⟨i, hi, rfl, hb, hown⟩ := hrel
    by_cases hlt : i < l.recs.length
    · have u0 : decide ((i : Int) < (l.recs.length : Int)) = true := decide_eq_true (by omega)
      obtain ⟨b9, off9, c9, cs9, hv9, _, ⟨v9, rfl, hr9⟩, hcell9⟩ := (hrs.below hb).at_ hlt
      simp only [Value.slice.injEq, true_and] at hv9
      obtain ⟨rfl, rfl⟩ := hv9
      obtain ⟨rc, hrc⟩ : ∃ rc, rc = l.recs[i] := ⟨_, rfl⟩
      rw [← hrc] at hr9
      have htk : l.recs.take (i + 1) = l.recs.take i ++ [rc] := by rw [List.take_succ_eq_append_getElem hlt, hrc]
      have HTK := Lib.hid htk
      obtain ⟨A9, d9, rfl, _, _⟩ := hr9.form
      have q0 : wr.cell? ⟨b9, off9 + i * 1, none⟩ = some (.slice A9 rc.length d9) := hcell9 0 _ rfl
      have q1 : wr.cell? ⟨b9, off9 + i, none⟩ = some (.slice A9 rc.length d9) := by simpa using q0
      have hlt2 : (l.recs.take i).length = i := by rw [List.length_take]; omega
      have HLT := Lib.hid hlt2
      have hzs : w.heap.size ≤ wr.heap.size := hb.size
      clear htk hrc hcell9 hlt2
      go_wp2_with fail
      refine (clone_rb _ rc _ hr9).mono ?_
      rintro e w2 ⟨⟨v2, rfl, hv2⟩, hb2⟩
      have hown2 := hown.below hb2
      have hlt12 := hown.lt
      have hB2 := hb.trans (hb2.mono hb.size)
      obtain ⟨A2, d2, rfl, _, _⟩ := hv2.form
      have hv2' : RB (fun b => w.heap.size ≤ b ∧ some b ≠ u3.ownBlock) w2 (.slice A2 rc.length d2) rc := hv2.mono (by decide) fun b hb' _ => ⟨by omega, fun e => by have := (hlt12 b e.symm).2; omega⟩
      have HL12 := Lib.hid hlt12
      clear hlt12
      go_upto_region 7 with (at_builtin; go_loud (refine wp_app1 (E := rBs) (okd := fun b => w.heap.size ≤ b) Try.rowBs (by decide) rfl _ _ rfl u3 (l.recs.take i) w2 #[.slice A2 rc.length d2] rc rfl hown2 rfl ⟨_, rfl, hv2'⟩ (by rw [HLT.out]; show (i + 1) * 24 ≤ _; omega) (by rw [HLT.out]; omega) hB2.size ?_); intro v' w5 hown5 hk5 hv5)
      have hbel := hown2.bel hk5 hB2.size
      go_wp2
      go_roundw
      case rel => exact ⟨i + 1, by omega, by go_num, hB2.trans (hbel.mono (Nat.le_refl _)), by rw [HTK.out]; exact hown5⟩
      case measure => simp [intOf]; omega
    · have u0 : decide ((i : Int) < (l.recs.length : Int)) = false := decide_eq_false (by omega)
      rw [List.take_of_length_le (by omega)] at hown
      have hfin : RSl rBs (fun b => w.heap.size ≤ b) wr u3 l.recs := hown.rsl (by decide) (show l.recs.length * 24 ≤ _ by omega) (fun b h => h) (fun b h => h)
      clear hown
      go_wp2
      go_ret
      exact ⟨⟨_, rfl, hfin⟩, hb⟩
end Go.Proofs.Ytlnnfdjhejdgdaa
