/- armoirelaw06.WalPlays: the walk. -/
import Derived.Test.YtlnnfdjhejdgdaaV30
import Derived.Test.YtlnnfdjhejdgdaaW35
namespace Go.Proofs.Ytlnnfdjhejdgdaa
open Go.RowKit

theorem uwrap_mod400 (k : Int) : ∃ j : Nat, j < 400 ∧ wrap64 ((IntKind.u64.wrap k).tmod 400) = (j : Int) := by
  have hw : 0 ≤ IntKind.u64.wrap k := by rw [IntKind.wrap_u64]; omega
  rw [Int.tmod_eq_emod_of_nonneg hw]
  generalize IntKind.u64.wrap k = x at hw
  have a1 := Int.emod_nonneg x (show (400 : Int) ≠ 0 by omega)
  have a2 := Int.emod_lt_of_pos x (show (0 : Int) < 400 by omega)
  exact ⟨(x % 400).toNat, by omega, by rw [IntWalk.wrap64_in _ (by omega)]; omega⟩
theorem plays_n (k : Int) : ∃ n : Nat, 20 ≤ n ∧ n < 420 ∧ wrap64 (20 + wrap64 ((IntKind.u64.wrap k).tmod 400)) = (n : Int) := by
  obtain ⟨j, hj, he⟩ := uwrap_mod400 k
  refine ⟨20 + j, by omega, by omega, ?_⟩
  rw [he, IntWalk.wrap64_in _ (by omega)]
  omega
set_option maxRecDepth 100000 in
set_option maxHeartbeats 6400000 in
theorem lawWalPlays (z : Int) (v1 : Value) (l : List OpD) (w : World) (h1 : RSl rOp (fun b => b < w.heap.size) w v1 l) :
    Calls Try.prog 7 #[.int .i64 z, v1] w fun e w' => e = .returned (.bool true) ∧ Below w.heap.size w w' := by
  obtain ⟨A1, c1, rfl, hc1, hsl1⟩ := h1.form
  obtain ⟨m, hm⟩ : ∃ m, m = l.length := ⟨_, rfl⟩
  rw [← hm] at h1 hc1 hsl1 ⊢
  have HM := Lib.hid hm
  have H1 := Lib.hid h1
  obtain ⟨n, hn1, hn2, hne⟩ := plays_n z
  have HNE := Lib.hid hne
  clear h1 hm hne
  go_enter Try.func7, Try.ntmps7
  go_wp2_with fail
  rw [HNE.out]
  refine (begin_W n (by omega) (by omega) w).mono ?_
  rintro e w2 ⟨⟨gt, gd, rfl, hS⟩, hB2⟩
  have HS := Lib.hid hS
  clear hS
  go_wp2_with fail
  refine (awake_any _).mono ?_
  rintro e w3 ⟨rfl, hB3⟩
  have hBw : w.heap.size ≤ w2.heap.size := hB2.size
  have hB3' : Below w.heap.size w w3 := hB2.trans (hB3.mono hBw)
  have HS3 := Lib.hid (HS.out.below hB3)
  clear HS HNE hB2 hB3 hBw
  go_upto_region 5 with fail
  go_loopw [6] (fun vi wr => ∃ (i : Nat) (dn : Bool), i ≤ m ∧ i ≤ 80 ∧ vi = .int .i64 (i : Int) ∧ Hid (StP w.heap.size gt gd n i wr dn) ∧ Below w.heap.size w wr) (fun vi _ => 80 - (intOf vi).toNat)
  case atStart => exact ⟨0, false, by omega, by omega, rfl, HS3, hB3'⟩
  case round =>
    obtain ⟨i, dn, hi1, hi2, rfl, HSr, hBr⟩ := hrel
    clear HS3 hB3'
    by_cases hin : i < m ∧ i < 80
    · obtain ⟨hi3, hi4⟩ := hin
      have z1 : decide ((i : Int) < (m : Int)) = true := decide_eq_true (by omega)
      have z2 : decide ((i : Int) < 80) = true := decide_eq_true (by omega)
      have z3 : decide (i < m) = true := decide_eq_true hi3
      have z4 : decide (i < 80) = true := decide_eq_true hi4
      obtain ⟨c0, c8, f8⟩ := HSr.out.cells
      go_wp2_with fail
      refine HSr.out.down.mono ?_
      rintro e w4 ⟨rfl, rfl⟩
      go_upto_if 33 with fail
      go_cut [] (fun wx => Hid (StP w.heap.size gt gd n i wx dn) ∧ Below w.heap.size w wx)
      case first =>
        cases dn
        · go_wp2
          go_meet
          exact ⟨HSr, hBr⟩
        · go_wp2
          go_meet
          exact ⟨Lib.hid HSr.out.again.1, hBr.trans HSr.out.again.2⟩
      obtain ⟨HS5, hB5⟩ := hcut
      clear HSr hBr c0 c8 f8
      obtain ⟨w5, rfl⟩ : ∃ w5, w5 = wc := ⟨_, rfl⟩
      have hil : i < l.length := by rw [← HM.out]; exact hi3
      obtain ⟨b5, off5, c5, cs5, hv5, _, ⟨vb, vk, rfl, hvb, hvk, hk64, hn64⟩, hcell5⟩ := (H1.out.below hB5).at_ hil
      obtain ⟨rfl, hx5, rfl⟩ : A1 = some ⟨b5, off5, none⟩ ∧ m = l.length ∧ c1 = c5 := by simpa using hv5
      clear hx5
      have q0 : w5.cell? ⟨b5, off5 + i * 4, none⟩ = some (.int .i64 (l[i].kind)) := hcell5 0 _ rfl
      have q1 : w5.cell? ⟨b5, off5 + i * 4 + 1, none⟩ = some (.int .i64 (l[i].n)) := by have := hcell5 1 _ rfl; rwa [Nat.add_assoc]
      have q2 : w5.cell? ⟨b5, off5 + i * 4 + 2, none⟩ = some vb := by have := hcell5 2 _ rfl; rwa [Nat.add_assoc]
      have q3 : w5.cell? ⟨b5, off5 + i * 4 + 3, none⟩ = some vk := by have := hcell5 3 _ rfl; rwa [Nat.add_assoc]
      obtain ⟨A6, c6, rfl, hf6⟩ := hvb.form
      obtain ⟨A8, c8, rfl, hf8⟩ := hvk.form
      clear hf6 hf8
      have HST := Lib.hid (step_W HS5.out (by omega) (by omega) l[i] _ _ hvb hvk hn64)
      obtain ⟨od, hod⟩ : ∃ od, od = l[i] := ⟨_, rfl⟩
      obtain ⟨lb, hlb⟩ : ∃ lb, lb = l[i].b.length := ⟨_, rfl⟩
      obtain ⟨lk, hlk⟩ : ∃ lk, lk = l[i].keep.length := ⟨_, rfl⟩
      rw [← hlb] at q2 HST
      rw [← hlk] at q3 HST
      rw [← hod] at q0 q1 HST
      clear hcell5 hv5 hvb hvk hk64 hn64 hod hlb hlk
      go_wp2_with fail
      refine HST.out.mono ?_
      rintro e w6 ⟨rfl, ⟨dn', hS6⟩, hB6⟩
      have hB56 := hB5.trans hB6
      obtain ⟨e0, e8, _⟩ := hS6.cells
      have HS6 := Lib.hid hS6
      clear hS6 hB6 hB5 HST q0 q1 q2 q3
      cases dn'
      · go_wp2_with fail
        refine HS6.out.down.mono ?_
        rintro e w7 ⟨rfl, rfl⟩
        go_wp2_with fail
        refine (HS6.out.told (by omega)).mono ?_
        rintro e w8 ⟨rfl, hB8⟩
        have hB58 := hB56.trans (hB8.mono HS6.out.size)
        have HS8 := Lib.hid (HS6.out.below hB8)
        clear HS6 hB56 hB8 e0 e8
        go_wp2
        go_roundw
        case rel => exact ⟨i + 1, false, by omega, by omega, by go_num, HS8, hB58⟩
        case measure => simp [intOf]; omega
      · go_wp2
        go_roundw
        case rel => exact ⟨i + 1, true, by omega, by omega, by go_num, HS6, hB56⟩
        case measure => simp [intOf]; omega
    · have hcond : (decide ((i : Int) < (m : Int)) = true ∧ decide ((i : Int) < 80) = false ∧ decide (i < m) = true ∧ decide (i < 80) = false) ∨ (decide ((i : Int) < (m : Int)) = false ∧ decide (i < m) = false) := by
        by_cases h1 : i < m
        · exact .inl ⟨decide_eq_true (by omega), decide_eq_false (by omega), decide_eq_true h1, decide_eq_false (by omega)⟩
        · exact .inr ⟨decide_eq_false (by omega), decide_eq_false h1⟩
      obtain ⟨c0, _, _⟩ := HSr.out.cells
      rcases hcond with ⟨z1, z2, z3, z4⟩ | ⟨z1, z3⟩
      · go_wp2_with fail
        refine (HSr.out.arm 0 ⟨by omega, by omega⟩).mono ?_
        rintro e w4 ⟨rfl, hS4, hB4⟩
        have HS4 := Lib.hid hS4
        clear hS4
        go_wp2_with fail
        refine (HS4.out.open_ (by omega)).mono ?_
        rintro e w5 ⟨rfl, hS5, hB5⟩
        have HS5 := Lib.hid hS5
        clear hS5
        go_wp2_with fail
        refine (HS5.out.told (by omega)).mono ?_
        rintro e w6 ⟨rfl, hB6⟩
        go_wp2
        go_ret
        exact ⟨rfl, ((hBr.trans hB4).trans hB5).trans (hB6.mono HS5.out.size)⟩
      · go_wp2_with fail
        refine (HSr.out.arm 0 ⟨by omega, by omega⟩).mono ?_
        rintro e w4 ⟨rfl, hS4, hB4⟩
        have HS4 := Lib.hid hS4
        clear hS4
        go_wp2_with fail
        refine (HS4.out.open_ (by omega)).mono ?_
        rintro e w5 ⟨rfl, hS5, hB5⟩
        have HS5 := Lib.hid hS5
        clear hS5
        go_wp2_with fail
        refine (HS5.out.told (by omega)).mono ?_
        rintro e w6 ⟨rfl, hB6⟩
        go_wp2
        go_ret
        exact ⟨rfl, ((hBr.trans hB4).trans hB5).trans (hB6.mono HS5.out.size)⟩
end Go.Proofs.Ytlnnfdjhejdgdaa
