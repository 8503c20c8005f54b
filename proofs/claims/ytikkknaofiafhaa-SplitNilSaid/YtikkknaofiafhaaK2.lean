/- Contract: ref12.TableRight. -/
import Derived.Test.YtikkknaofiafhaaK1
namespace Go.Proofs.Ytikkknaofiafhaa
open Go.RowKit

theorem strNe {a b : ByteArray} (h : a ≠ b) : (a.toList == b.toList) = false := by
  rw [beq_eq_false_iff_ne]
  exact fun e => h (toList_inj e)
def ColOk (t : TabD) (i : Nat) : Prop := ∃ h : i < t.cols.length, NameOk t.cols[i].name ∧ (t.cols[i].kind = 1 ∨ t.cols[i].kind = 2) ∧ ∀ k (hk : k < i), t.cols[k].name ≠ t.cols[i].name
def NullOk (t : TabD) (i : Nat) : Prop := ∀ (h : i < t.key.length) (q : Nat), t.key[i] = q → ∀ hq : q < t.cols.length, t.cols[q].null = false
def TableOk (t : TabD) : Prop := NameOk t.name ∧ (1 ≤ t.cols.length ∧ t.cols.length ≤ 6) ∧ PlacesOk t.key t.cols.length ∧ (∀ i, i < t.cols.length → ColOk t i) ∧ ∀ i, i < t.key.length → NullOk t i

set_option maxRecDepth 100000 in
set_option maxHeartbeats 6400000 in
theorem tableRight_any {ok : Nat → Prop} (t : TabD) (a b : Value) (w : World) (ht : TabR ok w a b t) :
    Calls Try.prog 146 #[.agg (tabCs t a b)] w fun e w' => RetB e (TableOk t) ∧ Below w.heap.size w w' := by
  obtain ⟨A, c, rfl, hc, hbd⟩ := ht.cols.form
  obtain ⟨A3, c3, rfl, hc3, hbd3⟩ := ht.key.form
  have hbd' : t.cols.length * 32 ≤ 140737488351232 := hbd
  have hbd3' : t.key.length * 8 ≤ 140737488351232 := hbd3
  clear hbd hbd3
  go_enter Try.func146, Try.ntmps146
  unfold tabCs
  go_upto_region 1 with fail
  refine name_world (fun w1 => Below w.heap.size w w1 ∧ w.heap.size + 1 ≤ w1.heap.size ∧ Blk w1 w.heap.size 56 (tabCs t (.slice A t.cols.length c) (.slice A3 t.key.length c3)))
    ⟨(Below.refl _ _).alloc (Nat.le_refl _) _, by simp, Blk.new w _ _⟩ ?_
  rintro w1 ⟨hb1, hz1, kt⟩
  have a1 : w1.cell? ⟨w.heap.size, 1, none⟩ = some (.string t.name) := kt.cell 1
  have a2 : w1.cell? ⟨w.heap.size, 2, none⟩ = some (.slice A t.cols.length c) := kt.cell 2
  have a3 : w1.cell? ⟨w.heap.size, 3, none⟩ = some (.slice A3 t.key.length c3) := kt.cell 3
  go_wp2_with fail
  refine (nameOk_any t.name _ ht.nm).mono ?_
  rintro e w2 ⟨⟨bn, rfl, hbn⟩, hww⟩
  subst hww
  cases bn
  · have NN : Hid (¬ TableOk t) := fun h => by have := hbn.2 h.1; cases this
    clear hbn
    go_wp2
    go_ret
    exact ⟨RetB.no rfl NN.out, hb1⟩
  · have HN := Lib.hid (hbn.1 rfl)
    clear hbn
    by_cases h1 : 1 ≤ t.cols.length
    · have d0 : decide ((t.cols.length : Int) < 1) = false := decide_eq_false (by omega)
      have d1 : decide (t.cols.length < 1) = false := decide_eq_false (by omega)
      by_cases h2 : t.cols.length ≤ 6
      · have d2 : decide ((6 : Int) < t.cols.length) = false := decide_eq_false (by omega)
        have d3 : decide (6 < t.cols.length) = false := decide_eq_false (by omega)
        have HL := Lib.hid (And.intro h1 h2)
        clear h1 h2
        go_wp2_with fail
        refine (places_any _ t.key t.cols.length _ (ht.key.below hb1)).mono ?_
        rintro e w3 ⟨⟨bp, rfl, hbp⟩, hb3⟩
        have hB3 := hb1.trans (hb3.mono hb1.size)
        have kt3 := kt.below hb3 kt.lt
        have hz3 : w.heap.size + 1 ≤ w3.heap.size := by have := hb3.size; omega
        clear a1 a2 a3 kt
        cases bp
        · have NN : Hid (¬ TableOk t) := fun h => by have := hbp.2 h.2.2.1; cases this
          clear hbp
          go_wp2
          go_ret
          exact ⟨RetB.no rfl NN.out, hB3⟩
        · have HP := Lib.hid (hbp.1 rfl)
          clear hbp
          go_wp2
          go_loopw [3] (fun j wr => ∃ k : Nat, k ≤ t.cols.length ∧ j = .int .i64 (k : Int) ∧ Below w3.heap.size w3 wr ∧ w3.heap.size ≤ wr.heap.size ∧ Hid (∀ i, i < k → ColOk t i)) (fun j _ => t.cols.length - (intOf j).toNat)
          case atStart => exact ⟨0, by omega, rfl, Below.refl _ _, Nat.le_refl _, fun _ h => absurd h (by omega)⟩
          case round =>
            obtain ⟨k, hk, rfl, hb, hz, HA⟩ := hrel
            have hBw := hB3.trans (hb.mono hB3.size)
            have ktw := kt3.below hb kt3.lt
            have a2 : wr.cell? ⟨w.heap.size, 2, none⟩ = some (.slice A t.cols.length c) := ktw.cell 2
            by_cases hlt : k < t.cols.length
            · obtain ⟨b0, off0, c0', cs0, hv0, _, ⟨rfl, _, hnm⟩, hcell0⟩ := (ht.cols.below hBw).at_ hlt
              simp only [Value.slice.injEq, true_and] at hv0
              obtain ⟨rfl, rfl⟩ := hv0
              have q0 := hcell0 0 _ rfl
              have q1 := hcell0 1 _ rfl
              have q2 := hcell0 2 _ rfl
              simp only [Nat.add_zero, show rCol.sz = 3 from rfl] at q0 q1 q2
              clear hcell0
              have NO : Hid (¬ ColOk t k → ¬ TableOk t) := fun h hp => h (hp.2.2.2.1 k hlt)
              have YES : Hid (ColOk t k → ∀ i, i < k + 1 → ColOk t i) := fun h i hi => by
                rcases Nat.lt_or_ge i k with g | g
                · exact HA.out i g
                · obtain rfl : i = k := by omega
                  exact h
              have COL : Hid (ColOk t k ↔ (NameOk t.cols[k].name ∧ (t.cols[k].kind = 1 ∨ t.cols[k].kind = 2) ∧ ∀ i (hi : i < k), t.cols[i].name ≠ t.cols[k].name)) := ⟨fun ⟨_, h⟩ => h, fun h => ⟨hlt, h⟩⟩
              obtain ⟨cD, hcD⟩ : ∃ d, d = t.cols[k] := ⟨_, rfl⟩
              rw [← hcD] at q0 q1 q2 hnm COL
              clear hcD
              go_upto_region 7 with fail
              refine name_world (fun w5 => Below wr.heap.size wr w5 ∧ wr.heap.size + 1 ≤ w5.heap.size ∧ Blk w5 wr.heap.size 171 #[.string cD.name, .int .i64 cD.kind, .bool cD.null])
                ⟨(Below.refl _ _).alloc (Nat.le_refl _) _, by simp, Blk.new wr _ _⟩ ?_
              rintro w5 ⟨hb5, hz5, kc⟩
              have hB5 := hb.trans (hb5.mono hz)
              have hB5w := hBw.trans (hb5.mono hBw.size)
              have kt5 := ktw.below hb5 ktw.lt
              have hz5' : w3.heap.size ≤ w5.heap.size := by omega
              clear a2 q0 q1 q2 ktw hb5 hb hBw
              generalize wr.heap.size = g at *
              clear hz5 hz
              have c0 : w5.cell? ⟨g, 0, none⟩ = some (.string cD.name) := kc.cell 0
              have c1 : w5.cell? ⟨g, 1, none⟩ = some (.int .i64 cD.kind) := kc.cell 1
              go_wp2_with fail
              refine (nameOk_any cD.name _ hnm).mono ?_
              rintro e w6 ⟨⟨bm, rfl, hbm⟩, hww⟩
              subst hww
              cases bm
              · have NN : Hid (¬ TableOk t) := NO.out fun h => by have := hbm.2 (COL.out.1 h).1; cases this
                clear hbm
                go_wp2
                go_ret
                exact ⟨RetB.no rfl NN.out, hB5w⟩
              · have HNM := Lib.hid (hbm.1 rfl)
                clear hbm
                by_cases hK : cD.kind = 1 ∨ cD.kind = 2
                · have HK := Lib.hid hK
                  rcases hK with h | h
                  · have g1 : (cD.kind != 1) = false := by simp [h]
                    clear h
                    go_wp2
                    go_loopw [5] (fun j wr => ∃ q : Nat, q ≤ k ∧ j = .int .i64 (q : Int) ∧ Below w5.heap.size w5 wr ∧ w5.heap.size ≤ wr.heap.size ∧ Hid (∀ i (h : i < t.cols.length), i < q → t.cols[i].name ≠ cD.name)) (fun j _ => k - (intOf j).toNat)
                    case atStart => exact ⟨0, by omega, rfl, Below.refl _ _, Nat.le_refl _, fun _ _ h => absurd h (by omega)⟩
                    case round =>
                      obtain ⟨q, hq, rfl, hb6, hz6, HB⟩ := hrel
                      have hB6 := hB5.trans (hb6.mono hz5')
                      have hB6w := hB5w.trans (hb6.mono hB5w.size)
                      have kt6 := kt5.below hb6 kt5.lt
                      have kc6 := kc.below hb6 kc.lt
                      have hz6' : w3.heap.size ≤ wr.heap.size := by omega
                      by_cases hlt2 : q < k
                      · have hqc : q < t.cols.length := by omega
                        obtain ⟨b1, off1, c1', cs1, hv1, _, ⟨rfl, _, _⟩, hcell1⟩ := (ht.cols.below hB6w).at_ hqc
                        simp only [Value.slice.injEq, Option.some.injEq, Addr.mk.injEq, true_and, and_true] at hv1
                        obtain ⟨⟨rfl, rfl⟩, rfl⟩ := hv1
                        have r0 := hcell1 0 _ rfl
                        simp only [Nat.add_zero, show rCol.sz = 3 from rfl] at r0
                        clear hcell1
                        have a2 : wr.cell? ⟨w.heap.size, 2, none⟩ = some (.slice (some ⟨b0, off0, none⟩) t.cols.length c) := kt6.cell 2
                        have c0 : wr.cell? ⟨g, 0, none⟩ = some (.string cD.name) := kc6.cell 0
                        have HQ : Hid (t.cols[q].name = cD.name → ¬ TableOk t) := fun h => NO.out fun hc => (COL.out.1 hc).2.2 q hlt2 h
                        have HB2 : Hid (t.cols[q].name ≠ cD.name → ∀ i (h : i < t.cols.length), i < q + 1 → t.cols[i].name ≠ cD.name) := fun h i hi hi2 => by
                          rcases Nat.lt_or_ge i q with g | g
                          · exact HB.out i hi g
                          · obtain rfl : i = q := by omega
                            exact h
                        obtain ⟨nm, hnm2⟩ : ∃ n, n = t.cols[q].name := ⟨_, rfl⟩
                        rw [← hnm2] at r0 HQ HB2
                        clear hnm2
                        have l0 := Later.cell r0
                        have l1 := Later.cell a2
                        have l2 := Later.cell c0
                        have BS : Hid (∀ s : Later wr, Below w5.heap.size w5 s.val ∧ w5.heap.size ≤ s.val.heap.size ∧ Below w.heap.size w s.val) := fun s => ⟨hb6.trans (s.below.mono hz6), by have := s.below.size; omega, hB6w.trans (s.below.mono hB6w.size)⟩
                        by_cases he : nm = cD.name
                        · have e0 : (nm.toList == cD.name.toList) = true := by simp [he]
                          have NN := Lib.hid (HQ.out he)
                          clear he
                          go_wp2
                          refine wp_region_later (by kernel_rfl) (by kernel_rfl) ?_
                          repeat (go_big_quiet_step (fail))
                          refine wpQuiet_nil ?_
                          intro s1
                          go_wp2
                          go_ret
                          exact ⟨RetB.no rfl NN.out, (BS.out s1).2.2⟩
                        · have e0 : (nm.toList == cD.name.toList) = false := strNe he
                          have YY := Lib.hid (HB2.out he)
                          clear he
                          go_wp2
                          refine wp_region_later (by kernel_rfl) (by kernel_rfl) ?_
                          repeat (go_big_quiet_step (fail))
                          refine wpQuiet_nil ?_
                          intro s1
                          have hbs := (BS.out s1).1
                          have hzs := (BS.out s1).2.1
                          go_wp2
                          go_roundw
                          case rel => exact ⟨q + 1, by omega, by go_num, hbs, hzs, YY.out⟩
                          case measure => simp [intOf]; omega
                      · have YY : Hid (∀ i, i < k + 1 → ColOk t i) := YES.out (COL.out.2 ⟨HNM.out, HK.out, fun i hi => HB.out i (by omega) (by omega)⟩)
                        go_wp2
                        go_roundw
                        case rel => exact ⟨k + 1, by omega, by go_num, hB6, hz6', YY.out⟩
                        case measure => simp [intOf]; omega
                  · have g1 : (cD.kind != 1) = true := by simp; omega
                    have g2 : (cD.kind != 2) = false := by simp [h]
                    clear h
                    go_wp2
                    go_loopw [5] (fun j wr => ∃ q : Nat, q ≤ k ∧ j = .int .i64 (q : Int) ∧ Below w5.heap.size w5 wr ∧ w5.heap.size ≤ wr.heap.size ∧ Hid (∀ i (h : i < t.cols.length), i < q → t.cols[i].name ≠ cD.name)) (fun j _ => k - (intOf j).toNat)
                    case atStart => exact ⟨0, by omega, rfl, Below.refl _ _, Nat.le_refl _, fun _ _ h => absurd h (by omega)⟩
                    case round =>
                      obtain ⟨q, hq, rfl, hb6, hz6, HB⟩ := hrel
                      have hB6 := hB5.trans (hb6.mono hz5')
                      have hB6w := hB5w.trans (hb6.mono hB5w.size)
                      have kt6 := kt5.below hb6 kt5.lt
                      have kc6 := kc.below hb6 kc.lt
                      have hz6' : w3.heap.size ≤ wr.heap.size := by omega
                      by_cases hlt2 : q < k
                      · have hqc : q < t.cols.length := by omega
                        obtain ⟨b1, off1, c1', cs1, hv1, _, ⟨rfl, _, _⟩, hcell1⟩ := (ht.cols.below hB6w).at_ hqc
                        simp only [Value.slice.injEq, Option.some.injEq, Addr.mk.injEq, true_and, and_true] at hv1
                        obtain ⟨⟨rfl, rfl⟩, rfl⟩ := hv1
                        have r0 := hcell1 0 _ rfl
                        simp only [Nat.add_zero, show rCol.sz = 3 from rfl] at r0
                        clear hcell1
                        have a2 : wr.cell? ⟨w.heap.size, 2, none⟩ = some (.slice (some ⟨b0, off0, none⟩) t.cols.length c) := kt6.cell 2
                        have c0 : wr.cell? ⟨g, 0, none⟩ = some (.string cD.name) := kc6.cell 0
                        have HQ : Hid (t.cols[q].name = cD.name → ¬ TableOk t) := fun h => NO.out fun hc => (COL.out.1 hc).2.2 q hlt2 h
                        have HB2 : Hid (t.cols[q].name ≠ cD.name → ∀ i (h : i < t.cols.length), i < q + 1 → t.cols[i].name ≠ cD.name) := fun h i hi hi2 => by
                          rcases Nat.lt_or_ge i q with g | g
                          · exact HB.out i hi g
                          · obtain rfl : i = q := by omega
                            exact h
                        obtain ⟨nm, hnm2⟩ : ∃ n, n = t.cols[q].name := ⟨_, rfl⟩
                        rw [← hnm2] at r0 HQ HB2
                        clear hnm2
                        have l0 := Later.cell r0
                        have l1 := Later.cell a2
                        have l2 := Later.cell c0
                        have BS : Hid (∀ s : Later wr, Below w5.heap.size w5 s.val ∧ w5.heap.size ≤ s.val.heap.size ∧ Below w.heap.size w s.val) := fun s => ⟨hb6.trans (s.below.mono hz6), by have := s.below.size; omega, hB6w.trans (s.below.mono hB6w.size)⟩
                        by_cases he : nm = cD.name
                        · have e0 : (nm.toList == cD.name.toList) = true := by simp [he]
                          have NN := Lib.hid (HQ.out he)
                          clear he
                          go_wp2
                          refine wp_region_later (by kernel_rfl) (by kernel_rfl) ?_
                          repeat (go_big_quiet_step (fail))
                          refine wpQuiet_nil ?_
                          intro s1
                          go_wp2
                          go_ret
                          exact ⟨RetB.no rfl NN.out, (BS.out s1).2.2⟩
                        · have e0 : (nm.toList == cD.name.toList) = false := strNe he
                          have YY := Lib.hid (HB2.out he)
                          clear he
                          go_wp2
                          refine wp_region_later (by kernel_rfl) (by kernel_rfl) ?_
                          repeat (go_big_quiet_step (fail))
                          refine wpQuiet_nil ?_
                          intro s1
                          have hbs := (BS.out s1).1
                          have hzs := (BS.out s1).2.1
                          go_wp2
                          go_roundw
                          case rel => exact ⟨q + 1, by omega, by go_num, hbs, hzs, YY.out⟩
                          case measure => simp [intOf]; omega
                      · have YY : Hid (∀ i, i < k + 1 → ColOk t i) := YES.out (COL.out.2 ⟨HNM.out, HK.out, fun i hi => HB.out i (by omega) (by omega)⟩)
                        go_wp2
                        go_roundw
                        case rel => exact ⟨k + 1, by omega, by go_num, hB6, hz6', YY.out⟩
                        case measure => simp [intOf]; omega
                · have g1 : (cD.kind != 1) = true := by simp; omega
                  have g2 : (cD.kind != 2) = true := by simp; omega
                  have NN : Hid (¬ TableOk t) := NO.out fun h => hK (COL.out.1 h).2.1
                  clear hK
                  go_wp2
                  go_ret
                  exact ⟨RetB.no rfl NN.out, hB5w⟩
            · have hA : Hid (∀ i, i < t.cols.length → ColOk t i) := fun i hi => HA.out i (by omega)
              clear HA
              go_wp2
              go_loopw [6] (fun j wr => ∃ q : Nat, q ≤ t.key.length ∧ j = .int .i64 (q : Int) ∧ Below w3.heap.size w3 wr ∧ w3.heap.size ≤ wr.heap.size ∧ Hid (∀ i, i < q → NullOk t i)) (fun j _ => t.key.length - (intOf j).toNat)
              case atStart => exact ⟨0, by omega, rfl, hb, hz, fun _ h => absurd h (by omega)⟩
              case round =>
                clear hb hz hBw a2 ktw
                obtain ⟨q, hq, rfl, hb, hz, HB⟩ := hrel
                have hBw := hB3.trans (hb.mono hB3.size)
                have ktw := kt3.below hb kt3.lt
                have a2 : wr.cell? ⟨w.heap.size, 2, none⟩ = some (.slice A t.cols.length c) := ktw.cell 2
                have a3 : wr.cell? ⟨w.heap.size, 3, none⟩ = some (.slice A3 t.key.length c3) := ktw.cell 3
                by_cases hlt2 : q < t.key.length
                · obtain ⟨hk0, hk1, _⟩ := HP.out.1 q hlt2
                  obtain ⟨b1, off1, c1', cs1, hv1, _, ⟨rfl, _⟩, hcell1⟩ := (ht.key.below hBw).at_ hlt2
                  simp only [Value.slice.injEq, true_and] at hv1
                  obtain ⟨rfl, rfl⟩ := hv1
                  have r0 := hcell1 0 _ rfl
                  simp only [Nat.add_zero, show rInt.sz = 1 from rfl, Nat.mul_one] at r0
                  clear hcell1
                  obtain ⟨p, hp⟩ := Int.eq_ofNat_of_zero_le hk0
                  rw [hp] at r0 hk1
                  have hpc : p < t.cols.length := by omega
                  obtain ⟨b2, off2, c2', cs2, hv2, _, ⟨rfl, _⟩, hcell2⟩ := (ht.cols.below hBw).at_ hpc
                  simp only [Value.slice.injEq, true_and] at hv2
                  obtain ⟨rfl, rfl⟩ := hv2
                  have r2 := hcell2 2 _ rfl
                  simp only [show rCol.sz = 3 from rfl] at r2
                  clear hcell2
                  have NO : Hid (t.cols[p].null = true → ¬ TableOk t) := fun h hT => by
                    have := hT.2.2.2.2 q hlt2 hlt2 p hp hpc
                    rw [h] at this; cases this
                  have YES : Hid (t.cols[p].null = false → ∀ i, i < q + 1 → NullOk t i) := fun h i hi => by
                    rcases Nat.lt_or_ge i q with g | g
                    · exact HB.out i g
                    · obtain rfl : i = q := by omega
                      intro h1 p' hp' hpc'
                      have : p' = p := by rw [hp] at hp'; exact (Int.ofNat.inj hp').symm
                      subst this
                      exact h
                  obtain ⟨nb, hnb⟩ : ∃ n, n = t.cols[p].null := ⟨_, rfl⟩
                  rw [← hnb] at r2 NO YES
                  clear hnb hp hk0 hk1
                  have l0 := Later.cell r0
                  have l1 := Later.cell r2
                  have l2 := Later.cell a2
                  have l3 := Later.cell a3
                  have BS : Hid (∀ s : Later wr, Below w3.heap.size w3 s.val ∧ w3.heap.size ≤ s.val.heap.size ∧ Below w.heap.size w s.val) := fun s => ⟨hb.trans (s.below.mono hz), by have := s.below.size; omega, hBw.trans (s.below.mono hBw.size)⟩
                  go_wp2
                  refine wp_region_later (by kernel_rfl) (by kernel_rfl) ?_
                  repeat (go_big_quiet_step (fail))
                  refine wpQuiet_nil ?_
                  intro s1
                  have hbs := (BS.out s1).1
                  have hzs := (BS.out s1).2.1
                  have hbw1 := (BS.out s1).2.2
                  cases nb
                  · have YY := Lib.hid (YES.out rfl)
                    clear NO YES
                    go_wp2
                    go_roundw
                    case rel => exact ⟨q + 1, by omega, by go_num, hbs, hzs, YY.out⟩
                    case measure => simp [intOf]; omega
                  · have NN := Lib.hid (NO.out rfl)
                    clear NO YES
                    go_wp2
                    go_ret
                    exact ⟨RetB.no rfl NN.out, hbw1⟩
                · have YY : Hid (TableOk t) := ⟨HN.out, HL.out, HP.out, hA.out, fun i hi => HB.out i (by omega)⟩
                  go_wp2
                  go_ret
                  exact ⟨RetB.yes rfl YY.out, hBw⟩
      · have NN : Hid (¬ TableOk t) := fun h => h2 h.2.1.2
        have d2 : decide ((6 : Int) < t.cols.length) = true := decide_eq_true (by omega)
        have d3 : decide (6 < t.cols.length) = true := decide_eq_true (by omega)
        go_wp2
        go_ret
        exact ⟨RetB.no rfl NN.out, hb1⟩
    · have NN : Hid (¬ TableOk t) := fun h => h1 h.2.1.1
      have d0 : decide ((t.cols.length : Int) < 1) = true := decide_eq_true (by omega)
      have d1 : decide (t.cols.length < 1) = true := decide_eq_true (by omega)
      go_wp2
      go_ret
      exact ⟨RetB.no rfl NN.out, hb1⟩
end Go.Proofs.Ytikkknaofiafhaa
