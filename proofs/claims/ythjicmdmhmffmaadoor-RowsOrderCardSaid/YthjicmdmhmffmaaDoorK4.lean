/- Contract: ref12.Right. Written by mkcat.py. -/
import Derived.Test.YthjicmdmhmffmaaDoorK1
namespace Go.Proofs.YthjicmdmhmffmaaDoor
open Go.RowKit

theorem Tryd.rowInt : RowTy Tryd.prog 23 3 1 8 := rowTy_mk Tryd.underlying23 (by kernel_rfl)
def TblAt (c : CatD) (i : Nat) : Prop := ∃ h : i < c.tabs.length, 1 ≤ c.tabs[i].id ∧ c.tabs[i].id < c.next ∧ c.tabs[i].id ∉ (c.tabs.take i).map TabD.id ∧ (∀ p (hp : p + 1 = i) (hpl : p < c.tabs.length), c.tabs[p].id < c.tabs[i].id) ∧ TableOk c.tabs[i] ∧ ∀ k (hk : k < i), c.tabs[k].name ≠ c.tabs[i].name
def IdxAt (c : CatD) (i : Nat) : Prop := ∃ h : i < c.idxs.length, 1 ≤ c.idxs[i].id ∧ c.idxs[i].id < c.next ∧ c.idxs[i].id ∉ c.tabs.map TabD.id ++ (c.idxs.take i).map IdxD.id ∧ (∀ p (hp : p + 1 = i) (hpl : p < c.idxs.length), c.idxs[p].id < c.idxs[i].id) ∧
  (∃ t, c.tabs.find? (fun t => t.id == c.idxs[i].table) = some t ∧ PlacesOk c.idxs[i].cols t.cols.length) ∧ NameOk c.idxs[i].name ∧ 1 ≤ c.idxs[i].state ∧ c.idxs[i].state ≤ 7 ∧ ∀ k (hk : k < i), c.idxs[k].name ≠ c.idxs[i].name
def CatOk (c : CatD) : Prop := 0 ≤ c.ver ∧ 1 ≤ c.next ∧ c.next ≤ 1073741824 ∧ c.tabs.length ≤ 6 ∧ c.idxs.length ≤ 10 ∧ (∀ i, i < c.tabs.length → TblAt c i) ∧ ∀ i, i < c.idxs.length → IdxAt c i
theorem tableRight_b {ok : Nat → Prop} (t : TabD) (a b : Value) (w : World) (ht : TabR ok w a b t) (bb : Bool) (h : bb = true ↔ TableOk t) :
    Calls Tryd.prog 33 #[.agg (tabCs t a b)] w fun e w' => e = .returned (.bool bb) ∧ Below w.heap.size w w' :=
  (tableRight_any t a b w ht).mono fun e w' ⟨⟨b', he, hb⟩, hw⟩ => ⟨by rw [he, Bool.eq_iff_iff.2 (hb.trans h.symm)], hw⟩
theorem nameOk_b (s : ByteArray) (w : World) (hs : s.size ≤ 9223372036854775807) (bb : Bool) (h : bb = true ↔ NameOk s) :
    Calls Tryd.prog 35 #[.string s] w fun e w' => e = .returned (.bool bb) ∧ Below w.heap.size w w' :=
  (nameOk_any s w hs).mono fun e w' ⟨⟨b', he, hb⟩, hw⟩ => by subst hw; exact ⟨by rw [he, Bool.eq_iff_iff.2 (hb.trans h.symm)], Below.refl _ _⟩
theorem places_b {ok : Nat → Prop} (v : Value) (l : List Int) (n : Int) (w : World) (hr : RSl rInt ok w v l) (bb : Bool) (h : bb = true ↔ PlacesOk l n) :
    Calls Tryd.prog 36 #[v, .int .i64 n] w fun e w' => e = .returned (.bool bb) ∧ Below w.heap.size w w' :=
  (places_any v l n w hr).mono fun e w' ⟨⟨b', he, hb⟩, hw⟩ => ⟨by rw [he, Bool.eq_iff_iff.2 (hb.trans h.symm)], hw⟩

set_option maxRecDepth 100000 in
set_option maxHeartbeats 20000000 in
theorem catRight_any {ok : Nat → Prop} (c : CatD) (a b : Value) (w : World) (hc : CatR ok w a b c) :
    Calls Tryd.prog 16 #[.agg (catCs c a b)] w fun e w' => RetB e (CatOk c) ∧ Below w.heap.size w w' := by
  obtain ⟨A, n, rfl, hn, hbd⟩ := hc.tabs.form
  obtain ⟨A3, n3, rfl, hn3, hbd3⟩ := hc.idxs.form
  have hbd' : c.tabs.length * 72 ≤ 140737488351232 := hbd
  have hbd3' : c.idxs.length * 80 ≤ 140737488351232 := hbd3
  clear hbd hbd3
  go_enter Tryd.func16, Tryd.ntmps16
  unfold catCs
  go_upto_region 1 with fail
  refine name_world (fun w1 => Below w.heap.size w w1 ∧ w.heap.size + 1 ≤ w1.heap.size ∧ Blk w1 w.heap.size 57 (catCs c (.slice A c.tabs.length n) (.slice A3 c.idxs.length n3)))
    ⟨(Below.refl _ _).alloc (Nat.le_refl _) _, by simp, Blk.new w _ _⟩ ?_
  rintro w1 ⟨hb1, hz1, kc⟩
  have a0 : w1.cell? ⟨w.heap.size, 0, none⟩ = some (.int .i64 c.ver) := kc.cell 0
  have a1 : w1.cell? ⟨w.heap.size, 1, none⟩ = some (.int .i64 c.next) := kc.cell 1
  have a2 : w1.cell? ⟨w.heap.size, 2, none⟩ = some (.slice A c.tabs.length n) := kc.cell 2
  have a3 : w1.cell? ⟨w.heap.size, 3, none⟩ = some (.slice A3 c.idxs.length n3) := kc.cell 3
  by_cases p0 : 0 ≤ c.ver
  · have q0 : decide (c.ver < 0) = false := decide_eq_false (by omega)
    by_cases p1 : 1 ≤ c.next
    · have q1 : decide (c.next < 1) = false := decide_eq_false (by omega)
      by_cases p2 : c.next ≤ 1073741824
      · have q2 : decide (1073741824 < c.next) = false := decide_eq_false (by omega)
        by_cases p3 : c.tabs.length ≤ 6
        · have q3 : decide ((6 : Int) < c.tabs.length) = false := decide_eq_false (by omega)
          have q3' : decide (6 < c.tabs.length) = false := decide_eq_false (by omega)
          by_cases p4 : c.idxs.length ≤ 10
          · have q4 : decide ((10 : Int) < c.idxs.length) = false := decide_eq_false (by omega)
            have q4' : decide (10 < c.idxs.length) = false := decide_eq_false (by omega)
            have HL : Hid (0 ≤ c.ver ∧ 1 ≤ c.next ∧ c.next ≤ 1073741824 ∧ c.tabs.length ≤ 6 ∧ c.idxs.length ≤ 10) := ⟨p0, p1, p2, p3, p4⟩
            clear p0 p1 p2
            go_wp2
            clear a0 a1 a2 a3 q0 q1 q2 q3 q3' q4 q4'
            go_loopw [3, 4] (fun v j wr => ∃ k : Nat, k ≤ c.tabs.length ∧ j = .int .i64 (k : Int) ∧ Below w1.heap.size w1 wr ∧ w1.heap.size ≤ wr.heap.size ∧ OwnL rInt (fun b => w1.heap.size ≤ b) w1.heap.size 3 wr v ((c.tabs.take k).map TabD.id) ∧ Hid (∀ i, i < k → TblAt c i)) (fun _ j _ => c.tabs.length - (intOf j).toNat)
            case atStart => exact ⟨0, by omega, rfl, Below.refl _ _, Nat.le_refl _, OwnL.nil_ _ _ _ _ _, fun _ h => absurd h (by omega)⟩
            case round =>
              obtain ⟨k, hk, rfl, hb, hz, hown, HA⟩ := hrel
              have hBw := hb1.trans (hb.mono hb1.size)
              have kcw := kc.below hb kc.lt
              have a2 : wr.cell? ⟨w.heap.size, 2, none⟩ = some (.slice A c.tabs.length n) := kcw.cell 2
              by_cases hlt : k < c.tabs.length
              · obtain ⟨b0, off0, c0', cs0, hv0, _, ⟨ta, tb, rfl, hT⟩, hcell0⟩ := (hc.tabs.below hBw).at_ hlt
                simp only [Value.slice.injEq, true_and] at hv0
                obtain ⟨rfl, rfl⟩ := hv0
                obtain ⟨At, nt, rfl, _, _⟩ := hT.cols.form
                obtain ⟨Ak, nk, rfl, _, _⟩ := hT.key.form
                have r0 := hcell0 0 _ rfl
                have r1 := hcell0 1 _ rfl
                have r2 := hcell0 2 _ rfl
                have r3 := hcell0 3 _ rfl
                simp only [Nat.add_zero, show rTab.sz = 4 from rfl] at r0 r1 r2 r3
                clear hcell0
                have NO : Hid (¬ TblAt c k → ¬ CatOk c) := fun h hp => h (hp.2.2.2.2.2.1 k hlt)
                have YES : Hid (TblAt c k → ∀ i, i < k + 1 → TblAt c i) := fun h i hi => by
                  rcases Nat.lt_or_ge i k with g | g
                  · exact HA.out i g
                  · obtain rfl : i = k := by omega
                    exact h
                have COL : Hid (TblAt c k ↔ (1 ≤ c.tabs[k].id ∧ c.tabs[k].id < c.next ∧ c.tabs[k].id ∉ (c.tabs.take k).map TabD.id ∧ (∀ p (hp : p + 1 = k) (hpl : p < c.tabs.length), c.tabs[p].id < c.tabs[k].id) ∧ TableOk c.tabs[k] ∧ ∀ i (hi : i < k), c.tabs[i].name ≠ c.tabs[k].name)) := ⟨fun ⟨_, h⟩ => h, fun h => ⟨hlt, h⟩⟩
                have HIDS : Hid ((c.tabs.take (k + 1)).map TabD.id = (c.tabs.take k).map TabD.id ++ [c.tabs[k].id]) := by unfold Hid; rw [List.take_succ_eq_append_getElem hlt, List.map_append]; rfl
                obtain ⟨ids, hids⟩ : ∃ l, l = (c.tabs.take k).map TabD.id := ⟨_, rfl⟩
                have hidl : ids.length = k := by rw [hids]; simp; omega
                rw [← hids] at hown COL HIDS
                clear hids
                obtain ⟨Ai, ci, hvi, hci⟩ := hown.form
                rw [hidl] at hvi hci
                subst hvi
                have HIDL := Lib.hid hidl
                clear hidl
                obtain ⟨t, hcD⟩ : ∃ d, d = c.tabs[k] := ⟨_, rfl⟩
                rw [← hcD] at r0 r1 r2 r3 hT COL HIDS
                clear hcD
                go_upto_region 8 with fail
                refine name_world (fun w5 => Below wr.heap.size wr w5 ∧ wr.heap.size + 1 ≤ w5.heap.size ∧ Blk w5 wr.heap.size 25 (tabCs t (.slice At t.cols.length nt) (.slice Ak t.key.length nk)))
                  ⟨(Below.refl _ _).alloc (Nat.le_refl _) _, by simp, Blk.new wr _ _⟩ ?_
                rintro w5 ⟨hb5, hz5, kt⟩
                have hB5 := hb.trans (hb5.mono hz)
                have hB5w := hBw.trans (hb5.mono hBw.size)
                have kc5 := kcw.below hb5 kcw.lt
                have hT5 := hT.below hb5
                have hown5 := hown.below hb5
                have hz5' : w1.heap.size ≤ w5.heap.size := by omega
                clear a2 r0 r1 r2 r3 kcw hb5 hb hBw hT hown
                generalize wr.heap.size = g at *
                have hg1 : w1.heap.size ≤ g := hz
                clear hz5 hz
                have m0 : ∀ s : Later w5, s.val.cell? ⟨g, 0, none⟩ = some (.int .i64 t.id) := kt.later rfl
                have m1 : ∀ s : Later w5, s.val.cell? ⟨g, 1, none⟩ = some (.string t.name) := kt.later rfl
                have m2 : ∀ s : Later w5, s.val.cell? ⟨g, 2, none⟩ = some (.slice At t.cols.length nt) := kt.later rfl
                have m3 : ∀ s : Later w5, s.val.cell? ⟨g, 3, none⟩ = some (.slice Ak t.key.length nk) := kt.later rfl
                have n1 : ∀ s : Later w5, s.val.cell? ⟨w.heap.size, 1, none⟩ = some (.int .i64 c.next) := kc5.later rfl
                have n2 : ∀ s : Later w5, s.val.cell? ⟨w.heap.size, 2, none⟩ = some (.slice (some ⟨b0, off0, none⟩) c.tabs.length n) := kc5.later rfl
                have BS : Hid (∀ s : Later w5, Below w1.heap.size w1 s.val ∧ w1.heap.size ≤ s.val.heap.size ∧ Below w.heap.size w s.val) := fun s => ⟨hB5.trans (s.below.mono hz5'), by have := s.below.size; omega, hB5w.trans (s.below.mono hB5w.size)⟩
                have IDS : Hid (∀ s : Later w5, RSl rInt (fun _ => True) s.val (.slice Ai k ci) ids) := fun s => (hown5.below s.below).rsl (by decide) (by have h := HIDL.out; show _ * 8 ≤ _; omega) (fun _ _ => trivial) (fun _ _ => trivial)
                by_cases h0 : 1 ≤ t.id
                · have e0 : decide (t.id < 1) = false := decide_eq_false (by omega)
                  have e0' : decide (t.id ≤ 0) = false := decide_eq_false (by omega)
                  by_cases h1 : t.id < c.next
                  · have e1 : decide (c.next ≤ t.id) = false := decide_eq_false (by omega)
                    by_cases h2 : t.id ∈ ids
                    · have NN : Hid (¬ CatOk c) := NO.out fun h => (COL.out.1 h).2.2.1 h2
                      have HIN : Hid (t.id ∈ ids) := h2
                      clear h2
                      as_aux_lemma =>
                        go_wp2
                        refine wp_region_later (by as_aux_lemma => kernel_rfl) (by as_aux_lemma => kernel_rfl) ?_
                        repeat (go_big_quiet_step ((go_at_call 32; exact Later.call (inInt_b _ _ _ true _ (IDS.out _) (iff_of_true rfl HIN.out)))))
                        refine wpQuiet_nil ?_
                        intro s1
                        go_wp2
                        go_ret
                        exact ⟨RetB.no rfl NN.out, (BS.out s1).2.2⟩
                    · have HIN : Hid (t.id ∉ ids) := h2
                      have HH : Hid (1 ≤ t.id ∧ t.id < c.next ∧ t.id ∉ ids) := ⟨h0, h1, h2⟩
                      clear h0 h1 h2
                      rcases Nat.eq_zero_or_pos k with hk0 | hkp
                      · have f0 : decide ((0 : Int) < k) = false := decide_eq_false (by omega)
                        have f0' : decide (0 < k) = false := decide_eq_false (by omega)
                        have HD : Hid (∀ p (hp : p + 1 = k) (hpl : p < c.tabs.length), c.tabs[p].id < t.id) := fun p hp => absurd hp (by omega)
                        clear hk0
                        by_cases h3 : TableOk t
                        · have HTR : Hid (TableOk t) := h3
                          have HT := Lib.hid h3
                          clear h3
                          as_aux_lemma =>
                            go_wp2
                            refine wp_region_later (by as_aux_lemma => kernel_rfl) (by as_aux_lemma => kernel_rfl) ?_
                            repeat (go_big_quiet_step ((first | (go_at_call 32; exact Later.call (inInt_b _ _ _ false _ (IDS.out _) (iff_of_false Bool.false_ne_true HIN.out))) | (go_at_call 33; exact Later.call (tableRight_b t _ _ _ (hT5.below (Later.below _)) true (iff_of_true rfl HTR.out))))))
                            refine wpQuiet_nil ?_
                            intro s1
                            have hbs := (BS.out s1).1
                            have hzs := (BS.out s1).2.1
                            have hbsw := (BS.out s1).2.2
                            have kts := kt.below s1.below kt.lt
                            have kcs := kc5.below s1.below kc5.lt
                            have hos := hown5.below s1.below
                            have hTid := hT5.id
                            clear m0 m1 m2 m3 n1 n2 IDS hT5 hown5 kt kc5 HIN HTR
                            obtain ⟨w6, hw6⟩ : ∃ w6, w6 = s1.val := ⟨_, rfl⟩
                            rw [← hw6] at hbs hzs hbsw kts kcs hos ⊢
                            clear hw6
                            go_wp2
                            go_loopw [6] (fun j wr => ∃ q : Nat, q ≤ k ∧ j = .int .i64 (q : Int) ∧ Below w6.heap.size w6 wr ∧ w6.heap.size ≤ wr.heap.size ∧ Hid (∀ i (h : i < c.tabs.length), i < q → c.tabs[i].name ≠ t.name)) (fun j _ => k - (intOf j).toNat)
                            case atStart => exact ⟨0, by omega, rfl, Below.refl _ _, Nat.le_refl _, fun _ _ h => absurd h (by omega)⟩
                            case round =>
                              obtain ⟨q, hq, rfl, hb6, hz6, HB⟩ := hrel
                              have hB6 := hbs.trans (hb6.mono hzs)
                              have hB6w := hbsw.trans (hb6.mono hbsw.size)
                              have kt6 := kts.below hb6 kts.lt
                              have kc6 := kcs.below hb6 kcs.lt
                              have hz6' : w1.heap.size ≤ wr.heap.size := by omega
                              by_cases hlt2 : q < k
                              · have hqc : q < c.tabs.length := by omega
                                obtain ⟨b1, off1, c1', cs1, hv1, _, ⟨ta2, tb2, rfl, _⟩, hcell1⟩ := (hc.tabs.below hB6w).at_ hqc
                                simp only [Value.slice.injEq, Option.some.injEq, Addr.mk.injEq, true_and, and_true] at hv1
                                obtain ⟨⟨rfl, rfl⟩, rfl⟩ := hv1
                                have r0 := hcell1 1 _ rfl
                                simp only [show rTab.sz = 4 from rfl] at r0
                                clear hcell1
                                have HQ : Hid (c.tabs[q].name = t.name → ¬ CatOk c) := fun h => NO.out fun hc => (COL.out.1 hc).2.2.2.2.2 q hlt2 h
                                have HB2 : Hid (c.tabs[q].name ≠ t.name → ∀ i (h : i < c.tabs.length), i < q + 1 → c.tabs[i].name ≠ t.name) := fun h i hi hi2 => by
                                  rcases Nat.lt_or_ge i q with g | g
                                  · exact HB.out i hi g
                                  · obtain rfl : i = q := by omega
                                    exact h
                                obtain ⟨nm, hnm2⟩ : ∃ n, n = c.tabs[q].name := ⟨_, rfl⟩
                                rw [← hnm2] at r0 HQ HB2
                                clear hnm2
                                have l0 := Later.cell r0
                                have l1 : ∀ s : Later wr, s.val.cell? ⟨w.heap.size, 2, none⟩ = some (.slice (some ⟨b0, off0, none⟩) c.tabs.length n) := kc6.later rfl
                                have l2 : ∀ s : Later wr, s.val.cell? ⟨g, 1, none⟩ = some (.string t.name) := kt6.later rfl
                                have BS2 : Hid (∀ s : Later wr, Below w6.heap.size w6 s.val ∧ w6.heap.size ≤ s.val.heap.size ∧ Below w.heap.size w s.val) := fun s => ⟨hb6.trans (s.below.mono hz6), by have := s.below.size; omega, hB6w.trans (s.below.mono hB6w.size)⟩
                                by_cases he : nm = t.name
                                · have e0 : (nm.toList == t.name.toList) = true := by simp [he]
                                  have NN := Lib.hid (HQ.out he)
                                  clear he
                                  go_wp2
                                  refine wp_region_later (by as_aux_lemma => kernel_rfl) (by as_aux_lemma => kernel_rfl) ?_
                                  repeat (go_big_quiet_step (fail))
                                  refine wpQuiet_nil ?_
                                  intro s2
                                  go_wp2
                                  go_ret
                                  exact ⟨RetB.no rfl NN.out, (BS2.out s2).2.2⟩
                                · have e0 : (nm.toList == t.name.toList) = false := strNe he
                                  have YY := Lib.hid (HB2.out he)
                                  clear he
                                  go_wp2
                                  refine wp_region_later (by as_aux_lemma => kernel_rfl) (by as_aux_lemma => kernel_rfl) ?_
                                  repeat (go_big_quiet_step (fail))
                                  refine wpQuiet_nil ?_
                                  intro s2
                                  have hbs2 := (BS2.out s2).1
                                  have hzs2 := (BS2.out s2).2.1
                                  go_wp2
                                  go_roundw
                                  case rel => exact ⟨q + 1, by omega, by go_num, hbs2, hzs2, YY.out⟩
                                  case measure => simp [intOf]; omega
                              · have YY : Hid (∀ i, i < k + 1 → TblAt c i) := YES.out (COL.out.2 ⟨HH.out.1, HH.out.2.1, HH.out.2.2, HD.out, HT.out, fun i hi => HB.out i (by omega) (by omega)⟩)
                                have l2 : wr.cell? ⟨g, 0, none⟩ = some (.int .i64 t.id) := kt6.cell 0
                                have ho6 := hos.below hb6
                                go_wp2_with (at_builtin; go_loud (refine wp_app1 (E := rInt) (okd := fun b => w1.heap.size ≤ b) Tryd.rowInt (by decide) rfl _ _ rfl _ ids wr _ t.id rfl ho6 rfl ⟨rfl, hTid⟩ (by have h := HIDL.out; show (_ + 1) * 8 ≤ _; omega) (by have h := HIDL.out; omega) hz6' ?_); intro v' w' hown2 hk2 _)
                                have hbn := hB6.trans (ho6.bel hk2 hz6')
                                have hzn : w1.heap.size ≤ w'.heap.size := Nat.le_trans hz6' (ho6.bel hk2 hz6').size
                                go_roundw
                                case rel => exact ⟨k + 1, by omega, by go_num, hbn, hzn, by rw [HIDS.out]; exact hown2, YY.out⟩
                                case measure => simp [intOf]; omega
                        · have NN : Hid (¬ CatOk c) := NO.out fun h => h3 (COL.out.1 h).2.2.2.2.1
                          have HTR : Hid (¬ TableOk t) := h3
                          clear h3
                          as_aux_lemma =>
                            go_wp2
                            refine wp_region_later (by as_aux_lemma => kernel_rfl) (by as_aux_lemma => kernel_rfl) ?_
                            repeat (go_big_quiet_step ((first | (go_at_call 32; exact Later.call (inInt_b _ _ _ false _ (IDS.out _) (iff_of_false Bool.false_ne_true HIN.out))) | (go_at_call 33; exact Later.call (tableRight_b t _ _ _ (hT5.below (Later.below _)) false (iff_of_false Bool.false_ne_true HTR.out))))))
                            refine wpQuiet_nil ?_
                            intro s1
                            go_wp2
                            go_ret
                            exact ⟨RetB.no rfl NN.out, (BS.out s1).2.2⟩
                      · have f0 : decide ((0 : Int) < k) = true := decide_eq_true (by omega)
                        have f0' : decide (0 < k) = true := decide_eq_true (by omega)
                        obtain ⟨p, rfl⟩ : ∃ p, k = p + 1 := ⟨k - 1, by omega⟩
                        have hpc : p < c.tabs.length := by omega
                        obtain ⟨b1, off1, c1', cs1, hv1, _, ⟨ta2, tb2, rfl, _⟩, hcell1⟩ := (hc.tabs.below hB5w).at_ hpc
                        simp only [Value.slice.injEq, Option.some.injEq, Addr.mk.injEq, true_and, and_true] at hv1
                        obtain ⟨⟨rfl, rfl⟩, rfl⟩ := hv1
                        have r0 := hcell1 0 _ rfl
                        simp only [Nat.add_zero, show rTab.sz = 4 from rfl] at r0
                        clear hcell1
                        have PR : Hid ((c.tabs[p].id < t.id) ↔ ∀ p' (hp : p' + 1 = p + 1) (hpl : p' < c.tabs.length), c.tabs[p'].id < t.id) := ⟨fun h p' hp hpl => by obtain rfl : p' = p := Nat.succ.inj hp; exact h, fun h => h p rfl hpc⟩
                        obtain ⟨pid, hpid⟩ : ∃ i, i = c.tabs[p].id := ⟨_, rfl⟩
                        rw [← hpid] at r0 PR
                        clear hpid
                        have l0 := Later.cell r0
                        clear r0
                        by_cases h4 : pid < t.id
                        · have f1 : decide (t.id ≤ pid) = false := decide_eq_false (by omega)
                          have HD := Lib.hid (PR.out.1 h4)
                          clear h4
                          by_cases h3 : TableOk t
                          · have HTR : Hid (TableOk t) := h3
                            have HT := Lib.hid h3
                            clear h3
                            as_aux_lemma =>
                              go_wp2
                              refine wp_region_later (by as_aux_lemma => kernel_rfl) (by as_aux_lemma => kernel_rfl) ?_
                              repeat (go_big_quiet_step ((first | (go_at_call 32; exact Later.call (inInt_b _ _ _ false _ (IDS.out _) (iff_of_false Bool.false_ne_true HIN.out))) | (go_at_call 33; exact Later.call (tableRight_b t _ _ _ (hT5.below (Later.below _)) true (iff_of_true rfl HTR.out))))))
                              refine wpQuiet_nil ?_
                              intro s1
                              have hbs := (BS.out s1).1
                              have hzs := (BS.out s1).2.1
                              have hbsw := (BS.out s1).2.2
                              have kts := kt.below s1.below kt.lt
                              have kcs := kc5.below s1.below kc5.lt
                              have hos := hown5.below s1.below
                              have hTid := hT5.id
                              clear m0 m1 m2 m3 n1 n2 IDS hT5 hown5 kt kc5 HIN HTR
                              obtain ⟨w6, hw6⟩ : ∃ w6, w6 = s1.val := ⟨_, rfl⟩
                              rw [← hw6] at hbs hzs hbsw kts kcs hos ⊢
                              clear hw6
                              go_wp2
                              go_loopw [6] (fun j wr => ∃ q : Nat, q ≤ (p + 1) ∧ j = .int .i64 (q : Int) ∧ Below w6.heap.size w6 wr ∧ w6.heap.size ≤ wr.heap.size ∧ Hid (∀ i (h : i < c.tabs.length), i < q → c.tabs[i].name ≠ t.name)) (fun j _ => (p + 1) - (intOf j).toNat)
                              case atStart => exact ⟨0, by omega, rfl, Below.refl _ _, Nat.le_refl _, fun _ _ h => absurd h (by omega)⟩
                              case round =>
                                obtain ⟨q, hq, rfl, hb6, hz6, HB⟩ := hrel
                                have hB6 := hbs.trans (hb6.mono hzs)
                                have hB6w := hbsw.trans (hb6.mono hbsw.size)
                                have kt6 := kts.below hb6 kts.lt
                                have kc6 := kcs.below hb6 kcs.lt
                                have hz6' : w1.heap.size ≤ wr.heap.size := by omega
                                by_cases hlt2 : q < (p + 1)
                                · have hqc : q < c.tabs.length := by omega
                                  obtain ⟨b1, off1, c1', cs1, hv1, _, ⟨ta2, tb2, rfl, _⟩, hcell1⟩ := (hc.tabs.below hB6w).at_ hqc
                                  simp only [Value.slice.injEq, Option.some.injEq, Addr.mk.injEq, true_and, and_true] at hv1
                                  obtain ⟨⟨rfl, rfl⟩, rfl⟩ := hv1
                                  have r0 := hcell1 1 _ rfl
                                  simp only [show rTab.sz = 4 from rfl] at r0
                                  clear hcell1
                                  have HQ : Hid (c.tabs[q].name = t.name → ¬ CatOk c) := fun h => NO.out fun hc => (COL.out.1 hc).2.2.2.2.2 q hlt2 h
                                  have HB2 : Hid (c.tabs[q].name ≠ t.name → ∀ i (h : i < c.tabs.length), i < q + 1 → c.tabs[i].name ≠ t.name) := fun h i hi hi2 => by
                                    rcases Nat.lt_or_ge i q with g | g
                                    · exact HB.out i hi g
                                    · obtain rfl : i = q := by omega
                                      exact h
                                  obtain ⟨nm, hnm2⟩ : ∃ n, n = c.tabs[q].name := ⟨_, rfl⟩
                                  rw [← hnm2] at r0 HQ HB2
                                  clear hnm2
                                  have l0 := Later.cell r0
                                  have l1 : ∀ s : Later wr, s.val.cell? ⟨w.heap.size, 2, none⟩ = some (.slice (some ⟨b0, off0, none⟩) c.tabs.length n) := kc6.later rfl
                                  have l2 : ∀ s : Later wr, s.val.cell? ⟨g, 1, none⟩ = some (.string t.name) := kt6.later rfl
                                  have BS2 : Hid (∀ s : Later wr, Below w6.heap.size w6 s.val ∧ w6.heap.size ≤ s.val.heap.size ∧ Below w.heap.size w s.val) := fun s => ⟨hb6.trans (s.below.mono hz6), by have := s.below.size; omega, hB6w.trans (s.below.mono hB6w.size)⟩
                                  by_cases he : nm = t.name
                                  · have e0 : (nm.toList == t.name.toList) = true := by simp [he]
                                    have NN := Lib.hid (HQ.out he)
                                    clear he
                                    go_wp2
                                    refine wp_region_later (by as_aux_lemma => kernel_rfl) (by as_aux_lemma => kernel_rfl) ?_
                                    repeat (go_big_quiet_step (fail))
                                    refine wpQuiet_nil ?_
                                    intro s2
                                    go_wp2
                                    go_ret
                                    exact ⟨RetB.no rfl NN.out, (BS2.out s2).2.2⟩
                                  · have e0 : (nm.toList == t.name.toList) = false := strNe he
                                    have YY := Lib.hid (HB2.out he)
                                    clear he
                                    go_wp2
                                    refine wp_region_later (by as_aux_lemma => kernel_rfl) (by as_aux_lemma => kernel_rfl) ?_
                                    repeat (go_big_quiet_step (fail))
                                    refine wpQuiet_nil ?_
                                    intro s2
                                    have hbs2 := (BS2.out s2).1
                                    have hzs2 := (BS2.out s2).2.1
                                    go_wp2
                                    go_roundw
                                    case rel => exact ⟨q + 1, by omega, by go_num, hbs2, hzs2, YY.out⟩
                                    case measure => simp [intOf]; omega
                                · have YY : Hid (∀ i, i < (p + 1) + 1 → TblAt c i) := YES.out (COL.out.2 ⟨HH.out.1, HH.out.2.1, HH.out.2.2, HD.out, HT.out, fun i hi => HB.out i (by omega) (by omega)⟩)
                                  have l2 : wr.cell? ⟨g, 0, none⟩ = some (.int .i64 t.id) := kt6.cell 0
                                  have ho6 := hos.below hb6
                                  go_wp2_with (at_builtin; go_loud (refine wp_app1 (E := rInt) (okd := fun b => w1.heap.size ≤ b) Tryd.rowInt (by decide) rfl _ _ rfl _ ids wr _ t.id rfl ho6 rfl ⟨rfl, hTid⟩ (by have h := HIDL.out; show (_ + 1) * 8 ≤ _; omega) (by have h := HIDL.out; omega) hz6' ?_); intro v' w' hown2 hk2 _)
                                  have hbn := hB6.trans (ho6.bel hk2 hz6')
                                  have hzn : w1.heap.size ≤ w'.heap.size := Nat.le_trans hz6' (ho6.bel hk2 hz6').size
                                  go_roundw
                                  case rel => exact ⟨(p + 1) + 1, by omega, by go_num, hbn, hzn, by rw [HIDS.out]; exact hown2, YY.out⟩
                                  case measure => simp [intOf]; omega
                          · have NN : Hid (¬ CatOk c) := NO.out fun h => h3 (COL.out.1 h).2.2.2.2.1
                            have HTR : Hid (¬ TableOk t) := h3
                            clear h3
                            as_aux_lemma =>
                              go_wp2
                              refine wp_region_later (by as_aux_lemma => kernel_rfl) (by as_aux_lemma => kernel_rfl) ?_
                              repeat (go_big_quiet_step ((first | (go_at_call 32; exact Later.call (inInt_b _ _ _ false _ (IDS.out _) (iff_of_false Bool.false_ne_true HIN.out))) | (go_at_call 33; exact Later.call (tableRight_b t _ _ _ (hT5.below (Later.below _)) false (iff_of_false Bool.false_ne_true HTR.out))))))
                              refine wpQuiet_nil ?_
                              intro s1
                              go_wp2
                              go_ret
                              exact ⟨RetB.no rfl NN.out, (BS.out s1).2.2⟩
                        · have f1 : decide (t.id ≤ pid) = true := decide_eq_true (by omega)
                          have NN : Hid (¬ CatOk c) := NO.out fun h => h4 (PR.out.2 (COL.out.1 h).2.2.2.1)
                          clear h4
                          as_aux_lemma =>
                            go_wp2
                            refine wp_region_later (by as_aux_lemma => kernel_rfl) (by as_aux_lemma => kernel_rfl) ?_
                            repeat (go_big_quiet_step ((go_at_call 32; exact Later.call (inInt_b _ _ _ false _ (IDS.out _) (iff_of_false Bool.false_ne_true HIN.out)))))
                            refine wpQuiet_nil ?_
                            intro s1
                            go_wp2
                            go_ret
                            exact ⟨RetB.no rfl NN.out, (BS.out s1).2.2⟩
                  · have NN : Hid (¬ CatOk c) := NO.out fun h => h1 (COL.out.1 h).2.1
                    have e1 : decide (c.next ≤ t.id) = true := decide_eq_true (by omega)
                    as_aux_lemma =>
                      go_wp2
                      refine wp_region_later (by as_aux_lemma => kernel_rfl) (by as_aux_lemma => kernel_rfl) ?_
                      repeat (go_big_quiet_step (fail))
                      refine wpQuiet_nil ?_
                      intro s1
                      go_wp2
                      go_ret
                      exact ⟨RetB.no rfl NN.out, (BS.out s1).2.2⟩
                · have NN : Hid (¬ CatOk c) := NO.out fun h => h0 (COL.out.1 h).1
                  have e0 : decide (t.id < 1) = true := decide_eq_true (by omega)
                  have e0' : decide (t.id ≤ 0) = true := decide_eq_true (by omega)
                  as_aux_lemma =>
                    go_wp2
                    refine wp_region_later (by as_aux_lemma => kernel_rfl) (by as_aux_lemma => kernel_rfl) ?_
                    repeat (go_big_quiet_step (fail))
                    refine wpQuiet_nil ?_
                    intro s1
                    go_wp2
                    go_ret
                    exact ⟨RetB.no rfl NN.out, (BS.out s1).2.2⟩
              · have hA : Hid (∀ i, i < c.tabs.length → TblAt c i) := fun i hi => HA.out i (by omega)
                have hown0 : OwnL rInt (fun b => w1.heap.size ≤ b) w1.heap.size 3 wr u3 (c.tabs.map TabD.id ++ (c.idxs.take 0).map IdxD.id) := by
                  rw [List.take_of_length_le (by omega)] at hown
                  simpa using hown
                clear HA
                go_wp2
                go_loopw [3, 7] (fun v j wr => ∃ k : Nat, k ≤ c.idxs.length ∧ j = .int .i64 (k : Int) ∧ Below w1.heap.size w1 wr ∧ w1.heap.size ≤ wr.heap.size ∧ OwnL rInt (fun b => w1.heap.size ≤ b) w1.heap.size 3 wr v (c.tabs.map TabD.id ++ (c.idxs.take k).map IdxD.id) ∧ Hid (∀ i, i < k → IdxAt c i)) (fun _ j _ => c.idxs.length - (intOf j).toNat)
                case atStart => exact ⟨0, by omega, rfl, hb, hz, hown0, fun _ h => absurd h (by omega)⟩
                case round =>
                  clear hb hz hown0 hown a2 kcw hBw
                  clear hlt hk
                  obtain ⟨k, hk, rfl, hb, hz, hown, HA⟩ := hrel
                  have hBw := hb1.trans (hb.mono hb1.size)
                  have kcw := kc.below hb kc.lt
                  have a3 : wr.cell? ⟨w.heap.size, 3, none⟩ = some (.slice A3 c.idxs.length n3) := kcw.cell 3
                  by_cases hlt : k < c.idxs.length
                  · obtain ⟨b0, off0, c0', cs0, hv0, _, ⟨xa, rfl, hX⟩, hcell0⟩ := (hc.idxs.below hBw).at_ hlt
                    simp only [Value.slice.injEq, true_and] at hv0
                    obtain ⟨rfl, rfl⟩ := hv0
                    obtain ⟨Ax, nx, rfl, _, _⟩ := hX.cols.form
                    have r0 := hcell0 0 _ rfl
                    have r1 := hcell0 1 _ rfl
                    have r2 := hcell0 2 _ rfl
                    have r3 := hcell0 3 _ rfl
                    have r4 := hcell0 4 _ rfl
                    have r5 := hcell0 5 _ rfl
                    have r6 := hcell0 6 _ rfl
                    simp only [Nat.add_zero, show rIdx.sz = 7 from rfl] at r0 r1 r2 r3 r4 r5 r6
                    clear hcell0
                    have NO : Hid (¬ IdxAt c k → ¬ CatOk c) := fun h hp => h (hp.2.2.2.2.2.2 k hlt)
                    have YES : Hid (IdxAt c k → ∀ i, i < k + 1 → IdxAt c i) := fun h i hi => by
                      rcases Nat.lt_or_ge i k with g | g
                      · exact HA.out i g
                      · obtain rfl : i = k := by omega
                        exact h
                    have COL : Hid (IdxAt c k ↔ (1 ≤ c.idxs[k].id ∧ c.idxs[k].id < c.next ∧ c.idxs[k].id ∉ c.tabs.map TabD.id ++ (c.idxs.take k).map IdxD.id ∧ (∀ p (hp : p + 1 = k) (hpl : p < c.idxs.length), c.idxs[p].id < c.idxs[k].id) ∧
                      (∃ t, c.tabs.find? (fun t => t.id == c.idxs[k].table) = some t ∧ PlacesOk c.idxs[k].cols t.cols.length) ∧ NameOk c.idxs[k].name ∧ 1 ≤ c.idxs[k].state ∧ c.idxs[k].state ≤ 7 ∧ ∀ i (hi : i < k), c.idxs[i].name ≠ c.idxs[k].name)) := ⟨fun ⟨_, h⟩ => h, fun h => ⟨hlt, h⟩⟩
                    have HIDS : Hid (c.tabs.map TabD.id ++ (c.idxs.take (k + 1)).map IdxD.id = (c.tabs.map TabD.id ++ (c.idxs.take k).map IdxD.id) ++ [c.idxs[k].id]) := by unfold Hid; rw [List.take_succ_eq_append_getElem hlt, List.map_append, List.append_assoc]; rfl
                    obtain ⟨ids, hids⟩ : ∃ l, l = c.tabs.map TabD.id ++ (c.idxs.take k).map IdxD.id := ⟨_, rfl⟩
                    have hidl : ids.length ≤ 16 := by have h1 := HL.out; rw [hids]; simp; omega
                    rw [← hids] at hown COL HIDS
                    clear hids
                    obtain ⟨Ai, ci, rfl, hci⟩ := hown.form
                    obtain ⟨x, hcD⟩ : ∃ d, d = c.idxs[k] := ⟨_, rfl⟩
                    rw [← hcD] at r0 r1 r2 r4 r5 r6 hX COL HIDS
                    rw [← hcD] at r3
                    clear hcD
                    go_upto_region 20 with fail
                    refine name_world (fun w5 => Below wr.heap.size wr w5 ∧ wr.heap.size + 1 ≤ w5.heap.size ∧ Blk w5 wr.heap.size 27 (idxCs x (.slice Ax x.cols.length nx)))
                      ⟨(Below.refl _ _).alloc (Nat.le_refl _) _, by simp, Blk.new wr _ _⟩ ?_
                    rintro w5 ⟨hb5, hz5, kx⟩
                    have hB5 := hb.trans (hb5.mono hz)
                    have hB5w := hBw.trans (hb5.mono hBw.size)
                    have kc5 := kcw.below hb5 kcw.lt
                    have hX5 := hX.below hb5
                    have hown5 := hown.below hb5
                    have hz5' : w1.heap.size ≤ w5.heap.size := by omega
                    clear a3 r0 r1 r2 r3 r4 r5 r6 kcw hb5 hb hBw hX hown
                    generalize wr.heap.size = g at *
                    clear hz5 hz
                    have n0 : w5.cell? ⟨w.heap.size, 0, none⟩ = some (.int .i64 c.ver) := kc5.cell 0
                    have n1 : w5.cell? ⟨w.heap.size, 1, none⟩ = some (.int .i64 c.next) := kc5.cell 1
                    have n2 : w5.cell? ⟨w.heap.size, 2, none⟩ = some (.slice A c.tabs.length n) := kc5.cell 2
                    have n3_ : w5.cell? ⟨w.heap.size, 3, none⟩ = some (.slice (some ⟨b0, off0, none⟩) c.idxs.length n3) := kc5.cell 3
                    have n4 : w5.cell? ⟨g, 1, none⟩ = some (.int .i64 x.table) := kx.cell 1
                    go_wp2_with fail
                    refine (byID_any c _ _ x.table _ (hc.below hB5w)).mono ?_
                    rintro e w6 ⟨⟨t, ta, tb, bb, rfl, hT, hfind⟩, hb6⟩
                    obtain ⟨At, nt, rfl, _, _⟩ := hT.cols.form
                    obtain ⟨Ak, nk, rfl, _, _⟩ := hT.key.form
                    have HF : Hid ((bb = true → c.tabs.find? (fun t => t.id == x.table) = some t) ∧ (bb = false → c.tabs.find? (fun t => t.id == x.table) = none)) := by
                      rcases hfind with ⟨h1, h2⟩ | ⟨h1, h2, _⟩
                      · exact ⟨fun _ => h2, fun h => by rw [h1] at h; cases h⟩
                      · exact ⟨fun h => (by rw [h1] at h; cases h), fun _ => h2⟩
                    clear hfind hT n0 n1 n2 n3_ n4
                    simp only [tabCs]
                    go_upto_region 21 with fail
                    refine name_world (fun w7 => Below w6.heap.size w6 w7 ∧ Blk w7 w6.heap.size 25 (tabCs t (.slice At t.cols.length nt) (.slice Ak t.key.length nk)))
                      ⟨(Below.refl _ _).alloc (Nat.le_refl _) _, Blk.new w6 _ _⟩ ?_
                    rintro w7 ⟨hb7, kt⟩
                    have hb67 := hb6.trans (hb7.mono hb6.size)
                    have hB7 := hB5.trans (hb67.mono hz5')
                    have hB7w := hB5w.trans (hb67.mono hB5w.size)
                    have kc7 := kc5.below hb67 kc5.lt
                    have kx7 := kx.below hb67 kx.lt
                    have hX7 := hX5.below hb67
                    have hown7 := hown5.below hb67
                    have hz7' : w1.heap.size ≤ w7.heap.size := by have := hb67.size; omega
                    clear hb67 hb6 hb7 hB5 hB5w kc5 kx hX5 hown5 hz5'
                    generalize w6.heap.size = g6 at *
                    have m0 : ∀ s : Later w7, s.val.cell? ⟨g, 0, none⟩ = some (.int .i64 x.id) := kx7.later rfl
                    have m2 : ∀ s : Later w7, s.val.cell? ⟨g, 2, none⟩ = some (.string x.name) := kx7.later rfl
                    have m3 : ∀ s : Later w7, s.val.cell? ⟨g, 3, none⟩ = some (.slice Ax x.cols.length nx) := kx7.later rfl
                    have m5 : ∀ s : Later w7, s.val.cell? ⟨g, 5, none⟩ = some (.int .i64 x.state) := kx7.later rfl
                    have t2 : ∀ s : Later w7, s.val.cell? ⟨g6, 2, none⟩ = some (.slice At t.cols.length nt) := kt.later rfl
                    have n1 : ∀ s : Later w7, s.val.cell? ⟨w.heap.size, 1, none⟩ = some (.int .i64 c.next) := kc7.later rfl
                    have n3_ : ∀ s : Later w7, s.val.cell? ⟨w.heap.size, 3, none⟩ = some (.slice (some ⟨b0, off0, none⟩) c.idxs.length n3) := kc7.later rfl
                    have BS : Hid (∀ s : Later w7, Below w1.heap.size w1 s.val ∧ w1.heap.size ≤ s.val.heap.size ∧ Below w.heap.size w s.val) := fun s => ⟨hB7.trans (s.below.mono hz7'), by have := s.below.size; omega, hB7w.trans (s.below.mono hB7w.size)⟩
                    have IDS : Hid (∀ s : Later w7, RSl rInt (fun _ => True) s.val (.slice Ai ids.length ci) ids) := fun s => (hown7.below s.below).rsl (by decide) (by show _ * 8 ≤ _; omega) (fun _ _ => trivial) (fun _ _ => trivial)
                    by_cases h0 : 1 ≤ x.id
                    · have e0 : decide (x.id < 1) = false := decide_eq_false (by omega)
                      have e0' : decide (x.id ≤ 0) = false := decide_eq_false (by omega)
                      by_cases h1 : x.id < c.next
                      · have e1 : decide (c.next ≤ x.id) = false := decide_eq_false (by omega)
                        by_cases h2 : x.id ∈ ids
                        · have NN : Hid (¬ CatOk c) := NO.out fun h => (COL.out.1 h).2.2.1 h2
                          have HIN : Hid (x.id ∈ ids) := h2
                          clear h2
                          as_aux_lemma =>
                            go_wp2
                            refine wp_region_later (by as_aux_lemma => kernel_rfl) (by as_aux_lemma => kernel_rfl) ?_
                            repeat (go_big_quiet_step ((go_at_call 32; exact Later.call (inInt_b _ _ _ true _ (IDS.out _) (iff_of_true rfl HIN.out)))))
                            refine wpQuiet_nil ?_
                            intro s1
                            go_wp2
                            go_ret
                            exact ⟨RetB.no rfl NN.out, (BS.out s1).2.2⟩
                        · have HIN : Hid (x.id ∉ ids) := h2
                          have HH : Hid (1 ≤ x.id ∧ x.id < c.next ∧ x.id ∉ ids) := ⟨h0, h1, h2⟩
                          clear h0 h1 h2
                          rcases Nat.eq_zero_or_pos k with hk0 | hkp
                          · have f0 : decide ((0 : Int) < k) = false := decide_eq_false (by omega)
                            have f0' : decide (0 < k) = false := decide_eq_false (by omega)
                            have HD : Hid (∀ p (hp : p + 1 = k) (hpl : p < c.idxs.length), c.idxs[p].id < x.id) := fun p hp => absurd hp (by omega)
                            clear hk0
                            cases bb
                            · have NN : Hid (¬ CatOk c) := NO.out fun h => by obtain ⟨t', ht', _⟩ := (COL.out.1 h).2.2.2.2.1; rw [HF.out.2 rfl] at ht'; cases ht'
                              as_aux_lemma =>
                                go_wp2
                                refine wp_region_later (by as_aux_lemma => kernel_rfl) (by as_aux_lemma => kernel_rfl) ?_
                                repeat (go_big_quiet_step ((go_at_call 32; exact Later.call (inInt_b _ _ _ false _ (IDS.out _) (iff_of_false Bool.false_ne_true HIN.out)))))
                                refine wpQuiet_nil ?_
                                intro s1
                                go_wp2
                                go_ret
                                exact ⟨RetB.no rfl NN.out, (BS.out s1).2.2⟩
                            · by_cases h5 : NameOk x.name
                              · have HNM : Hid (NameOk x.name) := h5
                                clear h5
                                by_cases h6 : PlacesOk x.cols t.cols.length
                                · have HPL : Hid (PlacesOk x.cols t.cols.length) := h6
                                  clear h6
                                  by_cases h7 : 1 ≤ x.state
                                  · have s0 : decide (x.state < 1) = false := decide_eq_false (by omega)
                                    have s0' : decide (x.state ≤ 0) = false := decide_eq_false (by omega)
                                    by_cases h8 : x.state ≤ 7
                                    · have s1_ : decide (7 < x.state) = false := decide_eq_false (by omega)
                                      have HS : Hid (1 ≤ x.state ∧ x.state ≤ 7) := ⟨h7, h8⟩
                                      clear h7 h8
                                      as_aux_lemma =>
                                        go_wp2
                                        refine wp_region_later (by as_aux_lemma => kernel_rfl) (by as_aux_lemma => kernel_rfl) ?_
                                        repeat (go_big_quiet_step ((first | (go_at_call 32; exact Later.call (inInt_b _ _ _ false _ (IDS.out _) (iff_of_false Bool.false_ne_true HIN.out))) | (go_at_call 35; exact Later.call (nameOk_b x.name _ hX7.nm true (iff_of_true rfl HNM.out))) | (go_at_call 36; exact Later.call (places_b _ x.cols t.cols.length _ (hX7.cols.below (Later.below _)) true (iff_of_true rfl HPL.out))))))
                                        refine wpQuiet_nil ?_
                                        intro s1
                                        have hbs := (BS.out s1).1
                                        have hzs := (BS.out s1).2.1
                                        have hbsw := (BS.out s1).2.2
                                        have kxs := kx7.below s1.below kx7.lt
                                        have kcs := kc7.below s1.below kc7.lt
                                        have hos := hown7.below s1.below
                                        have hXid := hX7.id
                                        clear m0 m2 m3 m5 t2 n1 n3_ IDS hX7 hown7 kx7 kc7 kt
                                        obtain ⟨w8, hw8⟩ : ∃ w8, w8 = s1.val := ⟨_, rfl⟩
                                        rw [← hw8] at hbs hzs hbsw kxs kcs hos ⊢
                                        clear hw8
                                        go_wp2
                                        go_loopw [11] (fun j wr => ∃ q : Nat, q ≤ k ∧ j = .int .i64 (q : Int) ∧ Below w8.heap.size w8 wr ∧ w8.heap.size ≤ wr.heap.size ∧ Hid (∀ i (h : i < c.idxs.length), i < q → c.idxs[i].name ≠ x.name)) (fun j _ => k - (intOf j).toNat)
                                        case atStart => exact ⟨0, by omega, rfl, Below.refl _ _, Nat.le_refl _, fun _ _ h => absurd h (by omega)⟩
                                        case round =>
                                          obtain ⟨q, hq, rfl, hb6, hz6, HB⟩ := hrel
                                          have hB6 := hbs.trans (hb6.mono hzs)
                                          have hB6w := hbsw.trans (hb6.mono hbsw.size)
                                          have kx6 := kxs.below hb6 kxs.lt
                                          have kc6 := kcs.below hb6 kcs.lt
                                          have hz6' : w1.heap.size ≤ wr.heap.size := by omega
                                          by_cases hlt2 : q < k
                                          · have hqc : q < c.idxs.length := by omega
                                            obtain ⟨b1, off1, c1', cs1, hv1, _, ⟨xa2, rfl, _⟩, hcell1⟩ := (hc.idxs.below hB6w).at_ hqc
                                            simp only [Value.slice.injEq, Option.some.injEq, Addr.mk.injEq, true_and, and_true] at hv1
                                            obtain ⟨⟨rfl, rfl⟩, rfl⟩ := hv1
                                            have r0 := hcell1 2 _ rfl
                                            simp only [show rIdx.sz = 7 from rfl] at r0
                                            clear hcell1
                                            have HQ : Hid (c.idxs[q].name = x.name → ¬ CatOk c) := fun h => NO.out fun hc => (COL.out.1 hc).2.2.2.2.2.2.2.2 q hlt2 h
                                            have HB2 : Hid (c.idxs[q].name ≠ x.name → ∀ i (h : i < c.idxs.length), i < q + 1 → c.idxs[i].name ≠ x.name) := fun h i hi hi2 => by
                                              rcases Nat.lt_or_ge i q with g | g
                                              · exact HB.out i hi g
                                              · obtain rfl : i = q := by omega
                                                exact h
                                            obtain ⟨nm, hnm2⟩ : ∃ n, n = c.idxs[q].name := ⟨_, rfl⟩
                                            rw [← hnm2] at r0 HQ HB2
                                            clear hnm2
                                            have l0 := Later.cell r0
                                            have l1 : ∀ s : Later wr, s.val.cell? ⟨w.heap.size, 3, none⟩ = some (.slice (some ⟨b0, off0, none⟩) c.idxs.length n3) := kc6.later rfl
                                            have l2 : ∀ s : Later wr, s.val.cell? ⟨g, 2, none⟩ = some (.string x.name) := kx6.later rfl
                                            have BS2 : Hid (∀ s : Later wr, Below w8.heap.size w8 s.val ∧ w8.heap.size ≤ s.val.heap.size ∧ Below w.heap.size w s.val) := fun s => ⟨hb6.trans (s.below.mono hz6), by have := s.below.size; omega, hB6w.trans (s.below.mono hB6w.size)⟩
                                            by_cases he : nm = x.name
                                            · have e0 : (nm.toList == x.name.toList) = true := by simp [he]
                                              have NN := Lib.hid (HQ.out he)
                                              clear he
                                              go_wp2
                                              refine wp_region_later (by as_aux_lemma => kernel_rfl) (by as_aux_lemma => kernel_rfl) ?_
                                              repeat (go_big_quiet_step (fail))
                                              refine wpQuiet_nil ?_
                                              intro s2
                                              go_wp2
                                              go_ret
                                              exact ⟨RetB.no rfl NN.out, (BS2.out s2).2.2⟩
                                            · have e0 : (nm.toList == x.name.toList) = false := strNe he
                                              have YY := Lib.hid (HB2.out he)
                                              clear he
                                              go_wp2
                                              refine wp_region_later (by as_aux_lemma => kernel_rfl) (by as_aux_lemma => kernel_rfl) ?_
                                              repeat (go_big_quiet_step (fail))
                                              refine wpQuiet_nil ?_
                                              intro s2
                                              have hbs2 := (BS2.out s2).1
                                              have hzs2 := (BS2.out s2).2.1
                                              go_wp2
                                              go_roundw
                                              case rel => exact ⟨q + 1, by omega, by go_num, hbs2, hzs2, YY.out⟩
                                              case measure => simp [intOf]; omega
                                          · have YY : Hid (∀ i, i < k + 1 → IdxAt c i) := YES.out (COL.out.2 ⟨HH.out.1, HH.out.2.1, HH.out.2.2, HD.out, ⟨t, (by have h := HF.out.1; simpa using h), HPL.out⟩, HNM.out, HS.out.1, HS.out.2, fun i hi => HB.out i (by omega) (by omega)⟩)
                                            have l2 : wr.cell? ⟨g, 0, none⟩ = some (.int .i64 x.id) := kx6.cell 0
                                            have ho6 := hos.below hb6
                                            go_wp2_with (at_builtin; go_loud (refine wp_app1 (E := rInt) (okd := fun b => w1.heap.size ≤ b) Tryd.rowInt (by decide) rfl _ _ rfl _ ids wr _ x.id rfl ho6 rfl ⟨rfl, hXid⟩ (by show (_ + 1) * 8 ≤ _; omega) (by omega) hz6' ?_); intro v' w' hown2 hk2 _)
                                            have hbn := hB6.trans (ho6.bel hk2 hz6')
                                            have hzn : w1.heap.size ≤ w'.heap.size := Nat.le_trans hz6' (ho6.bel hk2 hz6').size
                                            go_roundw
                                            case rel => exact ⟨k + 1, by omega, by go_num, hbn, hzn, by rw [HIDS.out]; exact hown2, YY.out⟩
                                            case measure => simp [intOf]; omega
                                    · have s1_ : decide (7 < x.state) = true := decide_eq_true (by omega)
                                      have NN : Hid (¬ CatOk c) := NO.out fun h => h8 (COL.out.1 h).2.2.2.2.2.2.2.1
                                      clear h7 h8
                                      as_aux_lemma =>
                                        go_wp2
                                        refine wp_region_later (by as_aux_lemma => kernel_rfl) (by as_aux_lemma => kernel_rfl) ?_
                                        repeat (go_big_quiet_step ((first | (go_at_call 32; exact Later.call (inInt_b _ _ _ false _ (IDS.out _) (iff_of_false Bool.false_ne_true HIN.out))) | (go_at_call 35; exact Later.call (nameOk_b x.name _ hX7.nm true (iff_of_true rfl HNM.out))) | (go_at_call 36; exact Later.call (places_b _ x.cols t.cols.length _ (hX7.cols.below (Later.below _)) true (iff_of_true rfl HPL.out))))))
                                        refine wpQuiet_nil ?_
                                        intro s1
                                        go_wp2
                                        go_ret
                                        exact ⟨RetB.no rfl NN.out, (BS.out s1).2.2⟩
                                  · have s0 : decide (x.state < 1) = true := decide_eq_true (by omega)
                                    have s0' : decide (x.state ≤ 0) = true := decide_eq_true (by omega)
                                    have NN : Hid (¬ CatOk c) := NO.out fun h => h7 (COL.out.1 h).2.2.2.2.2.2.1
                                    clear h7
                                    as_aux_lemma =>
                                      go_wp2
                                      refine wp_region_later (by as_aux_lemma => kernel_rfl) (by as_aux_lemma => kernel_rfl) ?_
                                      repeat (go_big_quiet_step ((first | (go_at_call 32; exact Later.call (inInt_b _ _ _ false _ (IDS.out _) (iff_of_false Bool.false_ne_true HIN.out))) | (go_at_call 35; exact Later.call (nameOk_b x.name _ hX7.nm true (iff_of_true rfl HNM.out))) | (go_at_call 36; exact Later.call (places_b _ x.cols t.cols.length _ (hX7.cols.below (Later.below _)) true (iff_of_true rfl HPL.out))))))
                                      refine wpQuiet_nil ?_
                                      intro s1
                                      go_wp2
                                      go_ret
                                      exact ⟨RetB.no rfl NN.out, (BS.out s1).2.2⟩
                                · have HPL : Hid (¬ PlacesOk x.cols t.cols.length) := h6
                                  have NN : Hid (¬ CatOk c) := NO.out fun h => by obtain ⟨t', ht', hp⟩ := (COL.out.1 h).2.2.2.2.1; rw [HF.out.1 rfl] at ht'; cases ht'; exact h6 hp
                                  clear h6
                                  as_aux_lemma =>
                                    go_wp2
                                    refine wp_region_later (by as_aux_lemma => kernel_rfl) (by as_aux_lemma => kernel_rfl) ?_
                                    repeat (go_big_quiet_step ((first | (go_at_call 32; exact Later.call (inInt_b _ _ _ false _ (IDS.out _) (iff_of_false Bool.false_ne_true HIN.out))) | (go_at_call 35; exact Later.call (nameOk_b x.name _ hX7.nm true (iff_of_true rfl HNM.out))) | (go_at_call 36; exact Later.call (places_b _ x.cols t.cols.length _ (hX7.cols.below (Later.below _)) false (iff_of_false Bool.false_ne_true HPL.out))))))
                                    refine wpQuiet_nil ?_
                                    intro s1
                                    go_wp2
                                    go_ret
                                    exact ⟨RetB.no rfl NN.out, (BS.out s1).2.2⟩
                              · have HNM : Hid (¬ NameOk x.name) := h5
                                have NN : Hid (¬ CatOk c) := NO.out fun h => h5 (COL.out.1 h).2.2.2.2.2.1
                                clear h5
                                as_aux_lemma =>
                                  go_wp2
                                  refine wp_region_later (by as_aux_lemma => kernel_rfl) (by as_aux_lemma => kernel_rfl) ?_
                                  repeat (go_big_quiet_step ((first | (go_at_call 32; exact Later.call (inInt_b _ _ _ false _ (IDS.out _) (iff_of_false Bool.false_ne_true HIN.out))) | (go_at_call 35; exact Later.call (nameOk_b x.name _ hX7.nm false (iff_of_false Bool.false_ne_true HNM.out))))))
                                  refine wpQuiet_nil ?_
                                  intro s1
                                  go_wp2
                                  go_ret
                                  exact ⟨RetB.no rfl NN.out, (BS.out s1).2.2⟩
                          · have f0 : decide ((0 : Int) < k) = true := decide_eq_true (by omega)
                            have f0' : decide (0 < k) = true := decide_eq_true (by omega)
                            obtain ⟨p, rfl⟩ : ∃ p, k = p + 1 := ⟨k - 1, by omega⟩
                            have hpc : p < c.idxs.length := by omega
                            obtain ⟨b1, off1, c1', cs1, hv1, _, ⟨xa2, rfl, _⟩, hcell1⟩ := (hc.idxs.below hB7w).at_ hpc
                            simp only [Value.slice.injEq, Option.some.injEq, Addr.mk.injEq, true_and, and_true] at hv1
                            obtain ⟨⟨rfl, rfl⟩, rfl⟩ := hv1
                            have r0 := hcell1 0 _ rfl
                            simp only [Nat.add_zero, show rIdx.sz = 7 from rfl] at r0
                            clear hcell1
                            have PR : Hid ((c.idxs[p].id < x.id) ↔ ∀ p' (hp : p' + 1 = p + 1) (hpl : p' < c.idxs.length), c.idxs[p'].id < x.id) := ⟨fun h p' hp hpl => by obtain rfl : p' = p := Nat.succ.inj hp; exact h, fun h => h p rfl hpc⟩
                            obtain ⟨pid, hpid⟩ : ∃ i, i = c.idxs[p].id := ⟨_, rfl⟩
                            rw [← hpid] at r0 PR
                            clear hpid
                            have l0 := Later.cell r0
                            clear r0
                            by_cases h4 : pid < x.id
                            · have f1 : decide (x.id ≤ pid) = false := decide_eq_false (by omega)
                              have HD := Lib.hid (PR.out.1 h4)
                              clear h4
                              cases bb
                              · have NN : Hid (¬ CatOk c) := NO.out fun h => by obtain ⟨t', ht', _⟩ := (COL.out.1 h).2.2.2.2.1; rw [HF.out.2 rfl] at ht'; cases ht'
                                as_aux_lemma =>
                                  go_wp2
                                  refine wp_region_later (by as_aux_lemma => kernel_rfl) (by as_aux_lemma => kernel_rfl) ?_
                                  repeat (go_big_quiet_step ((go_at_call 32; exact Later.call (inInt_b _ _ _ false _ (IDS.out _) (iff_of_false Bool.false_ne_true HIN.out)))))
                                  refine wpQuiet_nil ?_
                                  intro s1
                                  go_wp2
                                  go_ret
                                  exact ⟨RetB.no rfl NN.out, (BS.out s1).2.2⟩
                              · by_cases h5 : NameOk x.name
                                · have HNM : Hid (NameOk x.name) := h5
                                  clear h5
                                  by_cases h6 : PlacesOk x.cols t.cols.length
                                  · have HPL : Hid (PlacesOk x.cols t.cols.length) := h6
                                    clear h6
                                    by_cases h7 : 1 ≤ x.state
                                    · have s0 : decide (x.state < 1) = false := decide_eq_false (by omega)
                                      have s0' : decide (x.state ≤ 0) = false := decide_eq_false (by omega)
                                      by_cases h8 : x.state ≤ 7
                                      · have s1_ : decide (7 < x.state) = false := decide_eq_false (by omega)
                                        have HS : Hid (1 ≤ x.state ∧ x.state ≤ 7) := ⟨h7, h8⟩
                                        clear h7 h8
                                        as_aux_lemma =>
                                          go_wp2
                                          refine wp_region_later (by as_aux_lemma => kernel_rfl) (by as_aux_lemma => kernel_rfl) ?_
                                          repeat (go_big_quiet_step ((first | (go_at_call 32; exact Later.call (inInt_b _ _ _ false _ (IDS.out _) (iff_of_false Bool.false_ne_true HIN.out))) | (go_at_call 35; exact Later.call (nameOk_b x.name _ hX7.nm true (iff_of_true rfl HNM.out))) | (go_at_call 36; exact Later.call (places_b _ x.cols t.cols.length _ (hX7.cols.below (Later.below _)) true (iff_of_true rfl HPL.out))))))
                                          refine wpQuiet_nil ?_
                                          intro s1
                                          have hbs := (BS.out s1).1
                                          have hzs := (BS.out s1).2.1
                                          have hbsw := (BS.out s1).2.2
                                          have kxs := kx7.below s1.below kx7.lt
                                          have kcs := kc7.below s1.below kc7.lt
                                          have hos := hown7.below s1.below
                                          have hXid := hX7.id
                                          clear m0 m2 m3 m5 t2 n1 n3_ IDS hX7 hown7 kx7 kc7 kt
                                          obtain ⟨w8, hw8⟩ : ∃ w8, w8 = s1.val := ⟨_, rfl⟩
                                          rw [← hw8] at hbs hzs hbsw kxs kcs hos ⊢
                                          clear hw8
                                          go_wp2
                                          go_loopw [11] (fun j wr => ∃ q : Nat, q ≤ (p + 1) ∧ j = .int .i64 (q : Int) ∧ Below w8.heap.size w8 wr ∧ w8.heap.size ≤ wr.heap.size ∧ Hid (∀ i (h : i < c.idxs.length), i < q → c.idxs[i].name ≠ x.name)) (fun j _ => (p + 1) - (intOf j).toNat)
                                          case atStart => exact ⟨0, by omega, rfl, Below.refl _ _, Nat.le_refl _, fun _ _ h => absurd h (by omega)⟩
                                          case round =>
                                            obtain ⟨q, hq, rfl, hb6, hz6, HB⟩ := hrel
                                            have hB6 := hbs.trans (hb6.mono hzs)
                                            have hB6w := hbsw.trans (hb6.mono hbsw.size)
                                            have kx6 := kxs.below hb6 kxs.lt
                                            have kc6 := kcs.below hb6 kcs.lt
                                            have hz6' : w1.heap.size ≤ wr.heap.size := by omega
                                            by_cases hlt2 : q < (p + 1)
                                            · have hqc : q < c.idxs.length := by omega
                                              obtain ⟨b1, off1, c1', cs1, hv1, _, ⟨xa2, rfl, _⟩, hcell1⟩ := (hc.idxs.below hB6w).at_ hqc
                                              simp only [Value.slice.injEq, Option.some.injEq, Addr.mk.injEq, true_and, and_true] at hv1
                                              obtain ⟨⟨rfl, rfl⟩, rfl⟩ := hv1
                                              have r0 := hcell1 2 _ rfl
                                              simp only [show rIdx.sz = 7 from rfl] at r0
                                              clear hcell1
                                              have HQ : Hid (c.idxs[q].name = x.name → ¬ CatOk c) := fun h => NO.out fun hc => (COL.out.1 hc).2.2.2.2.2.2.2.2 q hlt2 h
                                              have HB2 : Hid (c.idxs[q].name ≠ x.name → ∀ i (h : i < c.idxs.length), i < q + 1 → c.idxs[i].name ≠ x.name) := fun h i hi hi2 => by
                                                rcases Nat.lt_or_ge i q with g | g
                                                · exact HB.out i hi g
                                                · obtain rfl : i = q := by omega
                                                  exact h
                                              obtain ⟨nm, hnm2⟩ : ∃ n, n = c.idxs[q].name := ⟨_, rfl⟩
                                              rw [← hnm2] at r0 HQ HB2
                                              clear hnm2
                                              have l0 := Later.cell r0
                                              have l1 : ∀ s : Later wr, s.val.cell? ⟨w.heap.size, 3, none⟩ = some (.slice (some ⟨b0, off0, none⟩) c.idxs.length n3) := kc6.later rfl
                                              have l2 : ∀ s : Later wr, s.val.cell? ⟨g, 2, none⟩ = some (.string x.name) := kx6.later rfl
                                              have BS2 : Hid (∀ s : Later wr, Below w8.heap.size w8 s.val ∧ w8.heap.size ≤ s.val.heap.size ∧ Below w.heap.size w s.val) := fun s => ⟨hb6.trans (s.below.mono hz6), by have := s.below.size; omega, hB6w.trans (s.below.mono hB6w.size)⟩
                                              by_cases he : nm = x.name
                                              · have e0 : (nm.toList == x.name.toList) = true := by simp [he]
                                                have NN := Lib.hid (HQ.out he)
                                                clear he
                                                go_wp2
                                                refine wp_region_later (by as_aux_lemma => kernel_rfl) (by as_aux_lemma => kernel_rfl) ?_
                                                repeat (go_big_quiet_step (fail))
                                                refine wpQuiet_nil ?_
                                                intro s2
                                                go_wp2
                                                go_ret
                                                exact ⟨RetB.no rfl NN.out, (BS2.out s2).2.2⟩
                                              · have e0 : (nm.toList == x.name.toList) = false := strNe he
                                                have YY := Lib.hid (HB2.out he)
                                                clear he
                                                go_wp2
                                                refine wp_region_later (by as_aux_lemma => kernel_rfl) (by as_aux_lemma => kernel_rfl) ?_
                                                repeat (go_big_quiet_step (fail))
                                                refine wpQuiet_nil ?_
                                                intro s2
                                                have hbs2 := (BS2.out s2).1
                                                have hzs2 := (BS2.out s2).2.1
                                                go_wp2
                                                go_roundw
                                                case rel => exact ⟨q + 1, by omega, by go_num, hbs2, hzs2, YY.out⟩
                                                case measure => simp [intOf]; omega
                                            · have YY : Hid (∀ i, i < (p + 1) + 1 → IdxAt c i) := YES.out (COL.out.2 ⟨HH.out.1, HH.out.2.1, HH.out.2.2, HD.out, ⟨t, (by have h := HF.out.1; simpa using h), HPL.out⟩, HNM.out, HS.out.1, HS.out.2, fun i hi => HB.out i (by omega) (by omega)⟩)
                                              have l2 : wr.cell? ⟨g, 0, none⟩ = some (.int .i64 x.id) := kx6.cell 0
                                              have ho6 := hos.below hb6
                                              go_wp2_with (at_builtin; go_loud (refine wp_app1 (E := rInt) (okd := fun b => w1.heap.size ≤ b) Tryd.rowInt (by decide) rfl _ _ rfl _ ids wr _ x.id rfl ho6 rfl ⟨rfl, hXid⟩ (by show (_ + 1) * 8 ≤ _; omega) (by omega) hz6' ?_); intro v' w' hown2 hk2 _)
                                              have hbn := hB6.trans (ho6.bel hk2 hz6')
                                              have hzn : w1.heap.size ≤ w'.heap.size := Nat.le_trans hz6' (ho6.bel hk2 hz6').size
                                              go_roundw
                                              case rel => exact ⟨(p + 1) + 1, by omega, by go_num, hbn, hzn, by rw [HIDS.out]; exact hown2, YY.out⟩
                                              case measure => simp [intOf]; omega
                                      · have s1_ : decide (7 < x.state) = true := decide_eq_true (by omega)
                                        have NN : Hid (¬ CatOk c) := NO.out fun h => h8 (COL.out.1 h).2.2.2.2.2.2.2.1
                                        clear h7 h8
                                        as_aux_lemma =>
                                          go_wp2
                                          refine wp_region_later (by as_aux_lemma => kernel_rfl) (by as_aux_lemma => kernel_rfl) ?_
                                          repeat (go_big_quiet_step ((first | (go_at_call 32; exact Later.call (inInt_b _ _ _ false _ (IDS.out _) (iff_of_false Bool.false_ne_true HIN.out))) | (go_at_call 35; exact Later.call (nameOk_b x.name _ hX7.nm true (iff_of_true rfl HNM.out))) | (go_at_call 36; exact Later.call (places_b _ x.cols t.cols.length _ (hX7.cols.below (Later.below _)) true (iff_of_true rfl HPL.out))))))
                                          refine wpQuiet_nil ?_
                                          intro s1
                                          go_wp2
                                          go_ret
                                          exact ⟨RetB.no rfl NN.out, (BS.out s1).2.2⟩
                                    · have s0 : decide (x.state < 1) = true := decide_eq_true (by omega)
                                      have s0' : decide (x.state ≤ 0) = true := decide_eq_true (by omega)
                                      have NN : Hid (¬ CatOk c) := NO.out fun h => h7 (COL.out.1 h).2.2.2.2.2.2.1
                                      clear h7
                                      as_aux_lemma =>
                                        go_wp2
                                        refine wp_region_later (by as_aux_lemma => kernel_rfl) (by as_aux_lemma => kernel_rfl) ?_
                                        repeat (go_big_quiet_step ((first | (go_at_call 32; exact Later.call (inInt_b _ _ _ false _ (IDS.out _) (iff_of_false Bool.false_ne_true HIN.out))) | (go_at_call 35; exact Later.call (nameOk_b x.name _ hX7.nm true (iff_of_true rfl HNM.out))) | (go_at_call 36; exact Later.call (places_b _ x.cols t.cols.length _ (hX7.cols.below (Later.below _)) true (iff_of_true rfl HPL.out))))))
                                        refine wpQuiet_nil ?_
                                        intro s1
                                        go_wp2
                                        go_ret
                                        exact ⟨RetB.no rfl NN.out, (BS.out s1).2.2⟩
                                  · have HPL : Hid (¬ PlacesOk x.cols t.cols.length) := h6
                                    have NN : Hid (¬ CatOk c) := NO.out fun h => by obtain ⟨t', ht', hp⟩ := (COL.out.1 h).2.2.2.2.1; rw [HF.out.1 rfl] at ht'; cases ht'; exact h6 hp
                                    clear h6
                                    as_aux_lemma =>
                                      go_wp2
                                      refine wp_region_later (by as_aux_lemma => kernel_rfl) (by as_aux_lemma => kernel_rfl) ?_
                                      repeat (go_big_quiet_step ((first | (go_at_call 32; exact Later.call (inInt_b _ _ _ false _ (IDS.out _) (iff_of_false Bool.false_ne_true HIN.out))) | (go_at_call 35; exact Later.call (nameOk_b x.name _ hX7.nm true (iff_of_true rfl HNM.out))) | (go_at_call 36; exact Later.call (places_b _ x.cols t.cols.length _ (hX7.cols.below (Later.below _)) false (iff_of_false Bool.false_ne_true HPL.out))))))
                                      refine wpQuiet_nil ?_
                                      intro s1
                                      go_wp2
                                      go_ret
                                      exact ⟨RetB.no rfl NN.out, (BS.out s1).2.2⟩
                                · have HNM : Hid (¬ NameOk x.name) := h5
                                  have NN : Hid (¬ CatOk c) := NO.out fun h => h5 (COL.out.1 h).2.2.2.2.2.1
                                  clear h5
                                  as_aux_lemma =>
                                    go_wp2
                                    refine wp_region_later (by as_aux_lemma => kernel_rfl) (by as_aux_lemma => kernel_rfl) ?_
                                    repeat (go_big_quiet_step ((first | (go_at_call 32; exact Later.call (inInt_b _ _ _ false _ (IDS.out _) (iff_of_false Bool.false_ne_true HIN.out))) | (go_at_call 35; exact Later.call (nameOk_b x.name _ hX7.nm false (iff_of_false Bool.false_ne_true HNM.out))))))
                                    refine wpQuiet_nil ?_
                                    intro s1
                                    go_wp2
                                    go_ret
                                    exact ⟨RetB.no rfl NN.out, (BS.out s1).2.2⟩
                            · have f1 : decide (x.id ≤ pid) = true := decide_eq_true (by omega)
                              have NN : Hid (¬ CatOk c) := NO.out fun h => h4 (PR.out.2 (COL.out.1 h).2.2.2.1)
                              clear h4
                              as_aux_lemma =>
                                go_wp2
                                refine wp_region_later (by as_aux_lemma => kernel_rfl) (by as_aux_lemma => kernel_rfl) ?_
                                repeat (go_big_quiet_step ((go_at_call 32; exact Later.call (inInt_b _ _ _ false _ (IDS.out _) (iff_of_false Bool.false_ne_true HIN.out)))))
                                refine wpQuiet_nil ?_
                                intro s1
                                go_wp2
                                go_ret
                                exact ⟨RetB.no rfl NN.out, (BS.out s1).2.2⟩
                      · have NN : Hid (¬ CatOk c) := NO.out fun h => h1 (COL.out.1 h).2.1
                        have e1 : decide (c.next ≤ x.id) = true := decide_eq_true (by omega)
                        as_aux_lemma =>
                          go_wp2
                          refine wp_region_later (by as_aux_lemma => kernel_rfl) (by as_aux_lemma => kernel_rfl) ?_
                          repeat (go_big_quiet_step (fail))
                          refine wpQuiet_nil ?_
                          intro s1
                          go_wp2
                          go_ret
                          exact ⟨RetB.no rfl NN.out, (BS.out s1).2.2⟩
                    · have NN : Hid (¬ CatOk c) := NO.out fun h => h0 (COL.out.1 h).1
                      have e0 : decide (x.id < 1) = true := decide_eq_true (by omega)
                      have e0' : decide (x.id ≤ 0) = true := decide_eq_true (by omega)
                      as_aux_lemma =>
                        go_wp2
                        refine wp_region_later (by as_aux_lemma => kernel_rfl) (by as_aux_lemma => kernel_rfl) ?_
                        repeat (go_big_quiet_step (fail))
                        refine wpQuiet_nil ?_
                        intro s1
                        go_wp2
                        go_ret
                        exact ⟨RetB.no rfl NN.out, (BS.out s1).2.2⟩
                  · have YY : Hid (CatOk c) := ⟨HL.out.1, HL.out.2.1, HL.out.2.2.1, HL.out.2.2.2.1, HL.out.2.2.2.2, hA.out, fun i hi => HA.out i (by omega)⟩
                    go_wp2
                    go_ret
                    exact ⟨RetB.yes rfl YY.out, hBw⟩
          · have NN : Hid (¬ CatOk c) := fun h => p4 (h.2.2.2.2.1)
            have q4 : decide ((10 : Int) < c.idxs.length) = true := decide_eq_true (by omega)
            have q4' : decide (10 < c.idxs.length) = true := decide_eq_true (by omega)
            go_wp2
            go_ret
            exact ⟨RetB.no rfl NN.out, hb1⟩
        · have NN : Hid (¬ CatOk c) := fun h => p3 (h.2.2.2.1)
          have q3 : decide ((6 : Int) < c.tabs.length) = true := decide_eq_true (by omega)
          have q3' : decide (6 < c.tabs.length) = true := decide_eq_true (by omega)
          go_wp2
          go_ret
          exact ⟨RetB.no rfl NN.out, hb1⟩
      · have NN : Hid (¬ CatOk c) := fun h => p2 (h.2.2.1)
        have q2 : decide (1073741824 < c.next) = true := decide_eq_true (by omega)
        go_wp2
        go_ret
        exact ⟨RetB.no rfl NN.out, hb1⟩
    · have NN : Hid (¬ CatOk c) := fun h => p1 (h.2.1)
      have q1 : decide (c.next < 1) = true := decide_eq_true (by omega)
      go_wp2
      go_ret
      exact ⟨RetB.no rfl NN.out, hb1⟩
  · have NN : Hid (¬ CatOk c) := fun h => p0 (h.1)
    have q0 : decide (c.ver < 0) = true := decide_eq_true (by omega)
    go_wp2
    go_ret
    exact ⟨RetB.no rfl NN.out, hb1⟩
end Go.Proofs.YthjicmdmhmffmaaDoor
