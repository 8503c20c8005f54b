/- RowsOrder's walk. -/
import Derived.Test.YthjicmdmhmffmaaDoorLBack
import Derived.Test.YthjicmdmhmffmaaDoorO1
import Derived.Test.YthjicmdmhmffmaaDoorReg8
import Derived.Test.YthjicmdmhmffmaaDoorD6
namespace Go.Proofs.YthjicmdmhmffmaaDoor
open Go.RowKit

theorem bl_gt : ∀ a b : List UInt8, Op.bytesLess b a = true → Op.bytesLess a b = false ∧ (a == b) = false
  | [], b, h => by cases b <;> simp [Op.bytesLess] at h
  | x :: a, [], _ => ⟨by simp [Op.bytesLess], by simp⟩
  | x :: a, y :: b, h => by
    simp only [Op.bytesLess, Bool.or_eq_true, Bool.and_eq_true, decide_eq_true_eq, beq_iff_eq] at h
    rcases h with h | ⟨rfl, h⟩
    · have h1 : ¬ x < y := fun h2 => by
        have a1 : y.toNat < x.toNat := h
        have a2 : x.toNat < y.toNat := h2
        omega
      have h2 : x ≠ y := fun e => by
        subst e
        have a1 : x.toNat < x.toNat := h
        omega
      exact ⟨by simp [Op.bytesLess, h1, h2], by simp [h2]⟩
    · obtain ⟨h1, h2⟩ := bl_gt a b h
      exact ⟨by simp [Op.bytesLess, h1], by simpa using h2⟩

set_option maxRecDepth 100000 in
set_option maxHeartbeats 12800000 in
theorem lawOrder {ok ok3 ok4 ok5 ok6 ok7 : Nat → Prop} (t : TabD) (x : IdxD) (a b xa v1 v2 v3 v4 : Value) (row other fr ut : List Val) (w : World) (hg : w.cell? ⟨0, 0, none⟩ = some (.iface 104 (.agg #[.pointer (some ⟨1, 65, none⟩)]))) (ht : TabR ok w a b t) (hx : IdxR ok3 w xa x) (hr : RV ok4 w v1 row) (ho : RV ok5 w v2 other) (hf : RV ok6 w v3 fr) (hu : RV ok7 w v4 ut) :
    Calls Tryd.prog 3 #[.agg (tabCs t a b), .agg (idxCs x xa), v1, v2, v3, v4] w fun e w' => e = .returned (.bool true) ∧ Below w.heap.size w w' := by
  obtain ⟨A, c, rfl, _, _⟩ := ht.cols.form
  obtain ⟨A3, c3, rfl, _, _⟩ := ht.key.form
  obtain ⟨A4, c4, rfl, _, hxl⟩ := hx.cols.form
  obtain ⟨A1, c1, rfl, _, _, _, okr, _⟩ := hr.open_
  obtain ⟨A2, c2, rfl, _, _, _, oko, _⟩ := ho.open_
  obtain ⟨A5, c5, rfl, _, _⟩ := hf.form
  obtain ⟨A6, c6, rfl, _, _⟩ := hu.form
  have OK := Lib.hid (And.intro okr oko)
  clear okr oko
  go_enter Tryd.func3, Tryd.ntmps3
  unfold tabCs idxCs
  go_upto_region 1 with fail
  refine name_world (fun w1 => Below w.heap.size w w1 ∧ w.heap.size + 2 ≤ w1.heap.size ∧ Blk w1 w.heap.size 25 (tabCs t (.slice A t.cols.length c) (.slice A3 t.key.length c3)) ∧ Blk w1 (w.heap.size + 1) 27 (idxCs x (.slice A4 x.cols.length c4)))
    ⟨((Below.refl _ _).alloc (Nat.le_refl _) _).alloc (by simp) _, by simp, (Blk.new w _ _).alloc _, Blk.new_ (by simp)⟩ ?_
  rintro w1 ⟨hB1, hz1, kt1, kx1⟩
  go_wp2_with fail
  refine (awakeRow_any _).mono ?_
  rintro e w2 ⟨rfl, hb2⟩
  have hB2 := hB1.trans (hb2.mono hB1.size)
  have kt2 := kt1.below hb2 kt1.lt
  have kx2 := kx1.below hb2 kx1.lt
  clear kt1 kx1
  obtain ⟨a0, a1, a2, a3⟩ := tab_cells kt2
  obtain ⟨i0, i1, i2, i3, i4, i5, i6⟩ := idx_cells kx2
  go_wp2_with fail
  refine (mayLaw_any t x _ _ _ _ (ht.below hB2) (hx.below hB2)).mono ?_
  rintro e w3 ⟨⟨bm, rfl, hbm⟩, hb3⟩
  have hB3 := hB2.trans (hb3.mono hB2.size)
  have kt3 := kt2.below hb3 kt2.lt
  have kx3 := kx2.below hb3 kx2.lt
  clear a0 a1 a2 a3 i0 i1 i2 i3 i4 i5 i6 kt2 kx2
  obtain ⟨a0, a1, a2, a3⟩ := tab_cells kt3
  cases bm
  · clear hbm
    go_wp2_with fail
    refine (awakeRow_any _).mono ?_
    rintro e w4 ⟨rfl, hb4⟩
    have hB4 := hB3.trans (hb4.mono hB3.size)
    go_wp2
    go_ret
    exact ⟨rfl, hB4⟩
  · have KN := Lib.hid (known_of (hbm.1 rfl))
    clear hbm
    go_wp2_with fail
    refine (refRowRight_any t _ _ _ row _ (ht.below hB3) (hr.below hB3)).mono ?_
    rintro e w4 ⟨rfl, hb4⟩
    have hB4 := hB3.trans (hb4.mono hB3.size)
    have kt4 := kt3.below hb4 kt3.lt
    have kx4 := kx3.below hb4 kx3.lt
    clear a0 a1 a2 a3 kt3 kx3
    obtain ⟨a0, a1, a2, a3⟩ := tab_cells kt4
    cases hM : mayAll t.cols row
    · clear hM
      go_wp2_with fail
      refine (awakeRow_any _).mono ?_
      rintro e w5 ⟨rfl, hb5⟩
      have hB5 := hB4.trans (hb5.mono hB4.size)
      go_wp2
      go_ret
      exact ⟨rfl, hB5⟩
    · have HM := Lib.hid hM
      clear hM
      go_wp2_with fail
      refine (refRowRight_any t _ _ _ other _ (ht.below hB4) (ho.below hB4)).mono ?_
      rintro e w5 ⟨rfl, hb5⟩
      have hB5 := hB4.trans (hb5.mono hB4.size)
      have kt5 := kt4.below hb5 kt4.lt
      have kx5 := kx4.below hb5 kx4.lt
      clear a0 a1 a2 a3 kt4 kx4
      cases hM2 : mayAll t.cols other
      · clear hM2
        go_wp2_with fail
        refine (awakeRow_any _).mono ?_
        rintro e w6 ⟨rfl, hb6⟩
        have hB6 := hB5.trans (hb6.mono hB5.size)
        go_wp2
        go_ret
        exact ⟨rfl, hB6⟩
      · have HM2 := Lib.hid hM2
        clear hM2
        go_wp2_with fail
        refine (values_any w5.heap.size fr.length c5 ut.length c6 A5 A6 _ (by simp) (by simp)).mono ?_
        rintro e w6 ⟨rfl, hww⟩
        subst hww
        cases hV : (decide (fr.length ≤ 40) && decide (ut.length ≤ 40))
        · clear hV
          go_wp2_with fail
          refine (awakeRow_any _).mono ?_
          rintro e w7 ⟨rfl, hb7⟩
          have hB7 := (hB5.alloc hB5.size _).trans (hb7.mono (hB5.alloc hB5.size _).size)
          go_wp2
          go_ret
          exact ⟨rfl, hB7⟩
        clear hV
        go_upto_region 3 with fail
        refine name_world (fun w6 => Below w.heap.size w w6 ∧ Blk w6 w.heap.size 25 (tabCs t (.slice A t.cols.length c) (.slice A3 t.key.length c3)) ∧ Blk w6 (w.heap.size + 1) 27 (idxCs x (.slice A4 x.cols.length c4)))
          ⟨hB5.alloc hB5.size _, kt5.alloc _, kx5.alloc _⟩ ?_
        clear kt5 kx5
        rintro w6 ⟨hB6, kt6, kx6⟩
        obtain ⟨a0, a1, a2, a3⟩ := tab_laters kt6
        have hkn : t.key.length ≤ 1000000 := by have := KN.out.keyn; omega
        have hxn : x.cols.length ≤ 1000000 := by have := KN.out.xcn; omega
        have HKEY := Lib.hid KN.out.key
        have hz6 : w.heap.size + 2 ≤ w6.heap.size := by have := kx6.lt; omega
        refine wp_later_many [(2, Sp.rsl rVal (fun _ => True) (keyV t row)), (5, Sp.rsl rVal (fun _ => True) (keyV t other))] [2, 5] (by as_aux_lemma => kernel_rfl) (by as_aux_lemma => kernel_rfl) ?_
        intro vv hv
        obtain ⟨B1, d1, e2, _⟩ : ∃ A c, vv 2 = .slice A (keyV t row).length c ∧ (keyV t row).length ≤ c := hv 2 (by decide)
        obtain ⟨B2, d2, e5, _⟩ : ∃ A c, vv 5 = .slice A (keyV t other).length c ∧ (keyV t other).length ≤ c := hv 5 (by decide)
        refine many_pre 2 (by decide) ?_
        simp only [List.take_succ_cons, List.take_zero, List.drop_succ_cons, List.drop_zero]
        repeat (go_big_quiet_step (fail))
        refine wpQuiet_nil (many_wild (by decide) rfl ?_ ?_)
        · intro s _
          unfold Gives
          go_simp
          have hbs := hB6.trans (s.below.mono hB6.size)
          refine (refKey_any t _ _ _ row _ (ht.below hbs) (hr.below hbs) hkn HKEY.out).mono ?_
          rintro e w3 ⟨⟨y, rfl, hy⟩, hb3⟩
          exact ⟨y, rfl, hy.mono (by decide) (fun _ _ _ => trivial), hb3⟩
        intro a' ha'
        subst ha'
        simp only [Act.put, List.setIfInBounds_toArray, List.set_cons_succ, List.set_cons_zero]
        rw [e2]
        refine many_pre 2 (by decide) ?_
        simp only [List.take_succ_cons, List.take_zero, List.drop_succ_cons, List.drop_zero]
        repeat (go_big_quiet_step (fail))
        refine wpQuiet_nil (many_wild (by decide) rfl ?_ ?_)
        · intro s _
          unfold Gives
          go_simp
          have hbs := hB6.trans (s.below.mono hB6.size)
          refine (refKey_any t _ _ _ other _ (ht.below hbs) (ho.below hbs) hkn HKEY.out).mono ?_
          rintro e w3 ⟨⟨y, rfl, hy⟩, hb3⟩
          exact ⟨y, rfl, hy.mono (by decide) (fun _ _ _ => trivial), hb3⟩
        intro a' ha'
        subst ha'
        simp only [Act.put, List.setIfInBounds_toArray, List.set_cons_succ, List.set_cons_zero]
        rw [e5]
        refine many_pre 2 (by decide) ?_
        simp only [List.take_succ_cons, List.take_zero, List.drop_succ_cons, List.drop_zero]
        repeat (go_big_quiet_step (fail))
        refine wpQuiet_nil (many_end ?_)
        intro s7 hf7
        have r1 : RV (fun _ => True) s7.val (vv 2) (keyV t row) := hf7 2 (by decide)
        have r2 : RV (fun _ => True) s7.val (vv 5) (keyV t other) := hf7 5 (by decide)
        rw [e2] at r1
        rw [e5] at r2
        clear e2 e5 hv hf7 a0 a1 a2 a3
        have hB7 := hB6.trans (s7.below.mono hB6.size)
        have kt7 := kt6.below s7.below kt6.lt
        have kx7 := kx6.below s7.below kx6.lt
        clear kt6 kx6
        obtain ⟨a0, a1, a2, a3⟩ := tab_laters kt7
        go_upto_region 4 with fail
        obtain ⟨n1, hn1⟩ : ∃ n, n = nameB t (keyV t row) := ⟨_, rfl⟩
        obtain ⟨n2, hn2⟩ : ∃ n, n = nameB t (keyV t other) := ⟨_, rfl⟩
        obtain ⟨K1, hK1⟩ : ∃ n, n = cmpR (keyV t row) (keyV t other) := ⟨_, rfl⟩
        obtain ⟨B, hB⟩ : ∃ b, b = decide (cmpL (keyV t row) (keyV t other) = -1) := ⟨_, rfl⟩
        have t1 : Op.bytesLess (str n1).toList (str n2).toList = B := by rw [str_toList, str_toList, hn1, hn2, hB]; exact names_less KN.out HM.out OK.out.1 HM2.out OK.out.2
        have t2 : decide (K1 < 0) = B := by rw [hK1, hB]; exact cmp_less _ _
        have t3 : (B == B) = true := by simp
        have HN1 := Lib.hid hn1
        have HN2 := Lib.hid hn2
        have HK1 := Lib.hid hK1
        clear hn1 hn2 hK1 hB
        refine wp_later_many [(2, Sp.rb (fun _ => True) n1), (3, Sp.val (.string (str n1))), (6, Sp.rb (fun _ => True) n2), (7, Sp.val (.string (str n2))), (11, Sp.val (.int .i64 K1))] [2, 3, 6, 7, 11] (by as_aux_lemma => kernel_rfl) (by as_aux_lemma => kernel_rfl) ?_
        intro vv hv
        obtain ⟨B3, d3, e2, _⟩ : ∃ A c, vv 2 = .slice A n1.length c ∧ n1.length ≤ c := hv 2 (by decide)
        obtain ⟨B4, d4, e6, _⟩ : ∃ A c, vv 6 = .slice A n2.length c ∧ n2.length ≤ c := hv 6 (by decide)
        have e3 : vv 3 = .string (str n1) := hv 3 (by decide)
        have e7 : vv 7 = .string (str n2) := hv 7 (by decide)
        have e11 : vv 11 = .int .i64 K1 := hv 11 (by decide)
        refine many_pre 2 (by decide) ?_
        simp only [List.take_succ_cons, List.take_zero, List.drop_succ_cons, List.drop_zero]
        repeat (go_big_quiet_step (fail))
        refine wpQuiet_nil (many_wild (by decide) rfl ?_ ?_)
        · intro s _
          unfold Gives
          go_simp
          have hbs := hB7.trans (s.below.mono hB7.size)
          refine (name_any t _ _ _ (keyV t row) _ (ht.below hbs) (r1.below s.below)).mono ?_
          rintro e w3 ⟨⟨y, rfl, hy⟩, hb3⟩
          rw [← HN1.out] at hy
          exact ⟨y, rfl, hy.mono (by decide) (fun _ _ _ => trivial), hb3⟩
        intro a' ha'
        subst ha'
        simp only [Act.put, List.setIfInBounds_toArray, List.set_cons_succ, List.set_cons_zero]
        rw [e2]
        refine many_wild (by decide) rfl ?_ ?_
        · intro s hf
          have f2 : RB _ s.val (vv 2) n1 := hf 2 (by decide) (by kernel_rfl)
          rw [e2] at f2
          have v1 := rb_str f2
          unfold Gives
          go_simp
          exact ⟨rfl, Below.refl _ _⟩
        intro a' ha'
        subst ha'
        simp only [Act.put, List.setIfInBounds_toArray, List.set_cons_succ, List.set_cons_zero]
        rw [e3]
        refine many_pre 2 (by decide) ?_
        simp only [List.take_succ_cons, List.take_zero, List.drop_succ_cons, List.drop_zero]
        repeat (go_big_quiet_step (fail))
        refine wpQuiet_nil (many_wild (by decide) rfl ?_ ?_)
        · intro s _
          unfold Gives
          go_simp
          have hbs := hB7.trans (s.below.mono hB7.size)
          refine (name_any t _ _ _ (keyV t other) _ (ht.below hbs) (r2.below s.below)).mono ?_
          rintro e w3 ⟨⟨y, rfl, hy⟩, hb3⟩
          rw [← HN2.out] at hy
          exact ⟨y, rfl, hy.mono (by decide) (fun _ _ _ => trivial), hb3⟩
        intro a' ha'
        subst ha'
        simp only [Act.put, List.setIfInBounds_toArray, List.set_cons_succ, List.set_cons_zero]
        rw [e6]
        refine many_wild (by decide) rfl ?_ ?_
        · intro s hf
          have f6 : RB _ s.val (vv 6) n2 := hf 6 (by decide) (by kernel_rfl)
          rw [e6] at f6
          have v1 := rb_str f6
          unfold Gives
          go_simp
          exact ⟨rfl, Below.refl _ _⟩
        intro a' ha'
        subst ha'
        simp only [Act.put, List.setIfInBounds_toArray, List.set_cons_succ, List.set_cons_zero]
        rw [e7]
        refine many_pre 3 (by decide) ?_
        simp only [List.take_succ_cons, List.take_zero, List.drop_succ_cons, List.drop_zero]
        repeat (go_big_quiet_step (fail))
        refine wpQuiet_nil (many_wild (by decide) rfl ?_ ?_)
        · intro s _
          unfold Gives
          go_simp
          refine (refCmp_rv _ _ _ _ _ (r1.below s.below) (r2.below s.below)).mono ?_
          rintro e w3 ⟨rfl, hb3⟩
          exact ⟨_, rfl, by rw [HK1.out]; rfl, hb3⟩
        intro a' ha'
        subst ha'
        simp only [Act.put, List.setIfInBounds_toArray, List.set_cons_succ, List.set_cons_zero]
        rw [e11]
        refine many_pre 2 (by decide) ?_
        simp only [List.take_succ_cons, List.take_zero, List.drop_succ_cons, List.drop_zero]
        repeat (go_big_quiet_step (fail))
        refine wpQuiet_nil (many_end ?_)
        intro s8 _
        clear e2 e3 e6 e7 e11 hv a0 a1 a2 a3 t1 t2
        have hB8 := hB7.trans (s8.below.mono hB7.size)
        have kt8 := kt7.below s8.below kt7.lt
        have kx8 := kx7.below s8.below kx7.lt
        have r18 := r1.below s8.below
        have r28 := r2.below s8.below
        clear kt7 kx7 r1 r2
        have Z8 := Lib.hid hB8.size
        go_wp2
        go_loopw [15, 16, 17] (fun vc vd j wr => ∃ k : Nat, k ≤ x.cols.length ∧ j = .int .i64 (k : Int) ∧ OwnL rVal (fun _ => False) s8.val.heap.size 38 wr vc ((pickV row x.cols).take k) ∧ OwnL rVal (fun _ => False) s8.val.heap.size 38 wr vd ((pickV other x.cols).take k) ∧ Ap vc.ownBlock vd.ownBlock ∧ Below s8.val.heap.size s8.val wr) (fun _ _ j _ => x.cols.length - (intOf j).toNat)
        case atStart => exact ⟨0, by omega, rfl, OwnL.nil_ _ _ _ _ _, OwnL.nil_ _ _ _ _ _, Ap.none_l _, Below.refl _ _⟩
        case round =>
          obtain ⟨k, hk, rfl, hc, hd, hap, hb⟩ := hrel
          have hBw := hB8.trans (hb.mono hB8.size)
          have kxw := kx8.below hb kx8.lt
          by_cases hlt : k < x.cols.length
          · obtain ⟨g0, g1⟩ := KN.out.xc _ (List.getElem_mem hlt)
            obtain ⟨q, hq⟩ := Int.eq_ofNat_of_zero_le g0
            have hqc : q < t.cols.length := by omega
            have hqr : q < row.length := by rw [mayAll_length HM.out]; omega
            have hqo : q < other.length := by rw [mayAll_length HM2.out]; omega
            have CR : (pickV row x.cols).take (k + 1) = (pickV row x.cols).take k ++ [row[q]] := by
              obtain ⟨h1, h2⟩ := pick_at KN.out HM.out hlt hq hqr
              rw [List.take_succ_eq_append_getElem h1, h2]
            have CO : (pickV other x.cols).take (k + 1) = (pickV other x.cols).take k ++ [other[q]] := by
              obtain ⟨h1, h2⟩ := pick_at KN.out HM2.out hlt hq hqo
              rw [List.take_succ_eq_append_getElem h1, h2]
            have oky : row[q].ok := OK.out.1 _ (List.getElem_mem hqr)
            have okz : other[q].ok := OK.out.2 _ (List.getElem_mem hqo)
            clear g0 g1
            obtain ⟨b0, off0, c0', cs0, hv0, _, ⟨rfl, _⟩, hcell0⟩ := hx.cols.at_ hlt
            simp only [Value.slice.injEq, true_and] at hv0
            obtain ⟨rfl, rfl⟩ := hv0
            obtain ⟨b1, off1, c1', cs1, hv1, _, ⟨rfl, _⟩, hcell1⟩ := hr.at_ hqr
            simp only [Value.slice.injEq, true_and] at hv1
            obtain ⟨rfl, rfl⟩ := hv1
            obtain ⟨b2, off2, c2', cs2, hv2, _, ⟨rfl, _⟩, hcell2⟩ := ho.at_ hqo
            simp only [Value.slice.injEq, true_and] at hv2
            obtain ⟨rfl, rfl⟩ := hv2
            have r0 := hcell0 0 _ rfl
            have p0 := hcell1 0 _ rfl
            have p1 := hcell1 1 _ rfl
            have p2 := hcell1 2 _ rfl
            have q0 := hcell2 0 _ rfl
            have q1 := hcell2 1 _ rfl
            have q2 := hcell2 2 _ rfl
            simp only [Nat.add_zero, show rVal.sz = 3 from rfl, show rInt.sz = 1 from rfl, Nat.mul_one] at p0 p1 p2 q0 q1 q2 r0
            rw [hq] at r0
            clear hcell0 hcell1 hcell2 hq
            obtain ⟨y, hy⟩ : ∃ y, y = row[q] := ⟨_, rfl⟩
            obtain ⟨z, hz⟩ : ∃ z, z = other[q] := ⟨_, rfl⟩
            rw [← hy] at p0 p1 p2 CR oky
            rw [← hz] at q0 q1 q2 CO okz
            clear hy hz
            have l1 : b0 < w.heap.size := World.block_lt_of_cell? w _ r0
            have l2 : b1 < w.heap.size := World.block_lt_of_cell? w _ p0
            have l3 : b2 < w.heap.size := World.block_lt_of_cell? w _ q0
            have Zw : w.heap.size + 2 ≤ s8.val.heap.size := Nat.le_trans hz6 (Nat.le_trans s7.below.size s8.below.size)
            have i3 : wr.cell? ⟨w.heap.size + 1, 3, none⟩ = some (.slice (some ⟨b0, off0, none⟩) x.cols.length c4) := kxw.cell 3
            have TR : ∀ (b i : Nat) (u : Value), b < w.heap.size → w.cell? ⟨b, i, none⟩ = some u → ∀ s : LaterB wr (fun b => s8.val.heap.size ≤ b), s.val.cell? ⟨b, i, none⟩ = some u := fun b i u hl h s =>
              LaterB.cell ((hBw.cell (p := ⟨b, i, none⟩) hl).trans h) (by show ¬ _ ≤ b; omega) s
            have m3 : ∀ s : LaterB wr (fun b => s8.val.heap.size ≤ b), s.val.cell? ⟨w.heap.size + 1, 3, none⟩ = some (.slice (some ⟨b0, off0, none⟩) x.cols.length c4) := LaterB.cell i3 (by show ¬ _ ≤ w.heap.size + 1; omega)
            have n0 := TR _ _ _ l1 r0
            have n1 := TR _ _ _ l2 p0
            have n2 := TR _ _ _ l2 p1
            have n3 := TR _ _ _ l2 p2
            have n4 := TR _ _ _ l3 q0
            have n5 := TR _ _ _ l3 q1
            have n6 := TR _ _ _ l3 q2
            clear r0 p0 p1 p2 q0 q1 q2 TR
            have HCR := Lib.hid CR
            have HCO := Lib.hid CO
            have hlr : ((pickV row x.cols).take k).length ≤ 6 := by have := KN.out.xcn; rw [List.length_take]; omega
            have hlo : ((pickV other x.cols).take k).length ≤ 6 := by have := KN.out.xcn; rw [List.length_take]; omega
            obtain ⟨LR, hLR⟩ : ∃ l, l = (pickV row x.cols).take k := ⟨_, rfl⟩
            obtain ⟨LO, hLO⟩ : ∃ l, l = (pickV other x.cols).take k := ⟨_, rfl⟩
            rw [← hLR] at hc hlr
            rw [← hLO] at hd hlo
            have HLR := Lib.hid hLR
            have HLO := Lib.hid hLO
            clear CR CO hLR hLO
            obtain ⟨Ac0, cc0, rfl, _⟩ := hc.form
            obtain ⟨Ad0, cd0, rfl, _⟩ := hd.form
            go_wp2
            refine wp_pushes rVal (fun _ => False) s8.val.heap.size 38 (fun b => s8.val.heap.size ≤ b) ⟨9, 10, .slice Ac0 LR.length cc0, LR, y, #[.int .i64 y.k, .int .i64 y.i, .string y.s]⟩ ⟨20, 21, .slice Ad0 LO.length cd0, LO, z, #[.int .i64 z.k, .int .i64 z.i, .string z.s]⟩ [9, 10, 20, 21] rfl (by as_aux_lemma => kernel_rfl) (by as_aux_lemma => kernel_rfl) hc hd hap ?_
            intro vv hv
            obtain ⟨gb, e9⟩ := (hv 9 (by decide)).1 (.inl rfl)
            obtain ⟨Ac, cc, e10⟩ := (hv 10 (by decide)).2.1 rfl
            obtain ⟨gd, e20⟩ := (hv 20 (by decide)).1 (.inr rfl)
            obtain ⟨Ad, cd, e21⟩ := (hv 21 (by decide)).2.2 rfl
            clear hv
            refine manyp_pre 9 (by decide) ?_ (by kernel_rfl)
            simp only [List.take_succ_cons, List.take_zero, List.drop_succ_cons, List.drop_zero]
            repeat (go_big_quiet_step (fail))
            refine wpQuiet_nil (manyp_box rfl rfl rfl (fun s => by unfold Gives; go_simp) ?_)
            intro a' ha'
            subst ha'
            simp only [Act.put, List.setIfInBounds_toArray, List.set_cons_succ, List.set_cons_zero]
            refine manyp_app Tryd.rowVal (by decide) (.tmp 83) (.tmp 92) rfl rfl (by as_aux_lemma => kernel_rfl) rfl rfl rfl rfl ?_ ?_ ?_ ?_ ?_ ?_ ?_
            · exact fun b hb h => hb (hc.lt b h.symm).1
            · exact fun b hb => hb.elim
            · exact fun _ => ⟨rfl, oky⟩
            · show (LR.length + 1) * 32 ≤ _; omega
            · show LR.length + 1 ≤ _; omega
            · exact hb.size
            intro a' ha'
            subst ha'
            simp only [Act.put, List.setIfInBounds_toArray, List.set_cons_succ, List.set_cons_zero]
            refine manyp_pre 9 (by decide) ?_ (by kernel_rfl)
            simp only [List.take_succ_cons, List.take_zero, List.drop_succ_cons, List.drop_zero]
            repeat (go_big_quiet_step (fail))
            refine wpQuiet_nil (many_swap (manyp_box rfl rfl rfl (fun s => by unfold Gives; go_simp) ?_))
            intro a' ha'
            subst ha'
            simp only [Act.put, List.setIfInBounds_toArray, List.set_cons_succ, List.set_cons_zero]
            refine manyp_app Tryd.rowVal (by decide) (.tmp 94) (.tmp 103) rfl rfl (by as_aux_lemma => kernel_rfl) rfl rfl rfl rfl ?_ ?_ ?_ ?_ ?_ ?_ ?_
            · exact fun b hb h => hb (hd.lt b h.symm).1
            · exact fun b hb => hb.elim
            · exact fun _ => ⟨rfl, okz⟩
            · show (LO.length + 1) * 32 ≤ _; omega
            · show LO.length + 1 ≤ _; omega
            · exact hb.size
            intro a' ha'
            subst ha'
            simp only [Act.put, List.setIfInBounds_toArray, List.set_cons_succ, List.set_cons_zero]
            refine manyp_pre 2 (by decide) ?_ (by kernel_rfl)
            simp only [List.take_succ_cons, List.take_zero, List.drop_succ_cons, List.drop_zero]
            repeat (go_big_quiet_step (fail))
            refine wpQuiet_nil (manyp_end rfl ?_)
            intro w9 hkp o1 o2 ap
            have hb9 : Below s8.val.heap.size s8.val w9 := hb.trans (hkp.below hb.size fun b h h2 => by omega)
            clear n0 n1 n2 n3 n4 n5 n6 m3 i3 e9 e10 e20 e21 hkp
            go_wp2
            go_roundw
            case rel => exact ⟨k + 1, by omega, by go_num, by rw [HCR.out, ← HLR.out]; exact o2, by rw [HCO.out, ← HLO.out]; exact o1, ap.symm, hb9⟩
            case measure => simp [intOf]; omega
          · have oc := hc
            rw [List.take_of_length_le (by rw [len_cols KN.out HM.out]; omega)] at oc
            have od := hd
            rw [List.take_of_length_le (by rw [len_cols KN.out HM2.out]; omega)] at od
            have rc := oc.rv (by rw [len_cols KN.out HM.out]; omega) (fun _ h => h.elim)
            have rd := od.rv (by rw [len_cols KN.out HM2.out]; omega) (fun _ h => h.elim)
            obtain ⟨Ac0, cc0, rfl, _⟩ := oc.form
            obtain ⟨Ad0, cd0, rfl, _⟩ := od.form
            clear hc hd hap oc od
            have i3 : wr.cell? ⟨w.heap.size + 1, 3, none⟩ = some (.slice A4 x.cols.length c4) := kxw.cell 3
            obtain ⟨K2, hK2⟩ : ∃ n, n = cmpR (pickV row x.cols) (pickV other x.cols) := ⟨_, rfl⟩
            go_wp2_with fail
            refine (refCmp_rv _ _ _ _ _ rc rd).mono ?_
            rintro e w9 ⟨rfl, hb9⟩
            rw [← hK2]
            have hK2' : K2 = cmpL (pickV row x.cols) (pickV other x.cols) := by rw [hK2, cmpR_L]
            have hb89 := hb.trans (hb9.mono hb.size)
            have hB9 := hB8.trans (hb89.mono hB8.size)
            have kt9 := kt8.below hb89 kt8.lt
            have kx9 := kx8.below hb89 kx8.lt
            have r19 := r18.below hb89
            have r29 := r28.below hb89
            clear i3 kxw rc rd hK2 hB8 hBw kt8 kx8 r18 r28 hk hlt
            obtain ⟨a0, a1, a2, a3⟩ := tab_laters kt9
            obtain ⟨i0, i1, i2, i3, i4, i5, i6⟩ := idx_laters kx9
            obtain ⟨E1, hE1⟩ : ∃ e, e = entryV t x row := ⟨_, rfl⟩
            obtain ⟨E2, hE2⟩ : ∃ e, e = entryV t x other := ⟨_, rfl⟩
            have ET := entries_test (x := x) KN.out HM.out OK.out.1 HM2.out OK.out.2 K2 hK2'
            rw [← hE1, ← hE2] at ET
            have HET := Lib.hid ET
            have HE1 := Lib.hid hE1
            have HE2 := Lib.hid hE2
            have HK2 := Lib.hid (cmpL_three (pickV row x.cols) (pickV other x.cols))
            rw [← hK2'] at HK2
            clear ET hE1 hE2 hK2'
            go_upto_region 12 with fail
            refine wp_later_many [(3, Sp.pair (fun _ => True) E1), (5, Sp.val (.string (str E1.1))), (9, Sp.pair (fun _ => True) E2), (11, Sp.val (.string (str E2.1)))] [3, 5, 9, 11] (by as_aux_lemma => kernel_rfl) (by as_aux_lemma => kernel_rfl) ?_
            intro vv hv
            obtain ⟨D1, f1, D2, f2, e3⟩ : ∃ A c A2 c2, vv 3 = .agg #[.slice A E1.1.length c, .slice A2 E1.2.length c2, .int .i64 0] := hv 3 (by decide)
            obtain ⟨D3, f3, D4, f4, e9⟩ : ∃ A c A2 c2, vv 9 = .agg #[.slice A E2.1.length c, .slice A2 E2.2.length c2, .int .i64 0] := hv 9 (by decide)
            have e5 : vv 5 = .string (str E1.1) := hv 5 (by decide)
            have e11 : vv 11 = .string (str E2.1) := hv 11 (by decide)
            have hfd1 : ∀ (b c : Value) (w : World), (Instr.field 40 (.agg #[.slice D1 E1.1.length f1, b, c]) 0).run Tryd.prog w = .ok (.slice D1 E1.1.length f1) w := fun _ _ _ => by kernel_rfl
            have hfd2 : ∀ (b c : Value) (w : World), (Instr.field 40 (.agg #[.slice D3 E2.1.length f3, b, c]) 0).run Tryd.prog w = .ok (.slice D3 E2.1.length f3) w := fun _ _ _ => by kernel_rfl
            clear hv
            refine many_pre 3 (by decide) ?_
            simp only [List.take_succ_cons, List.take_zero, List.drop_succ_cons, List.drop_zero]
            repeat (go_big_quiet_step (fail))
            refine wpQuiet_nil (many_wild (by decide) rfl ?_ ?_)
            · intro s _
              unfold Gives
              go_simp
              have hbs := hB9.trans (s.below.mono hB9.size)
              refine (entry_any t x _ _ _ _ row _ (ht.below hbs) (hx.below hbs) (hr.below hbs) hkn hxn).mono ?_
              rintro e w3 ⟨⟨k, y, rfl, hk, hy⟩, hb3⟩
              rw [← HE1.out] at hk hy
              obtain ⟨Ak, ck, rfl, _, _⟩ := hk.form
              obtain ⟨Ay, cy, rfl, _, _⟩ := hy.form
              exact ⟨_, rfl, ⟨_, _, _, _, rfl, hk.mono (by decide) (fun _ _ _ => trivial), hy.mono (by decide) (fun _ _ _ => trivial)⟩, hb3⟩
            intro a' ha'
            subst ha'
            simp only [Act.put, List.setIfInBounds_toArray, List.set_cons_succ, List.set_cons_zero]
            rw [e3]
            refine many_pre 1 (by decide) ?_
            simp only [List.take_succ_cons, List.take_zero, List.drop_succ_cons, List.drop_zero]
            repeat (go_big_quiet_step (fail))
            refine wpQuiet_nil (many_wild (by decide) rfl ?_ ?_)
            · intro s hf
              obtain ⟨_, _, _, _, e3', g1, _⟩ := hf 3 (by decide) (by kernel_rfl)
              rw [e3] at e3'
              simp only [Value.agg.injEq, Array.mk.injEq, List.cons.injEq, Value.slice.injEq, true_and, and_true] at e3'
              obtain ⟨⟨rfl, rfl⟩, rfl, rfl⟩ := e3'
              have v1 := rb_str g1
              unfold Gives
              go_simp
              exact ⟨rfl, Below.refl _ _⟩
            intro a' ha'
            subst ha'
            simp only [Act.put, List.setIfInBounds_toArray, List.set_cons_succ, List.set_cons_zero]
            rw [e5]
            refine many_pre 3 (by decide) ?_
            simp only [List.take_succ_cons, List.take_zero, List.drop_succ_cons, List.drop_zero]
            repeat (go_big_quiet_step (fail))
            refine wpQuiet_nil (many_wild (by decide) rfl ?_ ?_)
            · intro s _
              unfold Gives
              go_simp
              have hbs := hB9.trans (s.below.mono hB9.size)
              refine (entry_any t x _ _ _ _ other _ (ht.below hbs) (hx.below hbs) (ho.below hbs) hkn hxn).mono ?_
              rintro e w3 ⟨⟨k, y, rfl, hk, hy⟩, hb3⟩
              rw [← HE2.out] at hk hy
              obtain ⟨Ak, ck, rfl, _, _⟩ := hk.form
              obtain ⟨Ay, cy, rfl, _, _⟩ := hy.form
              exact ⟨_, rfl, ⟨_, _, _, _, rfl, hk.mono (by decide) (fun _ _ _ => trivial), hy.mono (by decide) (fun _ _ _ => trivial)⟩, hb3⟩
            intro a' ha'
            subst ha'
            simp only [Act.put, List.setIfInBounds_toArray, List.set_cons_succ, List.set_cons_zero]
            rw [e9]
            refine many_pre 1 (by decide) ?_
            simp only [List.take_succ_cons, List.take_zero, List.drop_succ_cons, List.drop_zero]
            repeat (go_big_quiet_step (fail))
            refine wpQuiet_nil (many_wild (by decide) rfl ?_ ?_)
            · intro s hf
              obtain ⟨_, _, _, _, e3', g1, _⟩ := hf 9 (by decide) (by kernel_rfl)
              rw [e9] at e3'
              simp only [Value.agg.injEq, Array.mk.injEq, List.cons.injEq, Value.slice.injEq, true_and, and_true] at e3'
              obtain ⟨⟨rfl, rfl⟩, rfl, rfl⟩ := e3'
              have v1 := rb_str g1
              unfold Gives
              go_simp
              exact ⟨rfl, Below.refl _ _⟩
            intro a' ha'
            subst ha'
            simp only [Act.put, List.setIfInBounds_toArray, List.set_cons_succ, List.set_cons_zero]
            rw [e11]
            refine many_pre 2 (by decide) ?_
            simp only [List.take_succ_cons, List.take_zero, List.drop_succ_cons, List.drop_zero]
            repeat (go_big_quiet_step (fail))
            refine wpQuiet_nil (many_end ?_)
            intro s10 _
            clear e3 e5 e9 e11 hfd1 hfd2 a0 a1 a2 a3 i0 i1 i2 i3 i4 i5 i6
            have hB10 := hB9.trans (s10.below.mono hB9.size)
            have kt10 := kt9.below s10.below kt9.lt
            have r110 := r19.below s10.below
            have r210 := r29.below s10.below
            clear kt9 kx9 r19 r29
            obtain ⟨z1, hz1⟩ : ∃ s, s = str E1.1 := ⟨_, rfl⟩
            obtain ⟨z2, hz2⟩ : ∃ s, s = str E2.1 := ⟨_, rfl⟩
            have ZT0 : (K2 < 0 → Op.bytesLess z1.toList z2.toList = true) ∧ (0 < K2 → Op.bytesLess z1.toList z2.toList = false ∧ (z1.toList == z2.toList) = false) := by
              rw [hz1, hz2, str_toList, str_toList]
              exact ⟨HET.out.1, fun h => bl_gt _ _ (HET.out.2 h)⟩
            have ZT := Lib.hid ZT0
            clear ZT0
            rw [← hz1, ← hz2]
            clear HET hz1 hz2 HE1 HE2
            obtain ⟨a0, a1, a2, a3⟩ := tab_cells kt10
            obtain ⟨P1, hP1⟩ : ∃ p, p = headB 114 t.id ++ encL fr := ⟨_, rfl⟩
            obtain ⟨P2, hP2⟩ : ∃ p, p = if ut.length = 0 then endB (headB 114 t.id) else headB 114 t.id ++ encL ut := ⟨_, rfl⟩
            have HP1 := Lib.hid hP1
            have HP2 := Lib.hid hP2
            clear hP1 hP2
            by_cases hE : (encSpec fr).2 = 0 ∧ (encSpec ut).2 = 0
            · obtain ⟨hE1, hE2⟩ := hE
              have HE1 := Lib.hid hE1
              have HE2 := Lib.hid hE2
              clear hE1 hE2
              rcases HK2.out with hk2 | hk2 | hk2
              all_goals
                subst hk2
                first
                  | have t4 := ZT.out.1 (by decide)
                  | (have t45 := ZT.out.2 (by decide); have t4 := t45.1; have t5 := t45.2; clear t45)
                  | have t4 : True := trivial
                go_wp2_with fail
                refine (rowsSpan_ok t _ _ _ _ fr ut _ (ht.below hB10) (hf.below hB10) (hu.below hB10) HE1.out HE2.out P1 P2 HP1.out HP2.out).mono ?_
                rintro e w11 ⟨⟨s1, s2, rfl, x11, y11⟩, hb11⟩
                have kt11 := kt10.below hb11 kt10.lt
                obtain ⟨S1, g1, rfl, _, _⟩ := x11.form
                obtain ⟨S2, g2, rfl, _, _⟩ := y11.form
                go_upto_region 16 with fail
                refine name_world (fun w12 => Below s10.val.heap.size s10.val w12 ∧ Blk w12 w.heap.size 25 (tabCs t (.slice A t.cols.length c) (.slice A3 t.key.length c3)) ∧ Blk w12 w11.heap.size 43 #[.slice S1 P1.length g1, .slice S2 P2.length g2] ∧ RB (fun _ => True) w12 (.slice S1 P1.length g1) P1 ∧ RB (fun _ => True) w12 (.slice S2 P2.length g2) P2)
                  ⟨hb11.alloc hb11.size _, kt11.alloc _, Blk.new w11 _ _, (x11.below ((Below.refl _ _).alloc (Nat.le_refl _) _)).mono (by decide) (fun _ _ _ => trivial), (y11.below ((Below.refl _ _).alloc (Nat.le_refl _) _)).mono (by decide) (fun _ _ _ => trivial)⟩ ?_
                clear x11 y11 kt11 t4 a0 a1 a2 a3
                rintro w12 ⟨hs12, kt12, ks12, x12, y12⟩
                have hB12 := hB10.trans (hs12.mono hB10.size)
                go_wp2_with fail
                refine (refEnc_rv _ fr _ (hf.below hB12)).mono ?_
                rintro e w13 ⟨⟨A7, n7, c7, rfl, _⟩, hb13⟩
                have hs13 := hs12.trans (hb13.mono hs12.size)
                have hB13 := hB10.trans (hs13.mono hB10.size)
                have ks13 := ks12.below hb13 ks12.lt
                rw [HE1.out]
                go_wp2_with fail
                refine (refEnc_rv _ ut _ (hu.below hB13)).mono ?_
                rintro e w14 ⟨⟨A8, n8, c8, rfl, _⟩, hb14⟩
                have hs14 := hs13.trans (hb14.mono hs13.size)
                have hB14 := hB10.trans (hs14.mono hB10.size)
                have ks14 := ks13.below hb14 ks13.lt
                rw [HE2.out]
                go_wp2_with fail
                refine (refCmp_rv _ _ _ _ _ (hf.below hB14) (r110.below hs14)).mono ?_
                rintro e w15 ⟨rfl, hb15⟩
                have hsP := hs14.trans (hb15.mono hs14.size)
                have hbb := (hb13.trans (hb14.mono hb13.size)).trans (hb15.mono (hb13.trans (hb14.mono hb13.size)).size)
                have ktP := kt12.below hbb kt12.lt
                have ksP := ks14.below hb15 ks14.lt
                have xP := x12.below hbb
                have yP := y12.below hbb
                have rP := r110.below hsP
                have hBP := hB10.trans (hsP.mono hB10.size)
                clear kt12 ks12 x12 y12 hs12 hs13 hs14 ks13 ks14 hbb hB12 hB13 hB14
                obtain ⟨K3, hK3⟩ : ∃ n, n = cmpR fr (keyV t row) := ⟨_, rfl⟩
                obtain ⟨G1, hG1⟩ : ∃ b, b = decide (cmpL fr (keyV t row) ≤ 0) := ⟨_, rfl⟩
                obtain ⟨G2, hG2⟩ : ∃ b, b = decide (ut.length = 0) := ⟨_, rfl⟩
                obtain ⟨G3, hG3⟩ : ∃ b, b = decide (cmpL (keyV t row) ut < 0) := ⟨_, rfl⟩
                have ST0 : btwn P1 P2 n1 = (G1 && (G2 || G3)) := by
                  rw [HP1.out, HP2.out, HN1.out, hG1, hG2, hG3]
                  exact span_test KN.out HM.out OK.out.1 (enc_zero HE1.out).1 (enc_zero HE2.out).1 hf.open_.choose_spec.choose_spec.2.2.2.2.1 hu.open_.choose_spec.choose_spec.2.2.2.2.1
                have HST := Lib.hid ST0
                clear ST0
                rw [← hK3]
                have u1 : decide (K3 ≤ 0) = G1 := by rw [hK3, hG1, cmpR_L]
                have u2 : ((ut.length : Int) == 0) = G2 := by rw [hG2]; cases ut <;> simp; omega
                have HG3 := Lib.hid hG3
                clear hK3 hG1 hG2 hG3
                cases G1
                · have hsZ := hsP
                  have hBZ := hBP
                  have ktZ := ktP
                  have ksZ := ksP
                  have xZ := xP
                  have yZ := yP
                  have rZ := rP
                  have hbZ : True := trivial
                  clear ktP ksP xP yP rP hsP hBP
                  clear hbZ
                  obtain ⟨a0, a1, a2, a3⟩ := tab_laters ktZ
                  obtain ⟨sp0, sp1⟩ : (∀ s : Later w15, s.val.cell? ⟨w11.heap.size, 0, none⟩ = some (.slice S1 P1.length g1)) ∧ ∀ s : Later w15, s.val.cell? ⟨w11.heap.size, 1, none⟩ = some (.slice S2 P2.length g2) := ⟨ksZ.later rfl, ksZ.later rfl⟩
                  go_upto_region 21 with fail
                  refine wp_later_many [(10, Sp.rb (fun _ => True) n1), (11, Sp.val (.bool false))] [10, 11] (by as_aux_lemma => kernel_rfl) (by as_aux_lemma => kernel_rfl) ?_
                  intro vv hv
                  obtain ⟨B9, d9, e10, _⟩ : ∃ A c, vv 10 = .slice A n1.length c ∧ n1.length ≤ c := hv 10 (by decide)
                  have e11 : vv 11 = .bool false := hv 11 (by decide)
                  clear hv
                  refine many_pre 10 (by decide) ?_
                  simp only [List.take_succ_cons, List.take_zero, List.drop_succ_cons, List.drop_zero]
                  repeat (go_big_quiet_step (fail))
                  refine wpQuiet_nil (many_wild (by decide) rfl ?_ ?_)
                  · intro s _
                    unfold Gives
                    go_simp
                    have hbs := hBZ.trans (s.below.mono hBZ.size)
                    refine (name_any t _ _ _ (keyV t row) _ (ht.below hbs) (rZ.below s.below)).mono ?_
                    rintro e w3 ⟨⟨y, rfl, hy⟩, hb3⟩
                    rw [← HN1.out] at hy
                    exact ⟨y, rfl, hy.mono (by decide) (fun _ _ _ => trivial), hb3⟩
                  intro a' ha'
                  subst ha'
                  simp only [Act.put, List.setIfInBounds_toArray, List.set_cons_succ, List.set_cons_zero]
                  rw [e10]
                  refine many_wild (by decide) rfl ?_ ?_
                  · intro s hf
                    have f10 : RB _ s.val (vv 10) n1 := hf 10 (by decide) (by kernel_rfl)
                    rw [e10] at f10
                    unfold Gives
                    go_simp
                    refine (withinD_any _ _ _ P1 P2 n1 _ (xZ.below s.below) (yZ.below s.below) f10).mono ?_
                    rintro e w3 ⟨rfl, hb3⟩
                    exact ⟨_, rfl, by rw [HST.out]; rfl, hb3⟩
                  intro a' ha'
                  subst ha'
                  simp only [Act.put, List.setIfInBounds_toArray, List.set_cons_succ, List.set_cons_zero]
                  rw [e11]
                  refine many_pre 4 (by decide) ?_
                  simp only [List.take_succ_cons, List.take_zero, List.drop_succ_cons, List.drop_zero]
                  repeat (go_big_quiet_step (fail))
                  refine wpQuiet_nil (many_end ?_)
                  intro sz _
                  have hBz := hBZ.trans (sz.below.mono hBZ.size)
                  clear e10 e11
                  go_wp2
                  go_ret
                  exact ⟨rfl, hBz⟩
                · cases G2
                  · go_wp2_with fail
                    refine (refCmp_rv _ _ _ _ _ rP (hu.below hBP)).mono ?_
                    rintro e w16 ⟨rfl, hb16⟩
                    obtain ⟨K4, hK4⟩ : ∃ n, n = cmpR (keyV t row) ut := ⟨_, rfl⟩
                    rw [← hK4]
                    have u3 : decide (K4 < 0) = G3 := by rw [hK4, HG3.out, cmpR_L]
                    clear hK4
                    have hbZ := hsP.trans (hb16.mono hsP.size)
                    have hBZ := hB10.trans (hbZ.mono hB10.size)
                    have ktZ := ktP.below hb16 ktP.lt
                    have ksZ := ksP.below hb16 ksP.lt
                    have xZ := xP.below hb16
                    have yZ := yP.below hb16
                    have rZ := rP.below hb16
                    clear ktP ksP xP yP rP hsP
                    cases G3
                    · skip
                      clear hbZ
                      obtain ⟨a0, a1, a2, a3⟩ := tab_laters ktZ
                      obtain ⟨sp0, sp1⟩ : (∀ s : Later w16, s.val.cell? ⟨w11.heap.size, 0, none⟩ = some (.slice S1 P1.length g1)) ∧ ∀ s : Later w16, s.val.cell? ⟨w11.heap.size, 1, none⟩ = some (.slice S2 P2.length g2) := ⟨ksZ.later rfl, ksZ.later rfl⟩
                      go_upto_region 21 with fail
                      refine wp_later_many [(10, Sp.rb (fun _ => True) n1), (11, Sp.val (.bool false))] [10, 11] (by as_aux_lemma => kernel_rfl) (by as_aux_lemma => kernel_rfl) ?_
                      intro vv hv
                      obtain ⟨B9, d9, e10, _⟩ : ∃ A c, vv 10 = .slice A n1.length c ∧ n1.length ≤ c := hv 10 (by decide)
                      have e11 : vv 11 = .bool false := hv 11 (by decide)
                      clear hv
                      refine many_pre 10 (by decide) ?_
                      simp only [List.take_succ_cons, List.take_zero, List.drop_succ_cons, List.drop_zero]
                      repeat (go_big_quiet_step (fail))
                      refine wpQuiet_nil (many_wild (by decide) rfl ?_ ?_)
                      · intro s _
                        unfold Gives
                        go_simp
                        have hbs := hBZ.trans (s.below.mono hBZ.size)
                        refine (name_any t _ _ _ (keyV t row) _ (ht.below hbs) (rZ.below s.below)).mono ?_
                        rintro e w3 ⟨⟨y, rfl, hy⟩, hb3⟩
                        rw [← HN1.out] at hy
                        exact ⟨y, rfl, hy.mono (by decide) (fun _ _ _ => trivial), hb3⟩
                      intro a' ha'
                      subst ha'
                      simp only [Act.put, List.setIfInBounds_toArray, List.set_cons_succ, List.set_cons_zero]
                      rw [e10]
                      refine many_wild (by decide) rfl ?_ ?_
                      · intro s hf
                        have f10 : RB _ s.val (vv 10) n1 := hf 10 (by decide) (by kernel_rfl)
                        rw [e10] at f10
                        unfold Gives
                        go_simp
                        refine (withinD_any _ _ _ P1 P2 n1 _ (xZ.below s.below) (yZ.below s.below) f10).mono ?_
                        rintro e w3 ⟨rfl, hb3⟩
                        exact ⟨_, rfl, by rw [HST.out]; rfl, hb3⟩
                      intro a' ha'
                      subst ha'
                      simp only [Act.put, List.setIfInBounds_toArray, List.set_cons_succ, List.set_cons_zero]
                      rw [e11]
                      refine many_pre 4 (by decide) ?_
                      simp only [List.take_succ_cons, List.take_zero, List.drop_succ_cons, List.drop_zero]
                      repeat (go_big_quiet_step (fail))
                      refine wpQuiet_nil (many_end ?_)
                      intro sz _
                      have hBz := hBZ.trans (sz.below.mono hBZ.size)
                      clear e10 e11
                      go_wp2
                      go_ret
                      exact ⟨rfl, hBz⟩
                    · skip
                      clear hbZ
                      obtain ⟨a0, a1, a2, a3⟩ := tab_laters ktZ
                      obtain ⟨sp0, sp1⟩ : (∀ s : Later w16, s.val.cell? ⟨w11.heap.size, 0, none⟩ = some (.slice S1 P1.length g1)) ∧ ∀ s : Later w16, s.val.cell? ⟨w11.heap.size, 1, none⟩ = some (.slice S2 P2.length g2) := ⟨ksZ.later rfl, ksZ.later rfl⟩
                      go_upto_region 21 with fail
                      refine wp_later_many [(10, Sp.rb (fun _ => True) n1), (11, Sp.val (.bool true))] [10, 11] (by as_aux_lemma => kernel_rfl) (by as_aux_lemma => kernel_rfl) ?_
                      intro vv hv
                      obtain ⟨B9, d9, e10, _⟩ : ∃ A c, vv 10 = .slice A n1.length c ∧ n1.length ≤ c := hv 10 (by decide)
                      have e11 : vv 11 = .bool true := hv 11 (by decide)
                      clear hv
                      refine many_pre 10 (by decide) ?_
                      simp only [List.take_succ_cons, List.take_zero, List.drop_succ_cons, List.drop_zero]
                      repeat (go_big_quiet_step (fail))
                      refine wpQuiet_nil (many_wild (by decide) rfl ?_ ?_)
                      · intro s _
                        unfold Gives
                        go_simp
                        have hbs := hBZ.trans (s.below.mono hBZ.size)
                        refine (name_any t _ _ _ (keyV t row) _ (ht.below hbs) (rZ.below s.below)).mono ?_
                        rintro e w3 ⟨⟨y, rfl, hy⟩, hb3⟩
                        rw [← HN1.out] at hy
                        exact ⟨y, rfl, hy.mono (by decide) (fun _ _ _ => trivial), hb3⟩
                      intro a' ha'
                      subst ha'
                      simp only [Act.put, List.setIfInBounds_toArray, List.set_cons_succ, List.set_cons_zero]
                      rw [e10]
                      refine many_wild (by decide) rfl ?_ ?_
                      · intro s hf
                        have f10 : RB _ s.val (vv 10) n1 := hf 10 (by decide) (by kernel_rfl)
                        rw [e10] at f10
                        unfold Gives
                        go_simp
                        refine (withinD_any _ _ _ P1 P2 n1 _ (xZ.below s.below) (yZ.below s.below) f10).mono ?_
                        rintro e w3 ⟨rfl, hb3⟩
                        exact ⟨_, rfl, by rw [HST.out]; rfl, hb3⟩
                      intro a' ha'
                      subst ha'
                      simp only [Act.put, List.setIfInBounds_toArray, List.set_cons_succ, List.set_cons_zero]
                      rw [e11]
                      refine many_pre 4 (by decide) ?_
                      simp only [List.take_succ_cons, List.take_zero, List.drop_succ_cons, List.drop_zero]
                      repeat (go_big_quiet_step (fail))
                      refine wpQuiet_nil (many_end ?_)
                      intro sz _
                      have hBz := hBZ.trans (sz.below.mono hBZ.size)
                      clear e10 e11
                      go_wp2
                      go_ret
                      exact ⟨rfl, hBz⟩
                  · have hsZ := hsP
                    have hBZ := hBP
                    have ktZ := ktP
                    have ksZ := ksP
                    have xZ := xP
                    have yZ := yP
                    have rZ := rP
                    have hbZ : True := trivial
                    clear ktP ksP xP yP rP hsP hBP
                    clear hbZ
                    obtain ⟨a0, a1, a2, a3⟩ := tab_laters ktZ
                    obtain ⟨sp0, sp1⟩ : (∀ s : Later w15, s.val.cell? ⟨w11.heap.size, 0, none⟩ = some (.slice S1 P1.length g1)) ∧ ∀ s : Later w15, s.val.cell? ⟨w11.heap.size, 1, none⟩ = some (.slice S2 P2.length g2) := ⟨ksZ.later rfl, ksZ.later rfl⟩
                    go_upto_region 21 with fail
                    refine wp_later_many [(10, Sp.rb (fun _ => True) n1), (11, Sp.val (.bool true))] [10, 11] (by as_aux_lemma => kernel_rfl) (by as_aux_lemma => kernel_rfl) ?_
                    intro vv hv
                    obtain ⟨B9, d9, e10, _⟩ : ∃ A c, vv 10 = .slice A n1.length c ∧ n1.length ≤ c := hv 10 (by decide)
                    have e11 : vv 11 = .bool true := hv 11 (by decide)
                    clear hv
                    refine many_pre 10 (by decide) ?_
                    simp only [List.take_succ_cons, List.take_zero, List.drop_succ_cons, List.drop_zero]
                    repeat (go_big_quiet_step (fail))
                    refine wpQuiet_nil (many_wild (by decide) rfl ?_ ?_)
                    · intro s _
                      unfold Gives
                      go_simp
                      have hbs := hBZ.trans (s.below.mono hBZ.size)
                      refine (name_any t _ _ _ (keyV t row) _ (ht.below hbs) (rZ.below s.below)).mono ?_
                      rintro e w3 ⟨⟨y, rfl, hy⟩, hb3⟩
                      rw [← HN1.out] at hy
                      exact ⟨y, rfl, hy.mono (by decide) (fun _ _ _ => trivial), hb3⟩
                    intro a' ha'
                    subst ha'
                    simp only [Act.put, List.setIfInBounds_toArray, List.set_cons_succ, List.set_cons_zero]
                    rw [e10]
                    refine many_wild (by decide) rfl ?_ ?_
                    · intro s hf
                      have f10 : RB _ s.val (vv 10) n1 := hf 10 (by decide) (by kernel_rfl)
                      rw [e10] at f10
                      unfold Gives
                      go_simp
                      refine (withinD_any _ _ _ P1 P2 n1 _ (xZ.below s.below) (yZ.below s.below) f10).mono ?_
                      rintro e w3 ⟨rfl, hb3⟩
                      exact ⟨_, rfl, by rw [HST.out]; rfl, hb3⟩
                    intro a' ha'
                    subst ha'
                    simp only [Act.put, List.setIfInBounds_toArray, List.set_cons_succ, List.set_cons_zero]
                    rw [e11]
                    refine many_pre 4 (by decide) ?_
                    simp only [List.take_succ_cons, List.take_zero, List.drop_succ_cons, List.drop_zero]
                    repeat (go_big_quiet_step (fail))
                    refine wpQuiet_nil (many_end ?_)
                    intro sz _
                    have hBz := hBZ.trans (sz.below.mono hBZ.size)
                    clear e10 e11
                    go_wp2
                    go_ret
                    exact ⟨rfl, hBz⟩
            · have hE0 : True := trivial
              have he : ¬ (encSpec fr).2 = 0 ∨ ¬ (encSpec ut).2 = 0 := by
                by_cases h : (encSpec fr).2 = 0
                · exact .inr fun h2 => hE ⟨h, h2⟩
                · exact .inl h
              have HE := Lib.hid he
              clear he hE
              rcases HK2.out with hk2 | hk2 | hk2
              all_goals
                subst hk2
                first
                  | have t4 := ZT.out.1 (by decide)
                  | (have t45 := ZT.out.2 (by decide); have t4 := t45.1; have t5 := t45.2; clear t45)
                  | have t4 : True := trivial
                go_wp2_with fail
                refine (rowsSpan_err t _ _ _ _ fr ut _ ((hB10.cell (p := ⟨0, 0, none⟩) (World.block_lt_of_cell? w _ hg)).trans hg) (ht.below hB10) (hf.below hB10) (hu.below hB10) HE.out).mono ?_
                rintro e w11 ⟨rfl, hb11⟩
                have hs12 := hb11.alloc hb11.size (.cells #[.slice none 0 0, .slice none 0 0] 43)
                have hB12 := hB10.trans (hs12.mono hB10.size)
                clear t4 a0 a1 a2 a3
                go_wp2_with fail
                refine (refEnc_rv _ fr _ (hf.below hB12)).mono ?_
                rintro e w13 ⟨⟨A7, n7, c7, rfl, _⟩, hb13⟩
                have hs13 := hs12.trans (hb13.mono hs12.size)
                have hB13 := hB10.trans (hs13.mono hB10.size)
                obtain ⟨x1, hx1⟩ : ∃ x, x = (encSpec fr).2 := ⟨_, rfl⟩
                obtain ⟨x2, hx2⟩ : ∃ x, x = (encSpec ut).2 := ⟨_, rfl⟩
                have HX : Hid (¬ x1 = 0 ∨ ¬ x2 = 0) := by rw [hx1, hx2]; exact HE.out
                rw [← hx1]
                have HX2 := Lib.hid hx2
                clear hx1 hx2
                go_wp2_with fail
                refine (refEnc_rv _ ut _ (hu.below hB13)).mono ?_
                rintro e w14 ⟨⟨A8, n8, c8, rfl, _⟩, hb14⟩
                have hs14 := hs13.trans (hb14.mono hs13.size)
                have hB14 := hB10.trans (hs14.mono hB10.size)
                rw [← HX2.out]
                by_cases hz1 : x1 = 0
                · have hz2 : (x2 != 0) = true := by simpa using HX.out.resolve_left fun h => h hz1
                  subst hz1
                  go_wp2
                  go_ret
                  exact ⟨ret_bool (by first | rfl | assumption), hB14⟩
                · have hz3 : (x1 != 0) = true := by simpa using hz1
                  clear hz1
                  go_wp2
                  go_ret
                  exact ⟨ret_bool (by first | rfl | assumption), hB14⟩
end Go.Proofs.YthjicmdmhmffmaaDoor
