/- TupleBegins's walk. -/
import Derived.Test.YtikkknaofiafhaaC5
import Derived.Test.YtikkknaofiafhaaC6
import Derived.Test.YtikkknaofiafhaaC7
namespace Go.Proofs.Ytikkknaofiafhaa
open Go.RowKit

theorem vlen {w : World} {A : Option Addr} {n : Nat} {l : List Val} (h : Rd w 3 A n (vcs l)) : l.length = n := by have := h.1; rw [vcs_length] at this; omega
theorem encSpec_ok (l : List Val) (h : allRight l = true) (hl : l.length ≤ 16) : encSpec l = (encL l, 0) := by
  rw [encSpec, h, if_pos rfl, if_neg (by omega)]
theorem allRight_append {a b : List Val} (h : allRight a = true) (k : allRight b = true) : allRight (a ++ b) = true := by
  unfold allRight at *; rw [List.all_append, h, k]; rfl
theorem okVals_append {a b : List Val} (h : okVals a) (k : okVals b) : okVals (a ++ b) := fun x hx => by
  rcases List.mem_append.1 hx with h1 | h1
  · exact h x h1
  · exact k x h1

set_option maxRecDepth 100000 in
set_option maxHeartbeats 3200000 in
theorem lawBegins (A1 A2 A3 : Option Addr) (n1 c1 n2 c2 n3 c3 : Nat) (va vm vo : List Val) (w : World) (r1 : Rd w 3 A1 n1 (vcs va)) (r2 : Rd w 3 A2 n2 (vcs vm)) (r3 : Rd w 3 A3 n3 (vcs vo)) (b1 : n1 ≤ 4398046511104) (b2 : n2 ≤ 4398046511104) (b3 : n3 ≤ 4398046511104) (hc3 : n3 ≤ c3) (ok1 : okVals va) (ok2 : okVals vm) (ok3 : okVals vo) :
    Calls Try.prog 4 #[.slice A1 n1 c1, .slice A2 n2 c2, .slice A3 n3 c3] w fun e w' => e = .returned (.bool true) ∧ Below w.heap.size w w' := by
  cases hHA : (allRight va && decide ((n1 : Int) < 60))
  · have HA := Lib.hid hHA; clear hHA
    go_enter Try.func4, Try.ntmps4
    go_wp2_with fail
    refine (awake_any _).mono ?_
    rintro e w1 ⟨rfl, hb1⟩
    have hB1 := hb1
    go_wp2_with fail
    refine (lawRight_any A1 _ c1 va _ (r1.below hB1) (by omega)).mono ?_
    rintro e w2 ⟨rfl, hb2⟩
    have hB2 := hB1.trans (hb2.mono hB1.size)
    rw [HA.out]
    go_wp2_with fail
    refine (awake_any _).mono ?_
    rintro e w3 ⟨rfl, hb3⟩
    have hB3 := hB2.trans (hb3.mono hB2.size)
    go_wp2
    go_ret
    exact ⟨rfl, hB3⟩
  · have HA := Lib.hid hHA; clear hHA
    cases hHM : (allRight vm && decide ((n2 : Int) < 60))
    · have HM := Lib.hid hHM; clear hHM
      go_enter Try.func4, Try.ntmps4
      go_wp2_with fail
      refine (awake_any _).mono ?_
      rintro e w1 ⟨rfl, hb1⟩
      have hB1 := hb1
      go_wp2_with fail
      refine (lawRight_any A1 _ c1 va _ (r1.below hB1) (by omega)).mono ?_
      rintro e w2 ⟨rfl, hb2⟩
      have hB2 := hB1.trans (hb2.mono hB1.size)
      rw [HA.out]
      go_wp2_with fail
      refine (lawRight_any A2 _ c2 vm _ (r2.below hB2) (by omega)).mono ?_
      rintro e w3 ⟨rfl, hb3⟩
      have hB3 := hB2.trans (hb3.mono hB2.size)
      rw [HM.out]
      go_wp2_with fail
      refine (awake_any _).mono ?_
      rintro e w4 ⟨rfl, hb4⟩
      have hB4 := hB3.trans (hb4.mono hB3.size)
      go_wp2
      go_ret
      exact ⟨rfl, hB4⟩
    · have HM := Lib.hid hHM; clear hHM
      cases hHO : (allRight vo && decide ((n3 : Int) < 60))
      · have HO := Lib.hid hHO; clear hHO
        go_enter Try.func4, Try.ntmps4
        go_wp2_with fail
        refine (awake_any _).mono ?_
        rintro e w1 ⟨rfl, hb1⟩
        have hB1 := hb1
        go_wp2_with fail
        refine (lawRight_any A1 _ c1 va _ (r1.below hB1) (by omega)).mono ?_
        rintro e w2 ⟨rfl, hb2⟩
        have hB2 := hB1.trans (hb2.mono hB1.size)
        rw [HA.out]
        go_wp2_with fail
        refine (lawRight_any A2 _ c2 vm _ (r2.below hB2) (by omega)).mono ?_
        rintro e w3 ⟨rfl, hb3⟩
        have hB3 := hB2.trans (hb3.mono hB2.size)
        rw [HM.out]
        go_wp2_with fail
        refine (lawRight_any A3 _ c3 vo _ (r3.below hB3) (by omega)).mono ?_
        rintro e w4 ⟨rfl, hb4⟩
        have hB4 := hB3.trans (hb4.mono hB3.size)
        rw [HO.out]
        go_wp2_with fail
        refine (awake_any _).mono ?_
        rintro e w5 ⟨rfl, hb5⟩
        have hB5 := hB4.trans (hb5.mono hB4.size)
        go_wp2
        go_ret
        exact ⟨rfl, hB5⟩
      · have HO := Lib.hid hHO; clear hHO
        by_cases hs1 : 16 < n1 + n2
        · go_enter Try.func4, Try.ntmps4
          go_wp2_with fail
          refine (awake_any _).mono ?_
          rintro e w1 ⟨rfl, hb1⟩
          have hB1 := hb1
          go_wp2_with fail
          refine (lawRight_any A1 _ c1 va _ (r1.below hB1) (by omega)).mono ?_
          rintro e w2 ⟨rfl, hb2⟩
          have hB2 := hB1.trans (hb2.mono hB1.size)
          rw [HA.out]
          go_wp2_with fail
          refine (lawRight_any A2 _ c2 vm _ (r2.below hB2) (by omega)).mono ?_
          rintro e w3 ⟨rfl, hb3⟩
          have hB3 := hB2.trans (hb3.mono hB2.size)
          rw [HM.out]
          go_wp2_with fail
          refine (lawRight_any A3 _ c3 vo _ (r3.below hB3) (by omega)).mono ?_
          rintro e w4 ⟨rfl, hb4⟩
          have hB4 := hB3.trans (hb4.mono hB3.size)
          rw [HO.out]
          go_wp2_with fail
          refine (awake_any _).mono ?_
          rintro e w5 ⟨rfl, hb5⟩
          have hB5 := hB4.trans (hb5.mono hB4.size)
          go_wp2
          go_ret
          exact ⟨rfl, hB5⟩
        · by_cases hs2 : 16 < n3
          · go_enter Try.func4, Try.ntmps4
            go_wp2_with fail
            refine (awake_any _).mono ?_
            rintro e w1 ⟨rfl, hb1⟩
            have hB1 := hb1
            go_wp2_with fail
            refine (lawRight_any A1 _ c1 va _ (r1.below hB1) (by omega)).mono ?_
            rintro e w2 ⟨rfl, hb2⟩
            have hB2 := hB1.trans (hb2.mono hB1.size)
            rw [HA.out]
            go_wp2_with fail
            refine (lawRight_any A2 _ c2 vm _ (r2.below hB2) (by omega)).mono ?_
            rintro e w3 ⟨rfl, hb3⟩
            have hB3 := hB2.trans (hb3.mono hB2.size)
            rw [HM.out]
            go_wp2_with fail
            refine (lawRight_any A3 _ c3 vo _ (r3.below hB3) (by omega)).mono ?_
            rintro e w4 ⟨rfl, hb4⟩
            have hB4 := hB3.trans (hb4.mono hB3.size)
            rw [HO.out]
            go_wp2_with fail
            refine (awake_any _).mono ?_
            rintro e w5 ⟨rfl, hb5⟩
            have hB5 := hB4.trans (hb5.mono hB4.size)
            go_wp2
            go_ret
            exact ⟨rfl, hB5⟩
          · by_cases hs3 : n1 = 0
            · subst hs3
              go_enter Try.func4, Try.ntmps4
              go_wp2_with fail
              refine (awake_any _).mono ?_
              rintro e w1 ⟨rfl, hb1⟩
              have hB1 := hb1
              go_wp2_with fail
              refine (lawRight_any A1 _ c1 va _ (r1.below hB1) (by omega)).mono ?_
              rintro e w2 ⟨rfl, hb2⟩
              have hB2 := hB1.trans (hb2.mono hB1.size)
              rw [HA.out]
              go_wp2_with fail
              refine (lawRight_any A2 _ c2 vm _ (r2.below hB2) (by omega)).mono ?_
              rintro e w3 ⟨rfl, hb3⟩
              have hB3 := hB2.trans (hb3.mono hB2.size)
              rw [HM.out]
              go_wp2_with fail
              refine (lawRight_any A3 _ c3 vo _ (r3.below hB3) (by omega)).mono ?_
              rintro e w4 ⟨rfl, hb4⟩
              have hB4 := hB3.trans (hb4.mono hB3.size)
              rw [HO.out]
              go_wp2_with fail
              refine (awake_any _).mono ?_
              rintro e w5 ⟨rfl, hb5⟩
              have hB5 := hB4.trans (hb5.mono hB4.size)
              go_wp2
              go_ret
              exact ⟨rfl, hB5⟩
            · have hz0 : ((n1 : Int) == 0) = false := by rw [beq_eq_false_iff_ne]; omega
              replace hs3 : 0 < n1 := by omega
              go_enter Try.func4, Try.ntmps4
              go_wp2_with fail
              refine (awake_any _).mono ?_
              rintro e w1 ⟨rfl, hb1⟩
              have hB1 := hb1
              go_wp2_with fail
              refine (lawRight_any A1 _ c1 va _ (r1.below hB1) (by omega)).mono ?_
              rintro e w2 ⟨rfl, hb2⟩
              have hB2 := hB1.trans (hb2.mono hB1.size)
              rw [HA.out]
              go_wp2_with fail
              refine (lawRight_any A2 _ c2 vm _ (r2.below hB2) (by omega)).mono ?_
              rintro e w3 ⟨rfl, hb3⟩
              have hB3 := hB2.trans (hb3.mono hB2.size)
              rw [HM.out]
              go_wp2_with fail
              refine (lawRight_any A3 _ c3 vo _ (r3.below hB3) (by omega)).mono ?_
              rintro e w4 ⟨rfl, hb4⟩
              have hB4 := hB3.trans (hb4.mono hB3.size)
              rw [HO.out]
              have ra : allRight va = true := (Bool.and_eq_true_iff.1 HA.out).1
              have rm : allRight vm = true := (Bool.and_eq_true_iff.1 HM.out).1
              have ro : allRight vo = true := (Bool.and_eq_true_iff.1 HO.out).1
              have L1 := Lib.hid (vlen r1)
              have L2 := Lib.hid (vlen r2)
              have L3 := Lib.hid (vlen r3)
              have HX := Lib.hid (encSpec_ok va ra (by rw [L1.out]; omega))
              have HY := Lib.hid (encSpec_ok (va ++ vm) (allRight_append ra rm) (by rw [List.length_append, L1.out, L2.out]; omega))
              have HZ := Lib.hid (encSpec_ok vo ro (by rw [L3.out]; omega))
              have RA := Lib.hid ra
              have RM := Lib.hid rm
              have RO := Lib.hid ro
              clear ra rm ro
              go_wp2_with fail
              refine (enc_any A1 n1 c1 va _ (r1.below hB4) (by omega) ok1).mono ?_
              unfold EncPost
              rw [HX.out]
              rintro e w5 ⟨⟨Ax, nx, cx, rfl, ox⟩, hb5⟩
              have hB5 := hB4.trans (hb5.mono hB4.size)
              go_wp2_with (first | (at_builtin; refine wp_append_vals rfl _ (.tmp 57) rfl w5.heap.size none 0 0 [] w5 rfl (OwnV.nil_ _ _) A1 n1 c1 va rfl (r1.below hB5) (by omega) (Nat.le_refl _) ?_; intro A6 c6 w6 o6 hb6; rw [Nat.zero_add, List.nil_append] at o6; have hB6 := hB5.trans (hb6.mono hB5.size)) | (at_builtin; refine wp_append_vals rfl _ (.tmp 59) rfl w5.heap.size A6 n1 c6 va w6 rfl o6 A2 n2 c2 vm rfl (r2.below hB6) (by omega) hb6.size ?_; intro A7 c7 w7 o7 hb7; have hB7 := hB6.trans (hb7.mono hB5.size)))
              refine (enc_any A7 (n1 + n2) c7 (va ++ vm) _ o7.rd (by omega) (okVals_append ok1 ok2)).mono ?_
              unfold EncPost
              rw [HY.out]
              rintro e w8 ⟨⟨Ay, ny, cy, rfl, oy⟩, hb8⟩
              have hB8 := hB7.trans (hb8.mono hB7.size)
              go_wp2_with fail
              refine (enc_any A3 n3 c3 vo _ (r3.below hB8) (by omega) ok3).mono ?_
              unfold EncPost
              rw [HZ.out]
              rintro e w9 ⟨⟨Az, nz, cz, rfl, oz⟩, hb9⟩
              have hB9 := hB8.trans (hb9.mono hB8.size)
              have k59 : Below w5.heap.size w5 w9 := (hb6.trans hb7).trans ((hb8.mono (hb6.trans hb7).size).trans (hb9.mono (Nat.le_trans (hb6.trans hb7).size hb8.size)))
              have rx9 := ox.rd.below k59
              have hnx : nx ≤ 43 * 16 := by
                have h1 := ox.len
                have h2 := encL_length_le va RA.out
                rw [L1.out] at h2
                omega
              go_wp2_with fail
              refine (end_any Ax nx cx (encL va) _ rx9 ox.cap (by omega)).mono ?_
              rintro e w10 ⟨⟨Ae, ne, ce, rfl, oe⟩, hb10⟩
              have hB10 := hB9.trans (hb10.mono hB9.size)
              have hE := encL_endB va RA.out (by intro h; have := L1.out; rw [h] at this; simp at this; omega)
              have rx := rx9.below hb10
              have ry := (oy.rd.below hb9).below hb10
              have rz := oz.rd.below hb10
              have re := oe.rd
              have eY : encL (va ++ vm) = encL va ++ encL vm := by unfold encL; rw [List.flatMap_append]
              have t1 : Op.bytesLess (str (encL (va ++ vm))).toList (str (encL va)).toList = false := by
                rw [str_toList, str_toList, eY]
                have := bl_pre (encL va) (encL vm) []
                rw [List.append_nil, bl_nil_r] at this
                exact this
              have t2 : Op.bytesLess (str (encL (va ++ vm))).toList (str (endB (encL va))).toList = true := by
                rw [str_toList, str_toList, eY]
                exact end_above _ _ hE
              have HP := Lib.hid (between_iff (encL vo) (encL va) hE)
              have HQ := Lib.hid (encL_begins va vo RA.out RO.out ok1 ok3)
              clear hE eY
              have sx := run_str (c := cx) (P := Try.prog) 27 9 5 Try.underlying27 Try.underlying5 Try.underlying9 (rx)
              have sy := run_str (c := cy) (P := Try.prog) 27 9 5 Try.underlying27 Try.underlying5 Try.underlying9 (ry)
              have sz := run_str (c := cz) (P := Try.prog) 27 9 5 Try.underlying27 Try.underlying5 Try.underlying9 (rz)
              have se := run_str (c := ce) (P := Try.prog) 27 9 5 Try.underlying27 Try.underlying5 Try.underlying9 (re)
              by_cases hle : n1 ≤ n3
              · have hmin : min n1 n3 = n1 := Nat.min_eq_left hle
                have rt : Rd w10 3 A3 n1 (vcs (vo.take n1)) := by
                  have := (r3.below hB10).take (k := n1) hle
                  rwa [vcs_take] at this
                go_wp2_with fail
                refine (refCmp_any A3 n1 c3 A1 n1 c1 (vo.take n1) va _ rt (r1.below hB10) (by omega) (by omega)).mono ?_
                rintro e w11 ⟨rfl, hb11⟩
                have hB11 := hB10.trans (hb11.mono hB10.size)
                have sx := run_str (c := cx) (P := Try.prog) 27 9 5 Try.underlying27 Try.underlying5 Try.underlying9 (rx.below hb11)
                have sz := run_str (c := cz) (P := Try.prog) 27 9 5 Try.underlying27 Try.underlying5 Try.underlying9 (rz.below hb11)
                have se := run_str (c := ce) (P := Try.prog) 27 9 5 Try.underlying27 Try.underlying5 Try.underlying9 (re.below hb11)
                by_cases hp : vo.take n1 = va
                · have hc : (cmpR (vo.take n1) va == 0) = true := by rw [beq_iff_eq]; exact (cmpR_zero _ _).2 hp
                  have hbt : beginsB (encL vo) (encL va) = true := HQ.out.2 (by rw [L1.out]; exact hp)
                  have hbw := HP.out
                  rw [hbt] at hbw
                  obtain ⟨u1, u2⟩ := Bool.and_eq_true_iff.1 hbw
                  have t3 : Op.bytesLess (str (encL vo)).toList (str (encL va)).toList = false := by rw [str_toList, str_toList]; simpa using u1
                  have t4 : Op.bytesLess (str (encL vo)).toList (str (endB (encL va))).toList = true := by rw [str_toList, str_toList]; exact u2
                  clear hbt hbw u1 u2 hp
                  go_wp2
                  go_ret
                  exact ⟨rfl, hB11⟩
                · have hc : (cmpR (vo.take n1) va == 0) = false := by rw [beq_eq_false_iff_ne]; exact fun h => hp ((cmpR_zero _ _).1 h)
                  have hbt : beginsB (encL vo) (encL va) = false := by
                    cases hb : beginsB (encL vo) (encL va)
                    · rfl
                    · exact absurd (by have := HQ.out.1 hb; rwa [L1.out] at this) hp
                  have hbw := HP.out
                  rw [hbt] at hbw
                  clear hp hbt
                  cases hu : Op.bytesLess (encL vo) (encL va)
                  · rw [hu] at hbw
                    have t3 : Op.bytesLess (str (encL vo)).toList (str (encL va)).toList = false := by rw [str_toList, str_toList]; exact hu
                    have t4 : Op.bytesLess (str (encL vo)).toList (str (endB (encL va))).toList = false := by rw [str_toList, str_toList]; simpa using hbw
                    clear hu hbw
                    go_wp2
                    go_ret
                    exact ⟨rfl, hB11⟩
                  · have t3 : Op.bytesLess (str (encL vo)).toList (str (encL va)).toList = true := by rw [str_toList, str_toList]; exact hu
                    clear hu hbw
                    go_wp2
                    go_ret
                    exact ⟨rfl, hB11⟩
              · have hbt : beginsB (encL vo) (encL va) = false := by
                  cases hb : beginsB (encL vo) (encL va)
                  · rfl
                  · have h1 := congrArg List.length (HQ.out.1 hb)
                    rw [List.length_take, L1.out, L3.out] at h1
                    omega
                have hbw := HP.out
                rw [hbt] at hbw
                clear hbt
                cases hu : Op.bytesLess (encL vo) (encL va)
                · rw [hu] at hbw
                  have t3 : Op.bytesLess (str (encL vo)).toList (str (encL va)).toList = false := by rw [str_toList, str_toList]; exact hu
                  have t4 : Op.bytesLess (str (encL vo)).toList (str (endB (encL va))).toList = false := by rw [str_toList, str_toList]; simpa using hbw
                  clear hu hbw
                  go_wp2
                  go_ret
                  exact ⟨rfl, hB10⟩
                · have t3 : Op.bytesLess (str (encL vo)).toList (str (encL va)).toList = true := by rw [str_toList, str_toList]; exact hu
                  clear hu hbw
                  go_wp2
                  go_ret
                  exact ⟨rfl, hB10⟩
end Go.Proofs.Ytikkknaofiafhaa
