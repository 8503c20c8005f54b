/- TupleOrder's walk. -/
import Derived.Test.YtikkknaofiafhaaC10
import Derived.Test.YtikkknaofiafhaaCmpL
import Derived.Test.YtikkknaofiafhaaLBegins
namespace Go.Proofs.Ytikkknaofiafhaa
open Go.RowKit

theorem decPost_of {l : List UInt8} {a : List Val} {m N : Nat} {w w' : World} {e : Ending} (h : decB l = (a, 0)) (hm : a.length = m) (hN : l.length = N) (hp : DecPost l w e w') :
    ∃ (A : Option Addr) (c : Nat), e = .returned (.tuple #[.slice A m c, .int .i64 (N : Int), .int .i64 0]) ∧ OwnV w.heap.size w' A m c a ∧ Below w.heap.size w w' := by
  unfold DecPost at hp
  rw [h] at hp
  subst hm hN
  obtain ⟨A, c, he, ho, hb⟩ := hp
  rw [if_pos rfl] at he
  exact ⟨A, c, he, ho, hb⟩

set_option maxRecDepth 100000 in
set_option maxHeartbeats 3200000 in
theorem lawOrder (A1 A2 : Option Addr) (n1 c1 n2 c2 : Nat) (va vb : List Val) (w : World) (r1 : Rd w 3 A1 n1 (vcs va)) (r2 : Rd w 3 A2 n2 (vcs vb)) (b1 : n1 ≤ 4398046511104) (b2 : n2 ≤ 4398046511104) (ok1 : okVals va) (ok2 : okVals vb) :
    Calls Try.prog 12 #[.slice A1 n1 c1, .slice A2 n2 c2] w fun e w' => e = .returned (.bool true) ∧ Below w.heap.size w w' := by
  cases hHA : (allRight va && decide ((n1 : Int) < 60))
  · have HA := Lib.hid hHA; clear hHA
    go_enter Try.func12, Try.ntmps12
    go_wp2_with fail
    refine (awake_any _).mono ?_
    rintro e w1 ⟨rfl, hb1⟩
    have hB1 := hb1
    go_wp2_with fail
    refine (lawRight_any A1 _ c1 va _ (r1.below hB1) (by omega)).mono ?_
    rintro e w2 ⟨rfl, hb2⟩
    have hB2 := hB1.trans (hb2.mono hB1.size)
    rw [HA.out]
    go_wp2_with fail
    refine (awake_any _).mono ?_
    rintro e w3 ⟨rfl, hb3⟩
    have hB3 := hB2.trans (hb3.mono hB2.size)
    go_wp2
    go_ret
    exact ⟨rfl, hB3⟩
  · have HA := Lib.hid hHA; clear hHA
    cases hHB : (allRight vb && decide ((n2 : Int) < 60))
    · have HB := Lib.hid hHB; clear hHB
      go_enter Try.func12, Try.ntmps12
      go_wp2_with fail
      refine (awake_any _).mono ?_
      rintro e w1 ⟨rfl, hb1⟩
      have hB1 := hb1
      go_wp2_with fail
      refine (lawRight_any A1 _ c1 va _ (r1.below hB1) (by omega)).mono ?_
      rintro e w2 ⟨rfl, hb2⟩
      have hB2 := hB1.trans (hb2.mono hB1.size)
      rw [HA.out]
      go_wp2_with fail
      refine (lawRight_any A2 _ c2 vb _ (r2.below hB2) (by omega)).mono ?_
      rintro e w3 ⟨rfl, hb3⟩
      have hB3 := hB2.trans (hb3.mono hB2.size)
      rw [HB.out]
      go_wp2_with fail
      refine (awake_any _).mono ?_
      rintro e w4 ⟨rfl, hb4⟩
      have hB4 := hB3.trans (hb4.mono hB3.size)
      go_wp2
      go_ret
      exact ⟨rfl, hB4⟩
    · have HB := Lib.hid hHB; clear hHB
      by_cases hs1 : 16 < n1
      · go_enter Try.func12, Try.ntmps12
        go_wp2_with fail
        refine (awake_any _).mono ?_
        rintro e w1 ⟨rfl, hb1⟩
        have hB1 := hb1
        go_wp2_with fail
        refine (lawRight_any A1 _ c1 va _ (r1.below hB1) (by omega)).mono ?_
        rintro e w2 ⟨rfl, hb2⟩
        have hB2 := hB1.trans (hb2.mono hB1.size)
        rw [HA.out]
        go_wp2_with fail
        refine (lawRight_any A2 _ c2 vb _ (r2.below hB2) (by omega)).mono ?_
        rintro e w3 ⟨rfl, hb3⟩
        have hB3 := hB2.trans (hb3.mono hB2.size)
        rw [HB.out]
        go_wp2_with fail
        refine (awake_any _).mono ?_
        rintro e w4 ⟨rfl, hb4⟩
        have hB4 := hB3.trans (hb4.mono hB3.size)
        go_wp2
        go_ret
        exact ⟨rfl, hB4⟩
      · by_cases hs2 : 16 < n2
        · go_enter Try.func12, Try.ntmps12
          go_wp2_with fail
          refine (awake_any _).mono ?_
          rintro e w1 ⟨rfl, hb1⟩
          have hB1 := hb1
          go_wp2_with fail
          refine (lawRight_any A1 _ c1 va _ (r1.below hB1) (by omega)).mono ?_
          rintro e w2 ⟨rfl, hb2⟩
          have hB2 := hB1.trans (hb2.mono hB1.size)
          rw [HA.out]
          go_wp2_with fail
          refine (lawRight_any A2 _ c2 vb _ (r2.below hB2) (by omega)).mono ?_
          rintro e w3 ⟨rfl, hb3⟩
          have hB3 := hB2.trans (hb3.mono hB2.size)
          rw [HB.out]
          go_wp2_with fail
          refine (awake_any _).mono ?_
          rintro e w4 ⟨rfl, hb4⟩
          have hB4 := hB3.trans (hb4.mono hB3.size)
          go_wp2
          go_ret
          exact ⟨rfl, hB4⟩
        · go_enter Try.func12, Try.ntmps12
          go_wp2_with fail
          refine (awake_any _).mono ?_
          rintro e w1 ⟨rfl, hb1⟩
          have hB1 := hb1
          go_wp2_with fail
          refine (lawRight_any A1 _ c1 va _ (r1.below hB1) (by omega)).mono ?_
          rintro e w2 ⟨rfl, hb2⟩
          have hB2 := hB1.trans (hb2.mono hB1.size)
          rw [HA.out]
          go_wp2_with fail
          refine (lawRight_any A2 _ c2 vb _ (r2.below hB2) (by omega)).mono ?_
          rintro e w3 ⟨rfl, hb3⟩
          have hB3 := hB2.trans (hb3.mono hB2.size)
          rw [HB.out]
          have ra : allRight va = true := (Bool.and_eq_true_iff.1 HA.out).1
          have rb : allRight vb = true := (Bool.and_eq_true_iff.1 HB.out).1
          have L1 := Lib.hid (vlen r1)
          have L2 := Lib.hid (vlen r2)
          have HX := Lib.hid (encSpec_ok va ra (by rw [L1.out]; omega))
          have HY := Lib.hid (encSpec_ok vb rb (by rw [L2.out]; omega))
          have HD := Lib.hid (decB_enc va ra ok1 (by rw [L1.out]; omega))
          have hnl := encL_length_le va ra
          rw [L1.out] at hnl
          obtain ⟨E1, E2, E3⟩ := encL_less va vb ra rb ok1 ok2
          obtain ⟨E4, _, _⟩ := encL_less vb va rb ra ok2 ok1
          go_wp2_with fail
          refine (enc_any A1 n1 c1 va _ (r1.below hB3) (by omega) ok1).mono ?_
          unfold EncPost
          rw [HX.out]
          rintro e w4 ⟨⟨Ax, nx, cx, rfl, ox⟩, hb4⟩
          have hB4 := hB3.trans (hb4.mono hB3.size)
          have lx := ox.len
          go_wp2_with fail
          refine (enc_any A2 n2 c2 vb _ (r2.below hB4) (by omega) ok2).mono ?_
          unfold EncPost
          rw [HY.out]
          rintro e w5 ⟨⟨Ay, ny, cy, rfl, oy⟩, hb5⟩
          have hB5 := hB4.trans (hb5.mono hB4.size)
          have rx5 := ox.rd.below hb5
          go_wp2_with fail
          refine (dec_any Ax nx cx (encL va) _ rx5 ox.cap (by omega)).mono ?_
          rintro e w6 hp
          obtain ⟨Ad, cd, rfl, od, hb6⟩ := decPost_of HD.out L1.out lx hp
          have hB6 := hB5.trans (hb6.mono hB5.size)
          have rd := od.rd
          have rx := rx5.below hb6
          have ry := oy.rd.below hb6
          have sx := run_str (c := cx) (P := Try.prog) 27 9 5 Try.underlying27 Try.underlying5 Try.underlying9 (rx)
          have sy := run_str (c := cy) (P := Try.prog) 27 9 5 Try.underlying27 Try.underlying5 Try.underlying9 (ry)
          clear lx hnl
          rcases cmpL_three va vb with hc | hc | hc
          · have CA := Lib.hid ((cmpA_L va vb ra rb).trans hc)
            have CR := Lib.hid ((cmpR_L va vb).trans hc)
            have CB : Hid (cmpA vb va = 1) := by rw [cmpA_L vb va rb ra, E3, hc]; trivial
            have t1 : Op.bytesLess (str (encL va)).toList (str (encL vb)).toList = true := by rw [str_toList, str_toList, E1, hc]; rfl
            have t2 : Op.bytesLess (str (encL vb)).toList (str (encL va)).toList = false := by rw [str_toList, str_toList, E4, E3, hc]; rfl
            have t3 : ((str (encL va)).toList == (str (encL vb)).toList) = false := by rw [beq_eq_false_iff_ne]; intro h; rw [h, bl_irrefl] at t1; cases t1
            clear hc ra rb E1 E2 E3 E4
            go_wp2_with fail
            refine (plainVal_any Ad n1 cd A1 n1 c1 va va _ rd (r1.below hB6) (by omega) (by omega)).mono ?_
            rintro e w7 ⟨rfl, hb7⟩
            have hB7 := hB6.trans (hb7.mono hB6.size)
            rw [leq_self]
            go_wp2_with fail
            refine (cmp_any A1 n1 c1 A2 n2 c2 va vb _ (r1.below hB7) (r2.below hB7) (by omega) (by omega)).mono ?_
            rintro e w8 ⟨rfl, hb8⟩
            have hB8 := hB7.trans (hb8.mono hB7.size)
            rw [CA.out]
            go_wp2_with fail
            refine (refCmp_any A1 n1 c1 A2 n2 c2 va vb _ (r1.below hB8) (r2.below hB8) (by omega) (by omega)).mono ?_
            rintro e w9 ⟨rfl, hb9⟩
            have hB9 := hB8.trans (hb9.mono hB8.size)
            rw [CR.out]
            go_wp2_with fail
            refine (cmp_any A2 n2 c2 A1 n1 c1 vb va _ (r2.below hB9) (r1.below hB9) (by omega) (by omega)).mono ?_
            rintro e w10 ⟨rfl, hb10⟩
            have hB10 := hB9.trans (hb10.mono hB9.size)
            rw [CB.out]
            go_wp2
            go_ret
            exact ⟨rfl, hB10⟩
          · have CA := Lib.hid ((cmpA_L va vb ra rb).trans hc)
            have CR := Lib.hid ((cmpR_L va vb).trans hc)
            have CB : Hid (cmpA vb va = 0) := by rw [cmpA_L vb va rb ra, E3, hc]; trivial
            have t1 : Op.bytesLess (str (encL va)).toList (str (encL vb)).toList = false := by rw [str_toList, str_toList, E1, hc]; rfl
            have t2 : Op.bytesLess (str (encL vb)).toList (str (encL va)).toList = false := by rw [str_toList, str_toList, E4, E3, hc]; rfl
            have t3 : ((str (encL va)).toList == (str (encL vb)).toList) = true := by rw [E2.1 hc]; exact beq_self_eq_true _
            clear hc ra rb E1 E2 E3 E4
            go_wp2_with fail
            refine (plainVal_any Ad n1 cd A1 n1 c1 va va _ rd (r1.below hB6) (by omega) (by omega)).mono ?_
            rintro e w7 ⟨rfl, hb7⟩
            have hB7 := hB6.trans (hb7.mono hB6.size)
            rw [leq_self]
            go_wp2_with fail
            refine (cmp_any A1 n1 c1 A2 n2 c2 va vb _ (r1.below hB7) (r2.below hB7) (by omega) (by omega)).mono ?_
            rintro e w8 ⟨rfl, hb8⟩
            have hB8 := hB7.trans (hb8.mono hB7.size)
            rw [CA.out]
            go_wp2_with fail
            refine (refCmp_any A1 n1 c1 A2 n2 c2 va vb _ (r1.below hB8) (r2.below hB8) (by omega) (by omega)).mono ?_
            rintro e w9 ⟨rfl, hb9⟩
            have hB9 := hB8.trans (hb9.mono hB8.size)
            rw [CR.out]
            go_wp2_with fail
            refine (cmp_any A2 n2 c2 A1 n1 c1 vb va _ (r2.below hB9) (r1.below hB9) (by omega) (by omega)).mono ?_
            rintro e w10 ⟨rfl, hb10⟩
            have hB10 := hB9.trans (hb10.mono hB9.size)
            rw [CB.out]
            go_wp2
            go_ret
            exact ⟨rfl, hB10⟩
          · have CA := Lib.hid ((cmpA_L va vb ra rb).trans hc)
            have CR := Lib.hid ((cmpR_L va vb).trans hc)
            have CB : Hid (cmpA vb va = -1) := by rw [cmpA_L vb va rb ra, E3, hc]; trivial
            have t1 : Op.bytesLess (str (encL va)).toList (str (encL vb)).toList = false := by rw [str_toList, str_toList, E1, hc]; rfl
            have t2 : Op.bytesLess (str (encL vb)).toList (str (encL va)).toList = true := by rw [str_toList, str_toList, E4, E3, hc]; rfl
            have t3 : ((str (encL va)).toList == (str (encL vb)).toList) = false := by rw [beq_eq_false_iff_ne]; intro h; rw [h, bl_irrefl] at t2; cases t2
            clear hc ra rb E1 E2 E3 E4
            go_wp2_with fail
            refine (plainVal_any Ad n1 cd A1 n1 c1 va va _ rd (r1.below hB6) (by omega) (by omega)).mono ?_
            rintro e w7 ⟨rfl, hb7⟩
            have hB7 := hB6.trans (hb7.mono hB6.size)
            rw [leq_self]
            go_wp2_with fail
            refine (cmp_any A1 n1 c1 A2 n2 c2 va vb _ (r1.below hB7) (r2.below hB7) (by omega) (by omega)).mono ?_
            rintro e w8 ⟨rfl, hb8⟩
            have hB8 := hB7.trans (hb8.mono hB7.size)
            rw [CA.out]
            go_wp2_with fail
            refine (refCmp_any A1 n1 c1 A2 n2 c2 va vb _ (r1.below hB8) (r2.below hB8) (by omega) (by omega)).mono ?_
            rintro e w9 ⟨rfl, hb9⟩
            have hB9 := hB8.trans (hb9.mono hB8.size)
            rw [CR.out]
            go_wp2_with fail
            refine (cmp_any A2 n2 c2 A1 n1 c1 vb va _ (r2.below hB9) (r1.below hB9) (by omega) (by omega)).mono ?_
            rintro e w10 ⟨rfl, hb10⟩
            have hB10 := hB9.trans (hb10.mono hB9.size)
            rw [CB.out]
            go_wp2
            go_ret
            exact ⟨rfl, hB10⟩
end Go.Proofs.Ytikkknaofiafhaa
