/- TupleJoin's walk. -/
import Derived.Test.YtikkknaofiafhaaLOrder
namespace Go.Proofs.Ytikkknaofiafhaa
open Go.RowKit

/-- a guarded step that is wanted -/
theorem wpList_awake {P : Program} {ops : Array Oper} {Q : Exit → Act → World → Prop} {a : Act} {w : World} {rest : List Oper} {o : Oper} (hw : Region.wanted o (yielded ops a.tmps) = true)
    (h : wpList P ops Q ({ o with guard := none } :: rest) a w) : wpList P ops Q (o :: rest) a w := by
  unfold wpList at *
  rw [if_pos hw]
  rw [if_pos (by simp [Region.wanted])] at h
  exact h

set_option maxRecDepth 100000 in
set_option maxHeartbeats 3200000 in
theorem lawJoin (A1 A2 : Option Addr) (n1 c1 n2 c2 : Nat) (va vb : List Val) (w : World) (r1 : Rd w 3 A1 n1 (vcs va)) (r2 : Rd w 3 A2 n2 (vcs vb)) (b1 : n1 ≤ 4398046511104) (b2 : n2 ≤ 4398046511104) (ok1 : okVals va) (ok2 : okVals vb) :
    Calls Try.prog 9 #[.slice A1 n1 c1, .slice A2 n2 c2] w fun e w' => e = .returned (.bool true) ∧ Below w.heap.size w w' := by
  cases hHA : (allRight va && decide ((n1 : Int) < 60))
  · have HA := Lib.hid hHA; clear hHA
    go_enter Try.func9, Try.ntmps9
    go_wp2_with fail
    refine (awake_any _).mono ?_
    rintro e w1 ⟨rfl, hb1⟩
    have hB1 := hb1
    go_wp2_with fail
    refine (lawRight_any A1 _ c1 va _ (r1.below hB1) (by omega)).mono ?_
    rintro e w2 ⟨rfl, hb2⟩
    have hB2 := hB1.trans (hb2.mono hB1.size)
    rw [HA.out]
    go_wp2_with fail
    refine (awake_any _).mono ?_
    rintro e w3 ⟨rfl, hb3⟩
    have hB3 := hB2.trans (hb3.mono hB2.size)
    go_wp2
    go_ret
    exact ⟨rfl, hB3⟩
  · have HA := Lib.hid hHA; clear hHA
    cases hHB : (allRight vb && decide ((n2 : Int) < 60))
    · have HB := Lib.hid hHB; clear hHB
      go_enter Try.func9, Try.ntmps9
      go_wp2_with fail
      refine (awake_any _).mono ?_
      rintro e w1 ⟨rfl, hb1⟩
      have hB1 := hb1
      go_wp2_with fail
      refine (lawRight_any A1 _ c1 va _ (r1.below hB1) (by omega)).mono ?_
      rintro e w2 ⟨rfl, hb2⟩
      have hB2 := hB1.trans (hb2.mono hB1.size)
      rw [HA.out]
      go_wp2_with fail
      refine (lawRight_any A2 _ c2 vb _ (r2.below hB2) (by omega)).mono ?_
      rintro e w3 ⟨rfl, hb3⟩
      have hB3 := hB2.trans (hb3.mono hB2.size)
      rw [HB.out]
      go_wp2_with fail
      refine (awake_any _).mono ?_
      rintro e w4 ⟨rfl, hb4⟩
      have hB4 := hB3.trans (hb4.mono hB3.size)
      go_wp2
      go_ret
      exact ⟨rfl, hB4⟩
    · have HB := Lib.hid hHB; clear hHB
      by_cases hs1 : 16 < n1 + n2
      · go_enter Try.func9, Try.ntmps9
        go_wp2_with fail
        refine (awake_any _).mono ?_
        rintro e w1 ⟨rfl, hb1⟩
        have hB1 := hb1
        go_wp2_with fail
        refine (lawRight_any A1 _ c1 va _ (r1.below hB1) (by omega)).mono ?_
        rintro e w2 ⟨rfl, hb2⟩
        have hB2 := hB1.trans (hb2.mono hB1.size)
        rw [HA.out]
        go_wp2_with fail
        refine (lawRight_any A2 _ c2 vb _ (r2.below hB2) (by omega)).mono ?_
        rintro e w3 ⟨rfl, hb3⟩
        have hB3 := hB2.trans (hb3.mono hB2.size)
        rw [HB.out]
        go_wp2_with fail
        refine (awake_any _).mono ?_
        rintro e w4 ⟨rfl, hb4⟩
        have hB4 := hB3.trans (hb4.mono hB3.size)
        go_wp2
        go_ret
        exact ⟨rfl, hB4⟩
      · go_enter Try.func9, Try.ntmps9
        go_wp2_with fail
        refine (awake_any _).mono ?_
        rintro e w1 ⟨rfl, hb1⟩
        have hB1 := hb1
        go_wp2_with fail
        refine (lawRight_any A1 _ c1 va _ (r1.below hB1) (by omega)).mono ?_
        rintro e w2 ⟨rfl, hb2⟩
        have hB2 := hB1.trans (hb2.mono hB1.size)
        rw [HA.out]
        go_wp2_with fail
        refine (lawRight_any A2 _ c2 vb _ (r2.below hB2) (by omega)).mono ?_
        rintro e w3 ⟨rfl, hb3⟩
        have hB3 := hB2.trans (hb3.mono hB2.size)
        rw [HB.out]
        have ra : allRight va = true := (Bool.and_eq_true_iff.1 HA.out).1
        have rb : allRight vb = true := (Bool.and_eq_true_iff.1 HB.out).1
        have L1 := Lib.hid (vlen r1)
        have L2 := Lib.hid (vlen r2)
        have L3 : Hid ((va ++ vb).length = n1 + n2) := by rw [List.length_append, L1.out, L2.out]; trivial
        have HX := Lib.hid (encSpec_ok va ra (by rw [L1.out]; omega))
        have HY := Lib.hid (encSpec_ok vb rb (by rw [L2.out]; omega))
        have HZ := Lib.hid (encSpec_ok (va ++ vb) (allRight_append ra rb) (by rw [L3.out]; omega))
        have HD := Lib.hid (decB_enc (va ++ vb) (allRight_append ra rb) (okVals_append ok1 ok2) (by rw [L3.out]; omega))
        have eY : encL (va ++ vb) = encL va ++ encL vb := by unfold encL; rw [List.flatMap_append]
        have hnl := encL_length_le va ra
        rw [L1.out] at hnl
        have hnl2 := encL_length_le vb rb
        rw [L2.out] at hnl2
        have EY := Lib.hid eY
        clear ra rb eY
        go_wp2_with fail
        refine (enc_any A1 n1 c1 va _ (r1.below hB3) (by omega) ok1).mono ?_
        unfold EncPost
        rw [HX.out]
        rintro e w4 ⟨⟨Ax, nx, cx, rfl, ox⟩, hb4⟩
        have hB4 := hB3.trans (hb4.mono hB3.size)
        have lx := ox.len
        go_wp2_with fail
        refine (enc_any A2 n2 c2 vb _ (r2.below hB4) (by omega) ok2).mono ?_
        unfold EncPost
        rw [HY.out]
        rintro e w5 ⟨⟨Ay, ny, cy, rfl, oy⟩, hb5⟩
        have hB5 := hB4.trans (hb5.mono hB4.size)
        have ly := oy.len
        rw [lx] at hnl
        rw [ly] at hnl2
        go_wp2_with (first | (at_builtin; refine wp_append_vals rfl _ (.tmp 46) rfl w5.heap.size none 0 0 [] w5 rfl (OwnV.nil_ _ _) A1 n1 c1 va rfl (r1.below hB5) (by omega) (Nat.le_refl _) ?_; intro A6 c6 w6 o6 hb6; rw [Nat.zero_add, List.nil_append] at o6; have hB6 := hB5.trans (hb6.mono hB5.size)) | (at_builtin; refine wp_append_vals rfl _ (.tmp 48) rfl w5.heap.size A6 n1 c6 va w6 rfl o6 A2 n2 c2 vb rfl (r2.below hB6) (by omega) hb6.size ?_; intro A7 c7 w7 o7 hb7; have hB7 := hB6.trans (hb7.mono hB5.size)))
        refine (enc_any A7 (n1 + n2) c7 (va ++ vb) _ o7.rd (by omega) (okVals_append ok1 ok2)).mono ?_
        unfold EncPost
        rw [HZ.out]
        rintro e w8 ⟨⟨Az, nz, cz, rfl, oz⟩, hb8⟩
        have hB8 := hB7.trans (hb8.mono hB7.size)
        have k57 := hb6.trans hb7
        have k58 : Below w5.heap.size w5 w8 := k57.trans (hb8.mono k57.size)
        have lz := oz.len
        rw [EY.out, List.length_append, lx, ly] at lz
        subst lz
        have rx8 := (ox.rd.below hb5).below k58
        have ry8 := oy.rd.below k58
        have rv8 := o7.rd.below hb8
        go_wp2_with fail
        refine (copy_any Ax nx cx (encL va) _ rx8 (by omega)).mono ?_
        rintro e w9 ⟨⟨Ac, cc, rfl, oc⟩, hb9⟩
        go_wp2_with (at_builtin; refine wp_append_bytes rfl (.tmp 57) (.tmp 58) rfl w8.heap.size Ac nx cc (encL va) w9 rfl oc Ay ny cy (encL vb) rfl (ry8.below hb9) (by omega) hb9.size ?_; intro A10 c10 w10 o10 hb10)
        have k810 := hb9.trans hb10
        have hB10 := hB8.trans (k810.mono hB8.size)
        rw [← EY.out] at o10
        refine (dec_any A10 (nx + ny) c10 (encL (va ++ vb)) _ o10.rd o10.cap (by omega)).mono ?_
        rintro e w11 hp
        obtain ⟨Ad, cd, rfl, od, hb11⟩ := decPost_of HD.out L3.out o10.len hp
        have hB11 := hB10.trans (hb11.mono hB10.size)
        have rx11 := (rx8.below k810).below hb11
        have ry11 := (ry8.below k810).below hb11
        have rz11 := (oz.rd.below k810).below hb11
        have rv11 := (rv8.below k810).below hb11
        clear hp
        go_wp2_with fail
        refine (copy_any Ax nx cx (encL va) _ rx11 (by omega)).mono ?_
        rintro e w12 ⟨⟨Ae, ce, rfl, oe⟩, hb12⟩
        go_wp2_with (at_builtin; refine wpList_awake (by rfl) ?_; refine wp_append_bytes rfl (.tmp 81) (.tmp 82) rfl w11.heap.size Ae nx ce (encL va) w12 rfl oe Ay ny cy (encL vb) rfl (ry11.below hb12) (by omega) hb12.size ?_; intro A13 c13 w13 o13 hb13)
        have k1113 := hb12.trans hb13
        have hB13 := hB11.trans (k1113.mono hB11.size)
        rw [← EY.out] at o13
        refine (bytes_same Az A13 (nx + ny) cz (nx + ny) c13 (encL (va ++ vb)) _ (rz11.below k1113) o13.rd).mono ?_
        rintro e w14 ⟨rfl, rfl⟩
        go_wp2_with fail
        refine (plainVal_any Ad (n1 + n2) cd A7 (n1 + n2) c7 (va ++ vb) (va ++ vb) _ (od.rd.below k1113) (rv11.below k1113) (by omega) (by omega)).mono ?_
        rintro e w15 ⟨rfl, hb15⟩
        have hB15 := hB13.trans (hb15.mono hB13.size)
        rw [leq_self]
        go_wp2
        go_ret
        exact ⟨rfl, hB15⟩
end Go.Proofs.Ytikkknaofiafhaa
