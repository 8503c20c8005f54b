/- TupleCut's walk. -/
import Derived.Test.YtikkknaofiafhaaLOrder
import Derived.Test.YtikkknaofiafhaaCut
namespace Go.Proofs.Ytikkknaofiafhaa
open Go.RowKit

theorem cut_at (a : Int) (nx : Nat) (h : nx ≤ 140737488355328) : ∃ k : Nat, wrap64 ((IntKind.u64.wrap a).tmod ((nx : Int) + 1)) = (k : Int) ∧ k ≤ nx := by
  rw [IntKind.wrap_u64]
  obtain ⟨u, hu⟩ : ∃ u, u = a % 18446744073709551616 := ⟨_, rfl⟩
  rw [← hu]
  have h0 : 0 ≤ u := by omega
  rw [Int.tmod_eq_emod_of_nonneg h0]
  have h1 := Int.emod_nonneg u (show (nx : Int) + 1 ≠ 0 by omega)
  have h2 := Int.emod_lt_of_pos u (show 0 < (nx : Int) + 1 by omega)
  generalize u % ((nx : Int) + 1) = r at *
  refine ⟨r.toNat, ?_, by omega⟩
  unfold wrap64
  omega
theorem okVals_take {l : List Val} (h : okVals l) (i : Nat) : okVals (l.take i) := fun x hx => h x (List.mem_of_mem_take hx)
theorem decPost_of8 {l : List UInt8} {w w' : World} {e : Ending} (h : decB l = ([], 8)) (hp : DecPost l w e w') :
    ∃ (A : Option Addr) (c : Nat), e = .returned (.tuple #[.slice A 0 c, .int .i64 0, .int .i64 8]) ∧ Below w.heap.size w w' := by
  unfold DecPost at hp
  rw [h] at hp
  obtain ⟨A, c, he, ho, hb⟩ := hp
  rw [if_neg (by decide)] at he
  exact ⟨A, c, he, hb⟩

set_option maxRecDepth 100000 in
set_option maxHeartbeats 3200000 in
theorem lawCut (A1 : Option Addr) (n1 c1 : Nat) (va : List Val) (at_ : Int) (w : World) (r1 : Rd w 3 A1 n1 (vcs va)) (b1 : n1 ≤ 4398046511104) (hc1 : n1 ≤ c1) (ok1 : okVals va) (i1 : -9223372036854775808 ≤ at_) (i2 : at_ < 9223372036854775808) :
    Calls Try.prog 10 #[.slice A1 n1 c1, .int .i64 at_] w fun e w' => e = .returned (.bool true) ∧ Below w.heap.size w w' := by
  cases hHA : (allRight va && decide ((n1 : Int) < 60))
  · have HA := Lib.hid hHA; clear hHA
    go_enter Try.func10, Try.ntmps10
    go_wp2_with fail
    refine (awake_any _).mono ?_
    rintro e w1 ⟨rfl, hb1⟩
    have hB1 := hb1
    go_wp2_with fail
    refine (lawRight_any A1 _ c1 va _ (r1.below hB1) (by omega)).mono ?_
    rintro e w2 ⟨rfl, hb2⟩
    have hB2 := hB1.trans (hb2.mono hB1.size)
    rw [HA.out]
    go_wp2_with fail
    refine (awake_any _).mono ?_
    rintro e w3 ⟨rfl, hb3⟩
    have hB3 := hB2.trans (hb3.mono hB2.size)
    go_wp2
    go_ret
    exact ⟨rfl, hB3⟩
  · have HA := Lib.hid hHA; clear hHA
    by_cases hs1 : 16 < n1
    · go_enter Try.func10, Try.ntmps10
      go_wp2_with fail
      refine (awake_any _).mono ?_
      rintro e w1 ⟨rfl, hb1⟩
      have hB1 := hb1
      go_wp2_with fail
      refine (lawRight_any A1 _ c1 va _ (r1.below hB1) (by omega)).mono ?_
      rintro e w2 ⟨rfl, hb2⟩
      have hB2 := hB1.trans (hb2.mono hB1.size)
      rw [HA.out]
      go_wp2_with fail
      refine (awake_any _).mono ?_
      rintro e w3 ⟨rfl, hb3⟩
      have hB3 := hB2.trans (hb3.mono hB2.size)
      go_wp2
      go_ret
      exact ⟨rfl, hB3⟩
    · go_enter Try.func10, Try.ntmps10
      go_wp2_with fail
      refine (awake_any _).mono ?_
      rintro e w1 ⟨rfl, hb1⟩
      have hB1 := hb1
      go_wp2_with fail
      refine (lawRight_any A1 _ c1 va _ (r1.below hB1) (by omega)).mono ?_
      rintro e w2 ⟨rfl, hb2⟩
      have hB2 := hB1.trans (hb2.mono hB1.size)
      rw [HA.out]
      have ra : allRight va = true := (Bool.and_eq_true_iff.1 HA.out).1
      have L1 := Lib.hid (vlen r1)
      have HX := Lib.hid (encSpec_ok va ra (by rw [L1.out]; omega))
      have hnl := encL_length_le va ra
      rw [L1.out] at hnl
      have RA := Lib.hid ra
      clear ra
      go_wp2_with fail
      refine (enc_any A1 n1 c1 va _ (r1.below hB2) (by omega) ok1).mono ?_
      unfold EncPost
      rw [HX.out]
      rintro e w3 ⟨⟨Ax, nx, cx, rfl, ox⟩, hb3⟩
      have hB3 := hB2.trans (hb3.mono hB2.size)
      have lx := ox.len
      rw [lx] at hnl
      have hcap := ox.cap
      obtain ⟨k, hk, hkn⟩ := cut_at at_ nx (by omega)
      clear i1 i2
      have rk := ox.rd.take (k := k) hkn
      rw [Nat.mul_one, bs_take] at rk
      by_cases hex : ∃ i0, i0 ≤ va.length ∧ (encL (va.take i0)).length = k
      · obtain ⟨i0, hi0, hl0⟩ := hex
        have HD := Lib.hid (decB_whole va RA.out ok1 (by rw [L1.out]; omega) i0 k hl0)
        have HL := Lib.hid hl0; clear hl0
        rw [L1.out] at hi0
        have ht0 : (va.take i0).length = i0 := by rw [List.length_take, L1.out]; omega
        have hek : ((encL va).take k).length = k := by rw [List.length_take, lx]; omega
        go_wp2_with fail
        refine (dec_any Ax k cx ((encL va).take k) _ rk (Nat.le_trans hkn ox.cap) (by omega)).mono ?_
        rintro e w4 hp
        obtain ⟨Ad, cd, rfl, od, hb4⟩ := decPost_of HD.out ht0 hek hp
        have hB4 := hB3.trans (hb4.mono hB3.size)
        have rd4 := od.rd
        rw [hk]
        clear hp ht0 hek hk
        go_wp2
        go_loopw [11, 12] (fun v j wr => ∃ (i : Nat) (wl : Int), i ≤ n1 + 1 ∧ v = .int .i64 wl ∧ j = .int .i64 (i : Int) ∧ Below w.heap.size w wr ∧ Below w4.heap.size w4 wr ∧ Hid (∀ q, q < i → (encL (va.take q)).length ≠ k)) (fun _ j _ => n1 + 1 - (intOf j).toNat)
        case atStart => exact ⟨0, 0, by omega, rfl, rfl, hB4, Below.refl _ _, fun q h => absurd h (by omega)⟩
        case round =>
          obtain ⟨i, wl, hi, rfl, rfl, hb, hbd, HQ⟩ := hrel
          by_cases hlt : i ≤ n1
          · have hle : (i : Int) ≤ (n1 : Int) := by omega
            have rt := (r1.below hb).take (k := i) hlt
            rw [vcs_take] at rt
            have HT := Lib.hid (encSpec_ok (va.take i) (allRight_take va RA.out i) (by rw [List.length_take, L1.out]; omega))
            have okt := okVals_take ok1 i
            go_wp2_with fail
            refine (enc_any A1 i c1 (va.take i) _ rt (by omega) okt).mono ?_
            unfold EncPost
            rw [HT.out]
            rintro e w5 ⟨⟨Ay, ny, cy, rfl, oy⟩, hb5⟩
            have hB5 := hb.trans (hb5.mono hb.size)
            have ly : (encL (va.take i)).length = ny := oy.len
            have hbd5 := hbd.trans (hb5.mono hbd.size)
            by_cases hy : ny = k
            · have he : va.take i0 = va.take i := by
                have h1 := decB_whole va RA.out ok1 (by rw [L1.out]; omega) i k (by rw [← hy]; exact ly)
                rw [HD.out] at h1
                exact congrArg Prod.fst h1
              have hq : ((ny : Int) == (k : Int)) = true := by rw [beq_iff_eq]; omega
              have rt5 := rt.below hb5
              have rd5 := rd4.below hbd5
              clear ly
              subst hy
              go_wp2_with fail
              refine (plainVal_any Ad i0 cd A1 i c1 (va.take i0) (va.take i) _ rd5 rt5 (by omega) (by omega)).mono ?_
              rintro e w6 ⟨rfl, hb6⟩
              have hB6 := hB5.trans (hb6.mono hB5.size)
              rw [he, leq_self]
              go_wp2
              go_ret
              exact ⟨rfl, hB6⟩
            · have hq : ((ny : Int) == (k : Int)) = false := by rw [beq_eq_false_iff_ne]; omega
              have HQ2 : Hid (∀ q, q < i + 1 → (encL (va.take q)).length ≠ k) := fun q h => by
                rcases Nat.lt_or_eq_of_le (Nat.le_of_lt_succ h) with h1 | h1
                · exact HQ.out q h1
                · rw [h1, ly]; exact hy
              clear ly
              go_wp2
              go_roundw
              case rel => exact ⟨i + 1, _, by omega, rfl, by go_num, hB5, hbd5, HQ2⟩
              case measure => simp [intOf]; omega
          · exact absurd HL.out (HQ.out i0 (by omega))
      · have hno : ∀ i, i ≤ va.length → (encL (va.take i)).length ≠ k := fun i h1 h2 => hex ⟨i, h1, h2⟩
        have HD := Lib.hid (decB_cut va RA.out ok1 k (by rw [lx]; exact hkn) hno)
        have HL := Lib.hid hno; clear hno hex
        go_wp2_with fail
        refine (dec_any Ax k cx ((encL va).take k) _ rk (Nat.le_trans hkn ox.cap) (by omega)).mono ?_
        rintro e w4 hp
        obtain ⟨Ad, cd, rfl, hb4⟩ := decPost_of8 HD.out hp
        have hB4 := hB3.trans (hb4.mono hB3.size)
        rw [hk]
        clear hp hk
        go_wp2
        go_loopw [11, 12] (fun v j wr => ∃ (i : Nat) (wl : Int), i ≤ n1 + 1 ∧ v = .int .i64 wl ∧ j = .int .i64 (i : Int) ∧ Below w.heap.size w wr ∧ Hid (0 < i → wl = ((encL (va.take (i - 1))).length : Int))) (fun _ j _ => n1 + 1 - (intOf j).toNat)
        case atStart => exact ⟨0, 0, by omega, rfl, rfl, hB4, fun h => absurd h (by omega)⟩
        case round =>
          obtain ⟨i, wl, hi, rfl, rfl, hb, HQ⟩ := hrel
          by_cases hlt : i ≤ n1
          · have hle : (i : Int) ≤ (n1 : Int) := by omega
            have rt := (r1.below hb).take (k := i) hlt
            rw [vcs_take] at rt
            have HT := Lib.hid (encSpec_ok (va.take i) (allRight_take va RA.out i) (by rw [List.length_take, L1.out]; omega))
            have okt := okVals_take ok1 i
            go_wp2_with fail
            refine (enc_any A1 i c1 (va.take i) _ rt (by omega) okt).mono ?_
            unfold EncPost
            rw [HT.out]
            rintro e w5 ⟨⟨Ay, ny, cy, rfl, oy⟩, hb5⟩
            have hB5 := hb.trans (hb5.mono hb.size)
            have ly : (encL (va.take i)).length = ny := oy.len
            have hq : ((ny : Int) == (k : Int)) = false := by
              rw [beq_eq_false_iff_ne]
              intro h
              exact HL.out i (by rw [L1.out]; exact hlt) (by omega)
            have HQ2 : Hid (0 < i + 1 → (ny : Int) = ((encL (va.take (i + 1 - 1))).length : Int)) := fun _ => by rw [Nat.add_sub_cancel, ly]
            clear ly
            go_wp2
            go_roundw
            case rel => exact ⟨i + 1, _, by omega, rfl, by go_num, hB5, HQ2⟩
            case measure => simp [intOf]; omega
          · have hle : ¬ ((i : Int) ≤ (n1 : Int)) := by omega
            have hwl : wl = (nx : Int) := by
              rw [HQ.out (by omega), show i - 1 = n1 by omega, ← L1.out, List.take_length, lx]
            subst hwl
            go_wp2
            go_ret
            exact ⟨rfl, hb⟩
end Go.Proofs.Ytikkknaofiafhaa
