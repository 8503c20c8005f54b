/- Contracts: armoireref03.Bytes, armoireref03.Enc.
Contracts: armoirehelp.Own, Same, Plain, Kept at values. -/
import Derived.Test.YthjicmdmhmffmaaDoorC2
namespace Go.Proofs.YthjicmdmhmffmaaDoor
open Go.RowKit

theorem intB_byte2 (i : Int) (k : Nat) (h : k < 8) (h1 : -9223372036854775808 ≤ i) (h2 : i < 9223372036854775808) :
    bits .xor .u64 (IntKind.u64.wrap i) 9223372036854775808 / 2 ^ (8 * (7 - k)) % 256 = (((intB i)[k]'h).toNat : Int) := by
  rw [← intB_byte i k h h1 h2, show 8 * (7 - k) = 56 - 8 * k by omega]

set_option maxRecDepth 100000 in
set_option maxHeartbeats 1600000 in
theorem refBytes_any (A : Option Addr) (n c : Nat) (vs : List Val) (w : World) (hr : Rd w 3 A n (vcs vs)) (hR : allRight vs = true) (hn16 : n ≤ 1000) (hok : okVals vs) :
    Calls Tryd.prog 30 #[.slice A n c] w fun e w' => (∃ A n c, e = .returned (.slice A n c) ∧ OwnB w.heap.size w' A n c (encL vs)) ∧ Below w.heap.size w w' := by
  have hn : vs.length = n := by have := hr.1; rw [vcs_length] at this; omega
  have HN := Lib.hid hn; clear hn
  have HR := Lib.hid hR; clear hR
  go_enter Tryd.func30, Tryd.ntmps30
  go_wp2
  go_loopw [3, 4, 5, 6, 7] (fun v j _ _ _ wr => ∃ (k m : Nat) (A' : Option Addr) (c' : Nat), k ≤ n ∧ v = .slice A' m c' ∧ j = .int .i64 (k : Int) ∧ Below w.heap.size w wr ∧ OwnB w.heap.size wr A' m c' (encL (vs.take k))) (fun _ j _ _ _ _ => n - (intOf j).toNat)
  case atStart => exact ⟨0, 0, none, 0, by omega, rfl, rfl, Below.refl _ _, OwnB.nil_ _ _⟩
  case round =>
    obtain ⟨k, m, A', c', hk, rfl, rfl, hb, hown⟩ := hrel
    by_cases hlt : k < n
    · have hlv : k < vs.length := by rw [HN.out]; exact hlt
      obtain ⟨b, off, rfl, hlb, g0, g1, g2⟩ := hr.valB hlv
      obtain ⟨h0, h1, h2⟩ := val_later hb hlb g0 g1 g2
      have hrk := allRight_get vs HR.out k hlv
      have hmb : m ≤ 43 * k := by
        have h3 := hown.len
        have h4 := encL_length_le (vs.take k) (allRight_take vs HR.out k)
        have h5 : (vs.take k).length ≤ k := List.length_take_le _ _
        omega
      have HOK := Lib.hid (hok _ (List.getElem_mem hlv))
      have HT := Lib.hid (encL_take_succ vs k hlv)
      obtain ⟨⟨xk, xi, xs⟩, hx⟩ : ∃ x, x = vs[k] := ⟨_, rfl⟩
      rw [← hx] at h0 h1 h2 hrk HOK HT
      clear hx g0 g1 g2
      simp only [] at h0 h1 h2 hrk
      obtain ⟨wo, rfl⟩ : ∃ wo : World, wo = wr := ⟨_, rfl⟩
      rcases right_cases hrk with ⟨rfl, rfl, _⟩ | ⟨rfl, _⟩ | ⟨rfl, _, hs⟩
      · clear hrk
        go_wp2_with (at_builtin; refine wp_append_byte rfl (.tmp 14) _ rfl w.heap.size A' m c' _ wo _ 1 rfl rfl hown rfl (by omega) hb.size ?_; intro A2 c2 w1 hown1 hb1; obtain ⟨h01, h11, h21⟩ := val_later hb1 hlb h0 h1 h2)
        go_roundw
        case rel => exact ⟨k + 1, m + 1, A2, c2, by omega, rfl, by go_num, hb.trans hb1, by rw [HT.out]; exact hown1⟩
        case measure => simp [intOf]; omega
      · clear hrk
        go_wp2_with (at_builtin; refine wp_append_byte rfl (.tmp 14) _ rfl w.heap.size A' m c' _ wo _ 2 rfl rfl hown rfl (by omega) hb.size ?_; intro A2 c2 w1 hown1 hb1; obtain ⟨h01, h11, h21⟩ := val_later hb1 hlb h0 h1 h2)
        go_loopw [3, 6] (fun v j wr => ∃ (q : Nat) (A3 : Option Addr) (c3 : Nat), q ≤ 8 ∧ v = .slice A3 (m + 1 + q) c3 ∧ j = .int .i64 (7 - (q : Int)) ∧ Below w.heap.size w wr ∧ OwnB w.heap.size wr A3 (m + 1 + q) c3 (encL (vs.take k) ++ [2] ++ (intB xi).take q)) (fun _ j _ => (64 + intOf j).toNat)
        case atStart => exact ⟨0, A2, c2, by omega, rfl, rfl, hb.trans hb1, by simpa using hown1⟩
        case round =>
          obtain ⟨q, A3, c3, hq, rfl, rfl, hb3, hown3⟩ := hrel
          by_cases hq8 : q < 8
          · have HX := Lib.hid (intB_byte2 xi q hq8 HOK.out.1 HOK.out.2)
            go_wp2_with (at_builtin; refine wp_append_byte rfl (.tmp 42) _ rfl w.heap.size A3 (m + 1 + q) c3 _ wr _ ((intB xi)[q]'hq8) HX.out rfl hown3 rfl (by omega) hb3.size ?_; intro A4 c4 w4 hown4 hb4)
            go_roundw
            case rel => exact ⟨q + 1, A4, c4, by omega, rfl, by go_num, hb3.trans hb4, by
              rw [List.take_succ_eq_append_getElem (by simp [intB_length]; omega), ← List.append_assoc]
              exact hown4⟩
            case measure => simp [intOf]; omega
          · obtain rfl : q = 8 := by omega
            go_wp2
            go_roundw
            case rel => exact ⟨k + 1, m + 1 + 8, A3, c3, by omega, rfl, by go_num, hb3, by rw [HT.out]; have e8 : (intB xi).take 8 = intB xi := rfl; rw [e8] at hown3; simpa [encV] using hown3⟩
            case measure => simp [intOf]; omega
      · clear hrk
        have hl : xs.data.toList.length = xs.size := rfl
        have HL := Lib.hid hl; clear hl
        go_wp2_with (at_builtin; refine wp_append_byte rfl (.tmp 14) _ rfl w.heap.size A' m c' _ wo _ 3 rfl rfl hown rfl (by omega) hb.size ?_; intro A2 c2 w1 hown1 hb1; obtain ⟨h01, h11, h21⟩ := val_later hb1 hlb h0 h1 h2)
        go_loopw [3, 7] (fun v j wr => ∃ (q m3 : Nat) (A3 : Option Addr) (c3 : Nat), q ≤ xs.size ∧ v = .slice A3 m3 c3 ∧ j = .int .i64 (q : Int) ∧ Below w.heap.size w wr ∧ Below w.heap.size w1 wr ∧ OwnB w.heap.size wr A3 m3 c3 (encL (vs.take k) ++ [3] ++ textB (xs.data.toList.take q))) (fun _ j _ => xs.size - (intOf j).toNat)
        case atStart => exact ⟨0, m + 1, A2, c2, by omega, rfl, rfl, hb.trans hb1, Below.refl _ _, by simpa [textB] using hown1⟩
        case round =>
          obtain ⟨q, m3, A3, c3, hq, rfl, rfl, hb3, hbr, hown3⟩ := hrel
          obtain ⟨h02, h12, h22⟩ := val_later hbr hlb h01 h11 h21
          have hm3 : m3 ≤ m + 1 + 2 * q := by
            have e1 := hown3.len
            have e2 := (textB_length (xs.data.toList.take q)).2
            have e3 : (xs.data.toList.take q).length ≤ q := List.length_take_le _ _
            have e4 := hown.len
            simp only [List.length_append, List.length_cons, List.length_nil] at e1
            omega
          by_cases hq8 : q < xs.size
          · have hlt' : q < xs.data.toList.length := by rw [HL.out]; exact hq8
            by_cases hz : xs[q] = 0
            · have ht : ((xs[q].toNat : Int) == 0) = true := by rw [hz]; rfl
              have HE : Hid (textB (xs.data.toList.take (q + 1)) = textB (xs.data.toList.take q) ++ [xs[q]] ++ [255]) := by
                rw [textB_take_succ _ _ hlt', List.append_assoc]
                have : xs.data.toList[q] = xs[q] := rfl
                rw [this, hz]; rfl
              clear hz
              go_wp2_with (first | (at_builtin; refine wp_append_byte rfl (.tmp 63) _ rfl w.heap.size A3 m3 c3 _ wr _ (xs[q]) rfl rfl hown3 rfl (by omega) hb3.size ?_; intro A4 c4 w4 hown4 hb4; obtain ⟨h03, h13, h23⟩ := val_later hb4 hlb h02 h12 h22) | (at_builtin; refine wp_append_byte rfl (.tmp 81) _ rfl w.heap.size A4 (m3 + 1) c4 _ w4 _ 255 rfl rfl hown4 rfl (by omega) (Nat.le_trans hb3.size hb4.size) ?_; intro A5 c5 w5 hown5 hb5))
              go_roundw
              case rel => exact ⟨q + 1, m3 + 1 + 1, A5, c5, by omega, rfl, by go_num, (hb3.trans hb4).trans hb5, (hbr.trans hb4).trans hb5, by rw [HE.out, ← List.append_assoc, ← List.append_assoc]; exact hown5⟩
              case measure => simp [intOf]; omega
            · have ht : ((xs[q].toNat : Int) == 0) = false := by
                rw [beq_eq_false_iff_ne]
                intro h
                exact hz (UInt8.toNat_inj.1 (by simpa using h))
              have HE : Hid (textB (xs.data.toList.take (q + 1)) = textB (xs.data.toList.take q) ++ [xs[q]]) := by
                rw [textB_take_succ _ _ hlt']
                have : xs.data.toList[q] = xs[q] := rfl
                rw [this, escB, if_neg hz]; rfl
              clear hz
              go_wp2_with (at_builtin; refine wp_append_byte rfl (.tmp 63) _ rfl w.heap.size A3 m3 c3 _ wr _ (xs[q]) rfl rfl hown3 rfl (by omega) hb3.size ?_; intro A4 c4 w4 hown4 hb4; obtain ⟨h03, h13, h23⟩ := val_later hb4 hlb h02 h12 h22)
              go_roundw
              case rel => exact ⟨q + 1, m3 + 1, A4, c4, by omega, rfl, by go_num, hb3.trans hb4, hbr.trans hb4, by rw [HE.out, ← List.append_assoc]; exact hown4⟩
              case measure => simp [intOf]; omega
          · obtain rfl : q = xs.size := by omega
            go_wp2_with (at_builtin; refine wp_append_bytes rfl (.tmp 84) _ rfl w.heap.size A3 m3 c3 _ _ rfl (hown3.alloc _) _ 2 2 [0, 1] rfl (Rd.new wr _ 1 2 _ rfl) (by omega) (by have := hb3.size; simp; omega) ?_; intro A4 c4 w4 hown4 hb4)
            go_roundw
            case rel => exact ⟨k + 1, m3 + 2, A4, c4, by omega, rfl, by go_num, (hb3.alloc hb3.size _).trans hb4, by
              rw [List.take_of_length_le (l := xs.data.toList) (by rw [HL.out]; omega)] at hown4
              rw [HT.out]
              simpa [encV] using hown4⟩
            case measure => simp [intOf]; omega
    · have hkn : vs.take k = vs := List.take_of_length_le (by rw [HN.out]; omega)
      go_wp2
      go_ret
      rw [hkn] at hown
      exact ⟨⟨A', m, c', rfl, hown⟩, hb⟩

set_option maxHeartbeats 800000 in
theorem refEnc_any (A : Option Addr) (n c : Nat) (vs : List Val) (w : World) (hr : Rd w 3 A n (vcs vs)) (hm : n ≤ 9223372036854775807) (hok : okVals vs) :
    Calls Tryd.prog 13 #[.slice A n c] w (EncPost vs w) := by
  have hn : vs.length = n := by have := hr.1; rw [vcs_length] at this; omega
  have HN := Lib.hid hn; clear hn
  go_enter Tryd.func13, Tryd.ntmps13
  go_wp2
  go_loopw [4] (fun j wr => ∃ k : Nat, k ≤ n ∧ j = .int .i64 (k : Int) ∧ Below w.heap.size w wr ∧ allRight (vs.take k) = true) (fun j _ => n - (intOf j).toNat)
  case atStart => exact ⟨0, by omega, rfl, Below.refl _ _, rfl⟩
  case round =>
    obtain ⟨k, hk, rfl, hb, hall⟩ := hrel
    by_cases hlt : k < n
    · have hlv : k < vs.length := by rw [HN.out]; exact hlt
      obtain ⟨b, off, rfl, hlb, g0, g1, g2⟩ := hr.valB hlv
      obtain ⟨h0, h1, h2⟩ := val_later hb hlb g0 g1 g2
      clear g0 g1 g2
      go_wp2_with fail
      refine (refRight_any _ _ _ _).mono ?_
      rintro e w1 ⟨rfl, hb1⟩
      cases hRk : rightB (vs[k]).k (vs[k]).i (vs[k]).s
      · go_wp2
        go_ret2
        unfold EncPost
        have hS : encSpec vs = ([], 9) := by unfold encSpec; rw [allRight_false vs k hlv hRk]; rfl
        rw [hS]
        exact ⟨⟨none, 0, 0, rfl, OwnB.nil_ _ _⟩, hb.trans (hb1.mono hb.size)⟩
      · go_wp2
        go_roundw
        case rel => exact ⟨k + 1, by omega, by go_num, hb.trans (hb1.mono hb.size), by rw [allRight_take_succ vs k hlv, hall, hRk]; rfl⟩
        case measure => simp [intOf]; omega
    · have hkn : vs.take k = vs := List.take_of_length_le (by rw [HN.out]; omega)
      rw [hkn] at hall
      have HR := Lib.hid hall; clear hall hkn
      by_cases h16 : 16 < n
      · go_wp2
        go_ret2
        unfold EncPost
        have hS : encSpec vs = ([], 10) := by simp [encSpec, HR.out, HN.out, h16]
        rw [hS]
        exact ⟨⟨none, 0, 0, rfl, OwnB.nil_ _ _⟩, hb⟩
      · go_wp2_with (go_at_call 30; refine (refBytes_any A n c vs _ (hr.below hb) HR.out (by omega) hok).mono ?_; rintro e w2 ⟨⟨A2, n2, c2, rfl, hown2⟩, hb2⟩)
        go_ret2
        unfold EncPost
        have hS : encSpec vs = (encL vs, 0) := by simp [encSpec, HR.out, HN.out, h16]
        rw [hS]
        exact ⟨⟨A2, n2, c2, rfl, hown2.mono hb.size⟩, hb.trans (hb2.mono hb.size)⟩
end Go.Proofs.YthjicmdmhmffmaaDoor

namespace Go.Proofs.YthjicmdmhmffmaaDoor
open Go.RowKit

theorem eqVals (a b : List Val) (h : a.length = b.length) (hk : ∀ k (h1 : k < a.length) (h2 : k < b.length), veq a[k] b[k] = true) : a = b :=
  List.ext_getElem h fun k h1 h2 => (veq_iff _ _).1 (hk k h1 h2)

end Go.Proofs.YthjicmdmhmffmaaDoor
