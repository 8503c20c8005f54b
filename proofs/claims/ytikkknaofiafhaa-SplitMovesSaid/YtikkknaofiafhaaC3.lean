/- Contracts: armoireref03.Bytes, armoireref03.Enc.
Contracts: armoirehelp.Own, Same, Plain, Kept at values. -/
import Derived.Test.YtikkknaofiafhaaC2
namespace Go.Proofs.Ytikkknaofiafhaa
open Go.RowKit

theorem intB_byte2 (i : Int) (k : Nat) (h : k < 8) (h1 : -9223372036854775808 ≤ i) (h2 : i < 9223372036854775808) :
    bits .xor .u64 (IntKind.u64.wrap i) 9223372036854775808 / 2 ^ (8 * (7 - k)) % 256 = (((intB i)[k]'h).toNat : Int) := by
  rw [← intB_byte i k h h1 h2, show 8 * (7 - k) = 56 - 8 * k by omega]

set_option maxRecDepth 100000 in
set_option maxHeartbeats 1600000 in
theorem refBytes_any (A : Option Addr) (n c : Nat) (vs : List Val) (w : World) (hr : Rd w 3 A n (vcs vs)) (hR : allRight vs = true) (hn16 : n ≤ 1000) (hok : okVals vs) :
    Calls Try.prog 63 #[.slice A n c] w fun e w' => (∃ A n c, e = .returned (.slice A n c) ∧ OwnB w.heap.size w' A n c (encL vs)) ∧ Below w.heap.size w w' := by
  have hn : vs.length = n := by have := hr.1; rw [vcs_length] at this; omega
  have HN := Lib.hid hn; clear hn
  have HR := Lib.hid hR; clear hR
  go_enter Try.func63, Try.ntmps63
  go_wp2
  go_loopw [3, 4, 5, 6, 7] (fun v j _ _ _ wr => ∃ (k m : Nat) (A' : Option Addr) (c' : Nat), k ≤ n ∧ v = .slice A' m c' ∧ j = .int .i64 (k : Int) ∧ Below w.heap.size w wr ∧ OwnB w.heap.size wr A' m c' (encL (vs.take k))) (fun _ j _ _ _ _ => n - (intOf j).toNat)
  case atStart => exact ⟨0, 0, none, 0, by omega, rfl, rfl, Below.refl _ _, OwnB.nil_ _ _⟩
  case round =>
    obtain ⟨k, m, A', c', hk, rfl, rfl, hb, hown⟩ := hrel
    by_cases hlt : k < n
    · have hlv : k < vs.length := by rw [HN.out]; exact hlt
      obtain ⟨b, off, rfl, hlb, g0, g1, g2⟩ := hr.valB hlv
      obtain ⟨h0, h1, h2⟩ := val_later hb hlb g0 g1 g2
      have hrk := allRight_get vs HR.out k hlv
      have hmb : m ≤ 43 * k := by
        have h3 := hown.len
        have h4 := encL_length_le (vs.take k) (allRight_take vs HR.out k)
        have h5 : (vs.take k).length ≤ k := List.length_take_le _ _
        omega
      have HOK := Lib.hid (hok _ (List.getElem_mem hlv))
      have HT := Lib.hid (encL_take_succ vs k hlv)
      obtain ⟨⟨xk, xi, xs⟩, hx⟩ : ∃ x, x = vs[k] := ⟨_, rfl⟩
      rw [← hx] at h0 h1 h2 hrk HOK HT
      clear hx g0 g1 g2
      simp only [] at h0 h1 h2 hrk
      obtain ⟨wo, rfl⟩ : ∃ wo : World, wo = wr := ⟨_, rfl⟩
      rcases right_cases hrk with ⟨rfl, rfl, _⟩ | ⟨rfl, _⟩ | ⟨rfl, _, hs⟩
      · clear hrk
        go_wp2_with (at_builtin; refine wp_append_byte rfl (.tmp 14) _ rfl w.heap.size A' m c' _ wo _ 1 rfl rfl hown rfl (by omega) hb.size ?_; intro A2 c2 w1 hown1 hb1; obtain ⟨h01, h11, h21⟩ := val_later hb1 hlb h0 h1 h2)
        go_roundw
        case rel => exact ⟨k + 1, m + 1, A2, c2, by omega, rfl, by go_num, hb.trans hb1, by rw [HT.out]; exact hown1⟩
        case measure => simp [intOf]; omega
      · clear hrk
        go_wp2_with (at_builtin; refine wp_append_byte rfl (.tmp 14) _ rfl w.heap.size A' m c' _ wo _ 2 rfl rfl hown rfl (by omega) hb.size ?_; intro A2 c2 w1 hown1 hb1; obtain ⟨h01, h11, h21⟩ := val_later hb1 hlb h0 h1 h2)
        go_loopw [3, 6] (fun v j wr => ∃ (q : Nat) (A3 : Option Addr) (c3 : Nat), q ≤ 8 ∧ v = .slice A3 (m + 1 + q) c3 ∧ j = .int .i64 (7 - (q : Int)) ∧ Below w.heap.size w wr ∧ OwnB w.heap.size wr A3 (m + 1 + q) c3 (encL (vs.take k) ++ [2] ++ (intB xi).take q)) (fun _ j _ => (64 + intOf j).toNat)
        case atStart => exact ⟨0, A2, c2, by omega, rfl, rfl, hb.trans hb1, by simpa using hown1⟩
        case round =>
          obtain ⟨q, A3, c3, hq, rfl, rfl, hb3, hown3⟩ := hrel
          by_cases hq8 : q < 8
          · have HX := Lib.hid (intB_byte2 xi q hq8 HOK.out.1 HOK.out.2)
            go_wp2_with (at_builtin; refine wp_append_byte rfl (.tmp 42) _ rfl w.heap.size A3 (m + 1 + q) c3 _ wr _ ((intB xi)[q]'hq8) HX.out rfl hown3 rfl (by omega) hb3.size ?_; intro A4 c4 w4 hown4 hb4)
            go_roundw
            case rel => exact ⟨q + 1, A4, c4, by omega, rfl, by go_num, hb3.trans hb4, by
              rw [List.take_succ_eq_append_getElem (by simp [intB_length]; omega), ← List.append_assoc]
              exact hown4⟩
            case measure => simp [intOf]; omega
          · obtain rfl : q = 8 := by omega
            go_wp2
            go_roundw
            case rel => exact ⟨k + 1, m + 1 + 8, A3, c3, by omega, rfl, by go_num, hb3, by rw [HT.out]; have e8 : (intB xi).take 8 = intB xi := rfl; rw [e8] at hown3; simpa [encV] using hown3⟩
            case measure => simp [intOf]; omega
      · clear hrk
        have hl : xs.data.toList.length = xs.size := rfl
        have HL := Lib.hid hl; clear hl
        go_wp2_with (at_builtin; refine wp_append_byte rfl (.tmp 14) _ rfl w.heap.size A' m c' _ wo _ 3 rfl rfl hown rfl (by omega) hb.size ?_; intro A2 c2 w1 hown1 hb1; obtain ⟨h01, h11, h21⟩ := val_later hb1 hlb h0 h1 h2)
        go_loopw [3, 7] (fun v j wr => ∃ (q m3 : Nat) (A3 : Option Addr) (c3 : Nat), q ≤ xs.size ∧ v = .slice A3 m3 c3 ∧ j = .int .i64 (q : Int) ∧ Below w.heap.size w wr ∧ Below w.heap.size w1 wr ∧ OwnB w.heap.size wr A3 m3 c3 (encL (vs.take k) ++ [3] ++ textB (xs.data.toList.take q))) (fun _ j _ => xs.size - (intOf j).toNat)
        case atStart => exact ⟨0, m + 1, A2, c2, by omega, rfl, rfl, hb.trans hb1, Below.refl _ _, by simpa [textB] using hown1⟩
        case round =>
          obtain ⟨q, m3, A3, c3, hq, rfl, rfl, hb3, hbr, hown3⟩ := hrel
          obtain ⟨h02, h12, h22⟩ := val_later hbr hlb h01 h11 h21
          have hm3 : m3 ≤ m + 1 + 2 * q := by
            have e1 := hown3.len
            have e2 := (textB_length (xs.data.toList.take q)).2
            have e3 : (xs.data.toList.take q).length ≤ q := List.length_take_le _ _
            have e4 := hown.len
            simp only [List.length_append, List.length_cons, List.length_nil] at e1
            omega
          by_cases hq8 : q < xs.size
          · have hlt' : q < xs.data.toList.length := by rw [HL.out]; exact hq8
            by_cases hz : xs[q] = 0
            · have ht : ((xs[q].toNat : Int) == 0) = true := by rw [hz]; rfl
              have HE : Hid (textB (xs.data.toList.take (q + 1)) = textB (xs.data.toList.take q) ++ [xs[q]] ++ [255]) := by
                rw [textB_take_succ _ _ hlt', List.append_assoc]
                have : xs.data.toList[q] = xs[q] := rfl
                rw [this, hz]; rfl
              clear hz
              go_wp2_with (first | (at_builtin; refine wp_append_byte rfl (.tmp 63) _ rfl w.heap.size A3 m3 c3 _ wr _ (xs[q]) rfl rfl hown3 rfl (by omega) hb3.size ?_; intro A4 c4 w4 hown4 hb4; obtain ⟨h03, h13, h23⟩ := val_later hb4 hlb h02 h12 h22) | (at_builtin; refine wp_append_byte rfl (.tmp 81) _ rfl w.heap.size A4 (m3 + 1) c4 _ w4 _ 255 rfl rfl hown4 rfl (by omega) (Nat.le_trans hb3.size hb4.size) ?_; intro A5 c5 w5 hown5 hb5))
              go_roundw
              case rel => exact ⟨q + 1, m3 + 1 + 1, A5, c5, by omega, rfl, by go_num, (hb3.trans hb4).trans hb5, (hbr.trans hb4).trans hb5, by rw [HE.out, ← List.append_assoc, ← List.append_assoc]; exact hown5⟩
              case measure => simp [intOf]; omega
            · have ht : ((xs[q].toNat : Int) == 0) = false := by
                rw [beq_eq_false_iff_ne]
                intro h
                exact hz (UInt8.toNat_inj.1 (by simpa using h))
              have HE : Hid (textB (xs.data.toList.take (q + 1)) = textB (xs.data.toList.take q) ++ [xs[q]]) := by
                rw [textB_take_succ _ _ hlt']
                have : xs.data.toList[q] = xs[q] := rfl
                rw [this, escB, if_neg hz]; rfl
              clear hz
              go_wp2_with (at_builtin; refine wp_append_byte rfl (.tmp 63) _ rfl w.heap.size A3 m3 c3 _ wr _ (xs[q]) rfl rfl hown3 rfl (by omega) hb3.size ?_; intro A4 c4 w4 hown4 hb4; obtain ⟨h03, h13, h23⟩ := val_later hb4 hlb h02 h12 h22)
              go_roundw
              case rel => exact ⟨q + 1, m3 + 1, A4, c4, by omega, rfl, by go_num, hb3.trans hb4, hbr.trans hb4, by rw [HE.out, ← List.append_assoc]; exact hown4⟩
              case measure => simp [intOf]; omega
          · obtain rfl : q = xs.size := by omega
            go_wp2_with (at_builtin; refine wp_append_bytes rfl (.tmp 84) _ rfl w.heap.size A3 m3 c3 _ _ rfl (hown3.alloc _) _ 2 2 [0, 1] rfl (Rd.new wr _ 1 2 _ rfl) (by omega) (by have := hb3.size; simp; omega) ?_; intro A4 c4 w4 hown4 hb4)
            go_roundw
            case rel => exact ⟨k + 1, m3 + 2, A4, c4, by omega, rfl, by go_num, (hb3.alloc hb3.size _).trans hb4, by
              rw [List.take_of_length_le (l := xs.data.toList) (by rw [HL.out]; omega)] at hown4
              rw [HT.out]
              simpa [encV] using hown4⟩
            case measure => simp [intOf]; omega
    · have hkn : vs.take k = vs := List.take_of_length_le (by rw [HN.out]; omega)
      go_wp2
      go_ret
      rw [hkn] at hown
      exact ⟨⟨A', m, c', rfl, hown⟩, hb⟩

set_option maxHeartbeats 800000 in
theorem refEnc_any (A : Option Addr) (n c : Nat) (vs : List Val) (w : World) (hr : Rd w 3 A n (vcs vs)) (hm : n ≤ 9223372036854775807) (hok : okVals vs) :
    Calls Try.prog 17 #[.slice A n c] w (EncPost vs w) := by
  have hn : vs.length = n := by have := hr.1; rw [vcs_length] at this; omega
  have HN := Lib.hid hn; clear hn
  go_enter Try.func17, Try.ntmps17
  go_wp2
  go_loopw [4] (fun j wr => ∃ k : Nat, k ≤ n ∧ j = .int .i64 (k : Int) ∧ Below w.heap.size w wr ∧ allRight (vs.take k) = true) (fun j _ => n - (intOf j).toNat)
  case atStart => exact ⟨0, by omega, rfl, Below.refl _ _, rfl⟩
  case round =>
    obtain ⟨k, hk, rfl, hb, hall⟩ := hrel
    by_cases hlt : k < n
    · have hlv : k < vs.length := by rw [HN.out]; exact hlt
      obtain ⟨b, off, rfl, hlb, g0, g1, g2⟩ := hr.valB hlv
      obtain ⟨h0, h1, h2⟩ := val_later hb hlb g0 g1 g2
      clear g0 g1 g2
      go_wp2_with fail
      refine (refRight_any _ _ _ _).mono ?_
      rintro e w1 ⟨rfl, hb1⟩
      cases hRk : rightB (vs[k]).k (vs[k]).i (vs[k]).s
      · go_wp2
        go_ret2
        unfold EncPost
        have hS : encSpec vs = ([], 9) := by unfold encSpec; rw [allRight_false vs k hlv hRk]; rfl
        rw [hS]
        exact ⟨⟨none, 0, 0, rfl, OwnB.nil_ _ _⟩, hb.trans (hb1.mono hb.size)⟩
      · go_wp2
        go_roundw
        case rel => exact ⟨k + 1, by omega, by go_num, hb.trans (hb1.mono hb.size), by rw [allRight_take_succ vs k hlv, hall, hRk]; rfl⟩
        case measure => simp [intOf]; omega
    · have hkn : vs.take k = vs := List.take_of_length_le (by rw [HN.out]; omega)
      rw [hkn] at hall
      have HR := Lib.hid hall; clear hall hkn
      by_cases h16 : 16 < n
      · go_wp2
        go_ret2
        unfold EncPost
        have hS : encSpec vs = ([], 10) := by simp [encSpec, HR.out, HN.out, h16]
        rw [hS]
        exact ⟨⟨none, 0, 0, rfl, OwnB.nil_ _ _⟩, hb⟩
      · go_wp2_with (go_at_call 63; refine (refBytes_any A n c vs _ (hr.below hb) HR.out (by omega) hok).mono ?_; rintro e w2 ⟨⟨A2, n2, c2, rfl, hown2⟩, hb2⟩)
        go_ret2
        unfold EncPost
        have hS : encSpec vs = (encL vs, 0) := by simp [encSpec, HR.out, HN.out, h16]
        rw [hS]
        exact ⟨⟨A2, n2, c2, rfl, hown2.mono hb.size⟩, hb.trans (hb2.mono hb.size)⟩
end Go.Proofs.Ytikkknaofiafhaa

namespace Go.Proofs.Ytikkknaofiafhaa
open Go.RowKit

set_option maxRecDepth 100000 in
set_option maxHeartbeats 800000 in
theorem ownVal_any (A : Option Addr) (n c : Nat) (vs : List Val) (f : Val) (w : World) (hr : Rd w 3 A n (vcs vs)) (hm : n ≤ 4398046511104) :
    Calls Try.prog 15 #[.slice A n c, .agg #[.int .i64 f.k, .int .i64 f.i, .string f.s]] w fun e w' => (∃ g, e = .returned (.slice (some ⟨g, 0, none⟩) n (n + 3)) ∧ w'.ownsRow w.heap.size 24 3 (.slice (some ⟨g, 0, none⟩) (n + 3) (n + 3)) (n + 3) (vcs (vs ++ [f, f, f]))) ∧ Below w.heap.size w w' := by
  have hn : vs.length = n := by have := hr.1; rw [vcs_length] at this; omega
  have HN := Lib.hid hn; clear hn
  obtain ⟨i0, hi0, hz0, hz1, hz2⟩ := info_parts Try.infoVal
  have hr1 : Rd (w.alloc (.cells #[.int .i64 f.k, .int .i64 f.i, .string f.s] 24)) 3 A n (vcs vs) := hr.below ((Below.refl _ _).alloc (Nat.le_refl _) _)
  go_enter Try.func15, Try.ntmps15
  go_wp2_with (first
    | (at_make; go_loud (refine wpList_make_own _ rfl _ _ 22 rfl (w.heap.size + 1) 24 i0 _ 3 Try.underlying22 hi0 hz0 hz1 _ _ _ (n + 3) rfl rfl (by omega) (by rw [hz2]; omega) (by unfold maxLen; omega) (by simp) ?_); intro w1 hown1 hg1; simp only [World.size_alloc] at hown1)
    | (at_builtin; go_loud (refine wpList_append_fits_rd _ rfl _ _ 22 rfl (w.heap.size + 1) 24 i0 3 Try.underlying22 hi0 hz1 _ 0 (n + 3) [] rfl hown1 A n c (vcs vs) rfl (hr1.below ((Below.refl _ _).grown hg1 (Nat.le_refl _) (by simp))) (vcs_one vs) (by omega) ?_); intro w2 hown2 hg2; simp only [Nat.zero_add, List.nil_append] at hown2))
  obtain ⟨_, ys, hown3, hys⟩ := own_whole hown2
  have hb0 : Below w.heap.size w w2 := ((Below.refl _ _).alloc (Nat.le_refl _) _).trans ((((Below.refl _ _).grown hg1 (Nat.le_refl _) (by simp)).mono (by simp)).trans ((Below.refl _ _).grown hg2 (by have := hg1.size; simp at this; omega) (by simp)))
  have hf : ∀ j, j < 3 → w2.cell? ⟨w.heap.size, j, none⟩ = (w.alloc (.cells #[.int .i64 f.k, .int .i64 f.i, .string f.s] 24)).cell? ⟨w.heap.size, j, none⟩ := fun j hj => by
    have q1 := ((Below.refl _ _).grown hg1 (Nat.le_refl _) (by simp)).cell (p := ⟨w.heap.size, j, none⟩) (by simp)
    have q2 := ((Below.refl (w.heap.size + 1) w1).grown hg2 (by have := hg1.size; simp at this; omega) (by simp)).cell (p := ⟨w.heap.size, j, none⟩) (by simp)
    exact q2.trans q1
  have hfc : w2.cell? ⟨w.heap.size, 0, none⟩ = some (.int .i64 f.k) ∧ w2.cell? ⟨w.heap.size, 0 + 1, none⟩ = some (.int .i64 f.i) ∧ w2.cell? ⟨w.heap.size, 0 + 2, none⟩ = some (.string f.s) :=
    ⟨(hf 0 (by omega)).trans (by simp), (hf 1 (by omega)).trans (by simp), (hf 2 (by omega)).trans (by simp)⟩
  have HYS := Lib.hid hys
  clear hf hys hown2 hg1 hg2 hown1 hr1
  go_loopw [7] (fun j wr => ∃ (q : Nat) (zs : List Value), n ≤ q ∧ q ≤ n + 3 ∧ j = .int .i64 (q : Int) ∧ Below (w.heap.size + 1) w2 wr ∧ wr.ownsRow (w.heap.size + 1) 24 3 (.slice (some ⟨w.heap.size + 1, 0, none⟩) (n + 3) (n + 3)) (n + 3) zs ∧ zs.take (q * 3) = vcs (vs ++ List.replicate (q - n) f)) (fun j _ => n + 3 - (intOf j).toNat)
  case atStart => exact ⟨n, ys, by omega, by omega, rfl, Below.refl _ _, hown3, by simpa using HYS.out⟩
  case round =>
    obtain ⟨q, zs, hq1, hq2, rfl, hb, hown, hz⟩ := hrel
    have HZ := Lib.hid hz; clear hz
    by_cases hlt : q < n + 3
    · obtain ⟨f0, f1, f2⟩ := val_later hb (by simp) hfc.1 hfc.2.1 hfc.2.2
      simp only [Nat.zero_add] at f1 f2
      obtain ⟨y0, y1, y2, e0, e1, e2⟩ := own_val_cells hown q hlt
      have fr := fun j => hown.frozenAt j
      have hS := own_set_val hown q hlt (.int .i64 f.k) (.int .i64 f.i) (.string f.s)
      have hzl : zs.length = (n + 3) * 3 := hown.1
      have HZL := Lib.hid hzl; clear hzl
      have HS := Lib.hid hS; clear hS
      go_wp2
      go_roundw
      case rel =>
        refine ⟨q + 1, _, by omega, by omega, by go_num, hb.trans HS.out.2, HS.out.1, ?_⟩
        have hlen : (vs ++ List.replicate (q - n) f).length = q := by simp [HN.out]; omega
        have h3 := set_vals zs (vs ++ List.replicate (q - n) f) f (by rw [hlen]; exact HZ.out) (by rw [hlen, HZL.out]; omega)
        rw [hlen] at h3
        rw [h3, show q + 1 - n = (q - n) + 1 by omega, List.replicate_succ', List.append_assoc]
      case measure => simp [intOf]; omega
    · obtain rfl : q = n + 3 := by omega
      go_wp2
      go_ret
      refine ⟨⟨w.heap.size + 1, rfl, ?_⟩, hb0.trans (hb.mono (by simp))⟩
      have hz := HZ.out
      rw [List.take_of_length_le (by rw [hown.1]; exact Nat.le_refl _), show n + 3 - n = 3 by omega] at hz
      rw [← show vcs (vs ++ List.replicate 3 f) = vcs (vs ++ [f, f, f]) from rfl, ← hz]
      exact own_mono hown (by omega)

set_option maxHeartbeats 400000 in
theorem plain1_any (k i : Int) (s : ByteArray) (k' i' : Int) (s' : ByteArray) (w : World) :
    Calls Try.prog 107 #[.agg #[.int .i64 k, .int .i64 i, .string s], .agg #[.int .i64 k', .int .i64 i', .string s']] w fun e w' => e = .returned (.bool (veq ⟨k, i, s⟩ ⟨k', i', s'⟩)) ∧ Below w.heap.size w w' := by
  go_enter Try.func107, Try.ntmps107
  go_wp2
  all_goals
    go_ret
    refine ⟨ret_bool ?_, ((Below.refl _ _).alloc (Nat.le_refl _) _).alloc (by simp) _⟩
    simp [veq, *]

theorem eqVals (a b : List Val) (h : a.length = b.length) (hk : ∀ k (h1 : k < a.length) (h2 : k < b.length), veq a[k] b[k] = true) : a = b :=
  List.ext_getElem h fun k h1 h2 => (veq_iff _ _).1 (hk k h1 h2)

set_option maxRecDepth 100000 in
set_option maxHeartbeats 800000 in
theorem sameVal_any (A : Option Addr) (n c : Nat) (A2 : Option Addr) (n2 c2 : Nat) (vs us : List Val) (w : World) (hr : Rd w 3 A n (vcs vs)) (hr2 : Rd w 3 A2 n2 (vcs us)) (hm : n ≤ 9223372036854775807) (hm2 : n2 ≤ 9223372036854775807) :
    Calls Try.prog 106 #[.slice A n c, .slice A2 n2 c2, .func (.func 107) #[] #[]] w fun e w' => e = .returned (.bool (leq vs us)) ∧ Below w.heap.size w w' := by
  have hn : vs.length = n := by have := hr.1; rw [vcs_length] at this; omega
  have hn2 : us.length = n2 := by have := hr2.1; rw [vcs_length] at this; omega
  have HN := Lib.hid hn; clear hn
  have HN2 := Lib.hid hn2; clear hn2
  by_cases hne : n = n2
  · subst hne
    go_enter Try.func106, Try.ntmps106
    go_wp2
    go_loopw [7] (fun j wr => ∃ k : Nat, k ≤ n ∧ j = .int .i64 (k : Int) ∧ Below w.heap.size w wr ∧ ∀ q (h1 : q < vs.length) (h2 : q < us.length), q < k → veq vs[q] us[q] = true) (fun j _ => n - (intOf j).toNat)
    case atStart => exact ⟨0, by omega, rfl, Below.refl _ _, fun q _ _ h => absurd h (by omega)⟩
    case round =>
      obtain ⟨k, hk, rfl, hb, hall⟩ := hrel
      have HA := Lib.hid hall; clear hall
      by_cases hlt : k < n
      · have hlv : k < vs.length := by rw [HN.out]; exact hlt
        have hlv2 : k < us.length := by rw [HN2.out]; exact hlt
        obtain ⟨b, off, rfl, hlb, g0, g1, g2⟩ := hr.valB hlv
        obtain ⟨b', off', rfl, hlb', g0', g1', g2'⟩ := hr2.valB hlv2
        obtain ⟨h0, h1, h2⟩ := val_later hb hlb g0 g1 g2
        obtain ⟨h0', h1', h2'⟩ := val_later hb hlb' g0' g1' g2'
        clear g0 g1 g2 g0' g1' g2'
        have l0 := Later.cell h0
        have l1 := Later.cell h1
        have l2 := Later.cell h2
        have l0' := Later.cell h0'
        have l1' := Later.cell h1'
        have l2' := Later.cell h2'
        go_wp2
        refine wp_region_later (by kernel_rfl) (by kernel_rfl) ?_
        iterate 11 (go_big_quiet_step ((go_at_call 107; exact Later.call (plain1_any _ _ _ _ _ _ _))))
        refine wpQuiet_nil ?_
        intro s
        cases hV : veq vs[k] us[k]
        · go_wp2
          go_ret
          refine ⟨ret_bool ?_, hb.trans (s.below.mono hb.size)⟩
          rw [leq_no]
          rintro rfl
          rw [(veq_iff _ _).2 rfl] at hV
          cases hV
        · go_wp2
          go_roundw
          case rel => exact ⟨k + 1, by omega, by go_num, hb.trans (s.below.mono hb.size), fun q h1 h2 hq => by
            rcases Nat.lt_or_ge q k with h | h
            · exact HA.out q h1 h2 h
            · obtain rfl : q = k := by omega
              exact hV⟩
          case measure => simp [intOf]; omega
      · go_wp2
        go_ret
        refine ⟨ret_bool ?_, hb⟩
        rw [(leq_iff vs us).2 (eqVals vs us (by rw [HN.out, HN2.out]) fun q h1 h2 => HA.out q h1 h2 (by rw [HN.out] at h1; omega))]
  · have ht : ((n : Int) != n2) = true := by rw [bne_iff_ne]; omega
    go_enter Try.func106, Try.ntmps106
    go_wp2
    go_ret
    refine ⟨ret_bool ?_, Below.refl _ _⟩
    rw [leq_no]
    intro h
    have := HN.out
    rw [h, HN2.out] at this
    exact hne this.symm

theorem plainVal_any (A : Option Addr) (n c : Nat) (A2 : Option Addr) (n2 c2 : Nat) (vs us : List Val) (w : World) (hr : Rd w 3 A n (vcs vs)) (hr2 : Rd w 3 A2 n2 (vcs us)) (hm : n ≤ 9223372036854775807) (hm2 : n2 ≤ 9223372036854775807) :
    Calls Try.prog 44 #[.slice A n c, .slice A2 n2 c2] w fun e w' => e = .returned (.bool (leq vs us)) ∧ Below w.heap.size w w' := by
  go_enter Try.func44, Try.ntmps44
  go_wp2_with fail
  refine (sameVal_any A n c A2 n2 c2 vs us _ hr hr2 hm hm2).mono ?_
  rintro e w1 ⟨rfl, hb1⟩
  go_wp2
  go_ret
  exact ⟨rfl, hb1⟩

set_option maxRecDepth 100000 in
set_option maxHeartbeats 800000 in
theorem keptVal_any (g : Nat) (A2 : Option Addr) (n c2 : Nat) (vs : List Val) (f : Val) (w : World) (hr : Rd w 3 (some ⟨g, 0, none⟩) (n + 3) (vcs (vs ++ [f, f, f]))) (hr2 : Rd w 3 A2 n (vcs vs)) (hm : n ≤ 4398046511104) :
    Calls Try.prog 21 #[.slice (some ⟨g, 0, none⟩) n (n + 3), .slice A2 n c2, .agg #[.int .i64 f.k, .int .i64 f.i, .string f.s]] w fun e w' => e = .returned (.bool true) ∧ Below w.heap.size w w' := by
  have hn : vs.length = n := by have := hr2.1; rw [vcs_length] at this; omega
  have HN := Lib.hid hn; clear hn
  have hr1 : Rd w 3 (some ⟨g, 0, none⟩) n (vcs vs) := by
    have := hr.take (k := n) (by omega)
    rw [vcs_take] at this
    rw [← HN.out, List.take_left' rfl, HN.out] at this
    exact this
  go_enter Try.func21, Try.ntmps21
  go_wp2_with fail
  refine (plainVal_any _ n _ A2 n c2 vs vs _ (hr1.below ((Below.refl _ _).alloc (Nat.le_refl _) _)) (hr2.below ((Below.refl _ _).alloc (Nat.le_refl _) _)) (by omega) (by omega)).mono ?_
  rintro e w1 ⟨rfl, hb1⟩
  rw [leq_self]
  go_wp2
  have hfc : w1.cell? ⟨w.heap.size, 0, none⟩ = some (.int .i64 f.k) ∧ w1.cell? ⟨w.heap.size, 0 + 1, none⟩ = some (.int .i64 f.i) ∧ w1.cell? ⟨w.heap.size, 0 + 2, none⟩ = some (.string f.s) :=
    val_later hb1 (by simp) (by simp) (by simp) (by simp)
  have hb0 : Below w.heap.size w w1 := ((Below.refl _ _).alloc (Nat.le_refl _) _).trans (hb1.mono (by simp))
  have hz1 : w.heap.size < w1.heap.size := by have := hb1.size; simp at this; omega
  go_loopw [8] (fun j wr => ∃ q : Nat, n ≤ q ∧ q ≤ n + 3 ∧ j = .int .i64 (q : Int) ∧ Below w1.heap.size w1 wr) (fun j _ => n + 3 - (intOf j).toNat)
  case atStart => exact ⟨n, by omega, by omega, rfl, Below.refl _ _⟩
  case round =>
    obtain ⟨q, hq1, hq2, rfl, hb⟩ := hrel
    by_cases hlt : q < n + 3
    · obtain ⟨f0, f1, f2⟩ := val_later hb hz1 hfc.1 hfc.2.1 hfc.2.2
      simp only [Nat.zero_add] at f1 f2
      have hlv : q < (vs ++ [f, f, f]).length := by simp [HN.out]; omega
      obtain ⟨b, off, hA, hlb, g0, g1, g2⟩ := hr.valB hlv
      have hqf : (vs ++ [f, f, f])[q] = f := three_get vs f q (by rw [HN.out]; omega) hlv
      rw [hqf] at g0 g1 g2
      simp only [Option.some.injEq, Addr.mk.injEq] at hA
      obtain ⟨rfl, rfl, _⟩ := hA
      simp only [Nat.zero_add] at g0 g1 g2
      obtain ⟨e0, e1, e2⟩ := val_later (hb0.trans (hb.mono (by omega))) hlb g0 g1 g2
      clear g0 g1 g2 hqf hlv hfc
      have l0 := Later.cell e0
      have l1 := Later.cell e1
      have l2 := Later.cell e2
      have m0 := Later.cell f0
      have m1 := Later.cell f1
      have m2 := Later.cell f2
      go_wp2
      refine wp_region_later (by kernel_rfl) (by kernel_rfl) ?_
      iterate 6 (go_big_quiet_step (fail))
      refine wpQuiet_nil ?_
      intro s
      go_wp2
      go_roundw
      case rel => exact ⟨q + 1, by omega, by omega, by go_num, hb.trans (s.below.mono hb.size)⟩
      case measure => simp [intOf]; omega
    · go_wp2
      go_ret
      exact ⟨rfl, hb0.trans (hb.mono (by omega))⟩
end Go.Proofs.Ytikkknaofiafhaa
