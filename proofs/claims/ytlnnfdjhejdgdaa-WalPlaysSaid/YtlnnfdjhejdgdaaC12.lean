/- Contracts: armoireref03.Bytes, armoireref03.Enc.
Contracts: armoirehelp.Own, Same, Plain, Kept at values.
Contracts: armoirehelp.Own, Same, Plain, Kept, Spoil at bytes. -/
import Derived.Test.YtlnnfdjhejdgdaaC2
import Derived.Test.YtlnnfdjhejdgdaaC6
namespace Go.Proofs.Ytlnnfdjhejdgdaa
open Go.RowKit

theorem intB_byte2 (i : Int) (k : Nat) (h : k < 8) (h1 : -9223372036854775808 ≤ i) (h2 : i < 9223372036854775808) :
    bits .xor .u64 (IntKind.u64.wrap i) 9223372036854775808 / 2 ^ (8 * (7 - k)) % 256 = (((intB i)[k]'h).toNat : Int) := by
  rw [← intB_byte i k h h1 h2, show 8 * (7 - k) = 56 - 8 * k by omega]

end Go.Proofs.Ytlnnfdjhejdgdaa

namespace Go.Proofs.Ytlnnfdjhejdgdaa
open Go.RowKit

theorem eqVals (a b : List Val) (h : a.length = b.length) (hk : ∀ k (h1 : k < a.length) (h2 : k < b.length), veq a[k] b[k] = true) : a = b :=
  List.ext_getElem h fun k h1 h2 => (veq_iff _ _).1 (hk k h1 h2)

end Go.Proofs.Ytlnnfdjhejdgdaa

namespace Go.Proofs.Ytlnnfdjhejdgdaa
open Go.RowKit

def fill3 : List UInt8 := [71, 71, 71]
theorem own_byte_cell {w : World} {base g N cap : Nat} {ys : List Value} (h : w.ownsRow base 5 1 (.slice (some ⟨g, 0, none⟩) N cap) N ys) (j : Nat) (hj : j < N) : ∃ y, w.cell? ⟨g, j, none⟩ = some y := by
  have hl := h.1
  exact ⟨ys[j]'(by omega), by rw [h.cellAt _ (by omega)]; exact List.getElem?_eq_getElem _⟩
theorem set_byte (ys : List Value) (us : List UInt8) (f : UInt8) (X : Int) (hX : X = (f.toNat : Int)) (h : ys.take us.length = bs us) (hl : us.length < ys.length) :
    (ys.set us.length (.int .u8 X)).take (us.length + 1) = bs (us ++ [f]) := by
  subst hX
  rw [List.take_set, take_set_last _ _ hl, h, bs_append]
  rfl

set_option maxRecDepth 100000 in
set_option maxHeartbeats 800000 in
theorem ownByte_any (A : Option Addr) (n c : Nat) (l : List UInt8) (w : World) (hr : Rd w 1 A n (bs l)) (hm : n ≤ 140737488350000) :
    Calls Try.prog 44 #[.slice A n c, .int .u8 71] w fun e w' => (∃ g, e = .returned (.slice (some ⟨g, 0, none⟩) n (n + 3)) ∧ OwnB w.heap.size w' (some ⟨g, 0, none⟩) (n + 3) (n + 3) (l ++ fill3)) ∧ Below w.heap.size w w' := by
  have hn : l.length = n := by have := hr.1; simpa using this
  have HN := Lib.hid hn; clear hn
  obtain ⟨i0, hi0, hz0, hz1, hz2⟩ := info_parts Try.infoU8
  go_enter Try.func44, Try.ntmps44
  go_wp2_with (first
    | (at_make; go_loud (refine wpList_make_own _ rfl _ _ 33 rfl w.heap.size 5 i0 _ 1 Try.underlying33 hi0 hz0 hz1 _ _ _ (n + 3) rfl rfl (by omega) (by rw [hz2]; omega) (by unfold maxLen; omega) (Nat.le_refl _) ?_); intro w1 hown1 hg1)
    | (at_builtin; go_loud (refine wpList_append_fits_rd _ rfl _ _ 33 rfl w.heap.size 5 i0 1 Try.underlying33 hi0 hz1 _ 0 (n + 3) [] rfl hown1 A n c (bs l) rfl (hr.below ((Below.refl _ _).grown hg1 (Nat.le_refl _) (by simp))) (bs_one l) (by omega) ?_); intro w2 hown2 hg2; simp only [Nat.zero_add, List.nil_append] at hown2))
  obtain ⟨_, ys, hown3, hys⟩ := own_whole hown2
  have hb0 : Below w.heap.size w w2 := ((Below.refl _ _).grown hg1 (Nat.le_refl _) (by simp)).trans ((Below.refl _ _).grown hg2 (by have := hg1.size; omega) (by simp))
  rw [Nat.mul_one] at hys
  have HYS := Lib.hid hys
  clear hys hown2 hg1 hg2 hown1
  go_loopw [7] (fun j wr => ∃ (q : Nat) (zs : List Value), n ≤ q ∧ q ≤ n + 3 ∧ j = .int .i64 (q : Int) ∧ Below w.heap.size w2 wr ∧ wr.ownsRow w.heap.size 5 1 (.slice (some ⟨w.heap.size, 0, none⟩) (n + 3) (n + 3)) (n + 3) zs ∧ zs.take q = bs (l ++ List.replicate (q - n) 71)) (fun j _ => n + 3 - (intOf j).toNat)
  case atStart => exact ⟨n, ys, by omega, by omega, rfl, Below.refl _ _, hown3, by simpa using HYS.out⟩
  case round =>
    obtain ⟨q, zs, hq1, hq2, rfl, hb, hown, hz⟩ := hrel
    have HZ := Lib.hid hz; clear hz
    by_cases hlt : q < n + 3
    · obtain ⟨y0, e0⟩ := own_byte_cell hown q hlt
      have fr := fun j => hown.frozenAt j
      have hS := hown.stored q (.int .u8 71)
      have hbg : w.heap.size ≤ w.heap.size := Nat.le_refl _
      have hzl : zs.length = n + 3 := by have := hown.1; omega
      have HZL := Lib.hid hzl; clear hzl
      have HS := Lib.hid hS; clear hS
      go_wp2
      go_roundw
      case rel =>
        refine ⟨q + 1, _, by omega, by omega, by go_num, hb.setCell hbg _, HS.out.1, ?_⟩
        have hlen : (l ++ List.replicate (q - n) (71 : UInt8)).length = q := by simp [HN.out]; omega
        have h3 := set_byte zs (l ++ List.replicate (q - n) 71) 71 71 rfl (by rw [hlen]; exact HZ.out) (by rw [hlen, HZL.out]; omega)
        rw [hlen] at h3
        rw [h3, show q + 1 - n = (q - n) + 1 by omega, List.replicate_succ', List.append_assoc]
      case measure => simp [intOf]; omega
    · obtain rfl : q = n + 3 := by omega
      go_wp2
      go_ret
      refine ⟨⟨w.heap.size, rfl, ?_⟩, hb0.trans hb⟩
      have hz := HZ.out
      rw [List.take_of_length_le (by rw [hown.1]; omega), show n + 3 - n = 3 by omega] at hz
      unfold OwnB
      rw [show l ++ fill3 = l ++ List.replicate 3 71 from rfl, ← hz]
      exact hown

theorem plainB1_any (a b : UInt8) (w : World) :
    Calls Try.prog 63 #[.int .u8 (a.toNat : Int), .int .u8 (b.toNat : Int)] w fun e w' => e = .returned (.bool (decide (a = b))) ∧ w = w' := by
  by_cases h : a = b
  · subst h
    go_enter Try.func63, Try.ntmps63
    go_wp2
    go_ret
    exact ⟨ret_bool (by simp), rfl⟩
  · have ht : ((a.toNat : Int) == (b.toNat : Int)) = false := u8_beq_no h
    have HH := Lib.hid h; clear h
    go_enter Try.func63, Try.ntmps63
    go_wp2
    go_ret
    refine ⟨ret_bool ?_, rfl⟩
    rw [decide_eq_false HH.out]

theorem byte_later {w w' : World} {b o : Nat} {u : Value} {base : Nat} (hb : Below base w w') (hlt : b < base) (h : w.cell? ⟨b, o, none⟩ = some u) : w'.cell? ⟨b, o, none⟩ = some u := (hb.cell (p := ⟨b, o, none⟩) hlt).trans h

set_option maxRecDepth 100000 in
set_option maxHeartbeats 800000 in
theorem sameByte_any (A : Option Addr) (n c : Nat) (A2 : Option Addr) (n2 c2 : Nat) (vs us : List UInt8) (w : World) (hr : Rd w 1 A n (bs vs)) (hr2 : Rd w 1 A2 n2 (bs us)) (hm : n ≤ 9223372036854775807) (hm2 : n2 ≤ 9223372036854775807) :
    Calls Try.prog 62 #[.slice A n c, .slice A2 n2 c2, .func (.func 63) #[] #[]] w fun e w' => e = .returned (.bool (decide (vs = us))) ∧ Below w.heap.size w w' := by
  have hn : vs.length = n := by have := hr.1; simpa using this
  have hn2 : us.length = n2 := by have := hr2.1; simpa using this
  have HN := Lib.hid hn; clear hn
  have HN2 := Lib.hid hn2; clear hn2
  by_cases hne : n = n2
  · subst hne
    go_enter Try.func62, Try.ntmps62
    go_wp2
    go_loopw [7] (fun j wr => ∃ k : Nat, k ≤ n ∧ j = .int .i64 (k : Int) ∧ Below w.heap.size w wr ∧ ∀ q (h1 : q < vs.length) (h2 : q < us.length), q < k → vs[q] = us[q]) (fun j _ => n - (intOf j).toNat)
    case atStart => exact ⟨0, by omega, rfl, Below.refl _ _, fun q _ _ h => absurd h (by omega)⟩
    case round =>
      obtain ⟨k, hk, rfl, hb, hall⟩ := hrel
      have HA := Lib.hid hall; clear hall
      by_cases hlt : k < n
      · have hlv : k < vs.length := by rw [HN.out]; exact hlt
        have hlv2 : k < us.length := by rw [HN2.out]; exact hlt
        obtain ⟨b, off, rfl, hlb, g0⟩ := hr.byteB hlv
        obtain ⟨b', off', rfl, hlb', g0'⟩ := hr2.byteB hlv2
        have h0 := byte_later hb hlb g0
        have h0' := byte_later hb hlb' g0'
        clear g0 g0'
        have l0 := Later.cell h0
        have l0' := Later.cell h0'
        cases hV : decide (vs[k] = us[k])
        · go_wp2
          refine wp_region_later (by kernel_rfl) (by kernel_rfl) ?_
          iterate 11 (go_big_quiet_step ((go_at_call 63; exact Later.call_same (plainB1_any _ _ _))))
          refine wpQuiet_nil ?_
          intro s
          rw [hV]
          go_wp2
          go_ret
          refine ⟨ret_bool ?_, hb.trans (s.below.mono hb.size)⟩
          rw [eq_comm, decide_eq_false_iff_not]
          rintro rfl
          simp at hV
        · go_wp2
          refine wp_region_later (by kernel_rfl) (by kernel_rfl) ?_
          iterate 11 (go_big_quiet_step ((go_at_call 63; exact Later.call_same (plainB1_any _ _ _))))
          refine wpQuiet_nil ?_
          intro s
          rw [hV]
          go_wp2
          go_roundw
          case rel => exact ⟨k + 1, by omega, by go_num, hb.trans (s.below.mono hb.size), fun q h1 h2 hq => by
            rcases Nat.lt_or_ge q k with h | h
            · exact HA.out q h1 h2 h
            · obtain rfl : q = k := by omega
              exact of_decide_eq_true hV⟩
          case measure => simp [intOf]; omega
      · go_wp2
        go_ret
        refine ⟨ret_bool ?_, hb⟩
        rw [eq_comm, decide_eq_true_iff]
        exact List.ext_getElem (by rw [HN.out, HN2.out]) fun q h1 h2 => HA.out q h1 h2 (by rw [HN.out] at h1; omega)
  · have ht : ((n : Int) != n2) = true := by rw [bne_iff_ne]; omega
    go_enter Try.func62, Try.ntmps62
    go_wp2
    go_ret
    refine ⟨ret_bool ?_, Below.refl _ _⟩
    rw [eq_comm, decide_eq_false_iff_not]
    intro h
    have := HN.out
    rw [h, HN2.out] at this
    exact hne this.symm

theorem plainByte_any (A : Option Addr) (n c : Nat) (A2 : Option Addr) (n2 c2 : Nat) (vs us : List UInt8) (w : World) (hr : Rd w 1 A n (bs vs)) (hr2 : Rd w 1 A2 n2 (bs us)) (hm : n ≤ 9223372036854775807) (hm2 : n2 ≤ 9223372036854775807) :
    Calls Try.prog 59 #[.slice A n c, .slice A2 n2 c2] w fun e w' => e = .returned (.bool (decide (vs = us))) ∧ Below w.heap.size w w' := by
  go_enter Try.func59, Try.ntmps59
  go_wp2_with fail
  refine (sameByte_any A n c A2 n2 c2 vs us _ hr hr2 hm hm2).mono ?_
  rintro e w1 ⟨rfl, hb1⟩
  go_wp2
  go_ret
  exact ⟨rfl, hb1⟩

theorem fill3_get (l : List UInt8) (q : Nat) (h1 : l.length ≤ q) (h : q < (l ++ fill3).length) : (l ++ fill3)[q] = 71 := three_get l 71 q h1 h

set_option maxRecDepth 100000 in
set_option maxHeartbeats 800000 in
theorem keptByte_any (g : Nat) (A2 : Option Addr) (n c2 : Nat) (l : List UInt8) (w : World) (hr : Rd w 1 (some ⟨g, 0, none⟩) (n + 3) (bs (l ++ fill3))) (hr2 : Rd w 1 A2 n (bs l)) (hm : n ≤ 4398046511104) :
    Calls Try.prog 45 #[.slice (some ⟨g, 0, none⟩) n (n + 3), .slice A2 n c2, .int .u8 71] w fun e w' => e = .returned (.bool true) ∧ Below w.heap.size w w' := by
  have hn : l.length = n := by have := hr2.1; simpa using this
  have HN := Lib.hid hn; clear hn
  have hr1 : Rd w 1 (some ⟨g, 0, none⟩) n (bs l) := by
    have := hr.take (k := n) (by omega)
    rw [Nat.mul_one, bs_take] at this
    rw [← HN.out, List.take_left' rfl, HN.out] at this
    exact this
  go_enter Try.func45, Try.ntmps45
  go_wp2_with fail
  refine (plainByte_any _ n _ A2 n c2 l l _ hr1 hr2 (by omega) (by omega)).mono ?_
  rintro e w1 ⟨rfl, hb1⟩
  rw [decide_eq_true (rfl : l = l)]
  go_wp2
  go_loopw [8] (fun j wr => ∃ q : Nat, n ≤ q ∧ q ≤ n + 3 ∧ j = .int .i64 (q : Int) ∧ Below w.heap.size w wr) (fun j _ => n + 3 - (intOf j).toNat)
  case atStart => exact ⟨n, by omega, by omega, rfl, hb1⟩
  case round =>
    obtain ⟨q, hq1, hq2, rfl, hb⟩ := hrel
    by_cases hlt : q < n + 3
    · have hlv : q < (l ++ fill3).length := by simp [fill3, HN.out]; omega
      obtain ⟨b, off, hA, hlb, g0⟩ := hr.byteB hlv
      rw [fill3_get l q (by rw [HN.out]; omega) hlv] at g0
      simp only [Option.some.injEq, Addr.mk.injEq] at hA
      obtain ⟨rfl, rfl, _⟩ := hA
      rw [Nat.zero_add] at g0
      have h0 : wr.cell? ⟨g, q, none⟩ = some (.int .u8 71) := byte_later hb hlb g0
      clear g0
      go_wp2
      go_roundw
      case rel => exact ⟨q + 1, by omega, by omega, by go_num, hb⟩
      case measure => simp [intOf]; omega
    · go_wp2
      go_ret
      exact ⟨rfl, hb⟩

set_option maxRecDepth 100000 in
set_option maxHeartbeats 800000 in
/-- each byte of one's own row is another one: whatever lies below stays -/
theorem spoil_any (base : Nat) (A : Option Addr) (n c : Nat) (l : List UInt8) (w : World) (hown : OwnB base w A n c l) (hm : n ≤ 140737488350000) :
    Calls Try.prog 46 #[.slice A n c] w fun e w' => e = .returned (.tuple #[]) ∧ Below base w w' := by
  go_enter Try.func46, Try.ntmps46
  go_wp2
  go_loopw [2] (fun j wr => ∃ (q : Nat) (zs : List UInt8), q ≤ n ∧ j = .int .i64 (q : Int) ∧ Below base w wr ∧ OwnB base wr A n c zs) (fun j _ => n - (intOf j).toNat)
  case atStart => exact ⟨0, l, by omega, rfl, Below.refl _ _, hown⟩
  case round =>
    obtain ⟨q, zs, hq, rfl, hb, ho⟩ := hrel
    by_cases hlt : q < n
    · obtain ⟨X, hX⟩ : ∃ X : UInt8, bits .xor .u8 ((zs.getD q 0).toNat : Int) 85 = (X.toNat : Int) := ⟨UInt8.ofNat ((zs.getD q 0).toNat ^^^ 85), by
        have h1 := (zs.getD q 0).toNat_lt
        have h2 : (zs.getD q 0).toNat ^^^ 85 < 256 := Nat.xor_lt_two_pow (n := 8) h1 (by decide)
        have h3 := u8_xor_nat (zs.getD q 0).toNat 85 h1 (by decide)
        refine h3.trans ?_
        simp only [UInt8.toNat_ofNat']
        omega⟩
      obtain ⟨g, rfl, hg, hc, hf, hs, hbs⟩ := ho.set_ (k := q) hlt X
      obtain ⟨Y, hY⟩ : ∃ Y, Y = (zs.getD q 0) := ⟨_, rfl⟩
      rw [← hY] at hX hc
      have HX := Lib.hid hX
      clear hX hY
      go_wp2
      go_roundw
      case rel => exact ⟨q + 1, _, by omega, by go_num, hb.trans (by rw [HX.out]; exact hbs), by rw [HX.out]; exact hs⟩
      case measure => simp [intOf]; omega
    · go_wp2
      go_end0
      exact ⟨rfl, hb⟩
end Go.Proofs.Ytlnnfdjhejdgdaa
