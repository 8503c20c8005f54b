/- Contracts: armoireref03.Bytes, armoireref03.Enc.
Contracts: armoirehelp.Own, Same, Plain, Kept at values. -/
import Derived.Test.YtdibkhphemfdeaaGreatDoorC2
namespace Go.Proofs.YtdibkhphemfdeaaGreatDoor
open Go.RowKit

theorem intB_byte2 (i : Int) (k : Nat) (h : k < 8) (h1 : -9223372036854775808 ≤ i) (h2 : i < 9223372036854775808) :
    bits .xor .u64 (IntKind.u64.wrap i) 9223372036854775808 / 2 ^ (8 * (7 - k)) % 256 = (((intB i)[k]'h).toNat : Int) := by
  rw [← intB_byte i k h h1 h2, show 8 * (7 - k) = 56 - 8 * k by omega]

end Go.Proofs.YtdibkhphemfdeaaGreatDoor

namespace Go.Proofs.YtdibkhphemfdeaaGreatDoor
open Go.RowKit

set_option maxHeartbeats 400000 in
theorem plain1_any (k i : Int) (s : ByteArray) (k' i' : Int) (s' : ByteArray) (w : World) :
    Calls Tryz.prog 44 #[.agg #[.int .i64 k, .int .i64 i, .string s], .agg #[.int .i64 k', .int .i64 i', .string s']] w fun e w' => e = .returned (.bool (veq ⟨k, i, s⟩ ⟨k', i', s'⟩)) ∧ Below w.heap.size w w' := by
  go_enter Tryz.func44, Tryz.ntmps44
  go_wp2
  all_goals
    go_ret
    refine ⟨ret_bool ?_, ((Below.refl _ _).alloc (Nat.le_refl _) _).alloc (by simp) _⟩
    simp [veq, *]

theorem eqVals (a b : List Val) (h : a.length = b.length) (hk : ∀ k (h1 : k < a.length) (h2 : k < b.length), veq a[k] b[k] = true) : a = b :=
  List.ext_getElem h fun k h1 h2 => (veq_iff _ _).1 (hk k h1 h2)

set_option maxRecDepth 100000 in
set_option maxHeartbeats 800000 in
theorem sameVal_any (A : Option Addr) (n c : Nat) (A2 : Option Addr) (n2 c2 : Nat) (vs us : List Val) (w : World) (hr : Rd w 3 A n (vcs vs)) (hr2 : Rd w 3 A2 n2 (vcs us)) (hm : n ≤ 9223372036854775807) (hm2 : n2 ≤ 9223372036854775807) :
    Calls Tryz.prog 43 #[.slice A n c, .slice A2 n2 c2, .func (.func 44) #[] #[]] w fun e w' => e = .returned (.bool (leq vs us)) ∧ Below w.heap.size w w' := by
  have hn : vs.length = n := by have := hr.1; rw [vcs_length] at this; omega
  have hn2 : us.length = n2 := by have := hr2.1; rw [vcs_length] at this; omega
  have HN := Lib.hid hn; clear hn
  have HN2 := Lib.hid hn2; clear hn2
  by_cases hne : n = n2
  · subst hne
    go_enter Tryz.func43, Tryz.ntmps43
    go_wp2
    go_loopw [7] (fun j wr => ∃ k : Nat, k ≤ n ∧ j = .int .i64 (k : Int) ∧ Below w.heap.size w wr ∧ ∀ q (h1 : q < vs.length) (h2 : q < us.length), q < k → veq vs[q] us[q] = true) (fun j _ => n - (intOf j).toNat)
    case atStart => exact ⟨0, by omega, rfl, Below.refl _ _, fun q _ _ h => absurd h (by omega)⟩
    case round =>
      obtain ⟨k, hk, rfl, hb, hall⟩ := hrel
      have HA := Lib.hid hall; clear hall
      by_cases hlt : k < n
      · have hlv : k < vs.length := by rw [HN.out]; exact hlt
        have hlv2 : k < us.length := by rw [HN2.out]; exact hlt
        obtain ⟨b, off, rfl, hlb, g0, g1, g2⟩ := hr.valB hlv
        obtain ⟨b', off', rfl, hlb', g0', g1', g2'⟩ := hr2.valB hlv2
        obtain ⟨h0, h1, h2⟩ := val_later hb hlb g0 g1 g2
        obtain ⟨h0', h1', h2'⟩ := val_later hb hlb' g0' g1' g2'
        clear g0 g1 g2 g0' g1' g2'
        have l0 := Later.cell h0
        have l1 := Later.cell h1
        have l2 := Later.cell h2
        have l0' := Later.cell h0'
        have l1' := Later.cell h1'
        have l2' := Later.cell h2'
        go_wp2
        refine wp_region_later (by kernel_rfl) (by kernel_rfl) ?_
        iterate 11 (go_big_quiet_step ((go_at_call 44; exact Later.call (plain1_any _ _ _ _ _ _ _))))
        refine wpQuiet_nil ?_
        intro s
        cases hV : veq vs[k] us[k]
        · go_wp2
          go_ret
          refine ⟨ret_bool ?_, hb.trans (s.below.mono hb.size)⟩
          rw [leq_no]
          rintro rfl
          rw [(veq_iff _ _).2 rfl] at hV
          cases hV
        · go_wp2
          go_roundw
          case rel => exact ⟨k + 1, by omega, by go_num, hb.trans (s.below.mono hb.size), fun q h1 h2 hq => by
            rcases Nat.lt_or_ge q k with h | h
            · exact HA.out q h1 h2 h
            · obtain rfl : q = k := by omega
              exact hV⟩
          case measure => simp [intOf]; omega
      · go_wp2
        go_ret
        refine ⟨ret_bool ?_, hb⟩
        rw [(leq_iff vs us).2 (eqVals vs us (by rw [HN.out, HN2.out]) fun q h1 h2 => HA.out q h1 h2 (by rw [HN.out] at h1; omega))]
  · have ht : ((n : Int) != n2) = true := by rw [bne_iff_ne]; omega
    go_enter Tryz.func43, Tryz.ntmps43
    go_wp2
    go_ret
    refine ⟨ret_bool ?_, Below.refl _ _⟩
    rw [leq_no]
    intro h
    have := HN.out
    rw [h, HN2.out] at this
    exact hne this.symm

theorem plainVal_any (A : Option Addr) (n c : Nat) (A2 : Option Addr) (n2 c2 : Nat) (vs us : List Val) (w : World) (hr : Rd w 3 A n (vcs vs)) (hr2 : Rd w 3 A2 n2 (vcs us)) (hm : n ≤ 9223372036854775807) (hm2 : n2 ≤ 9223372036854775807) :
    Calls Tryz.prog 28 #[.slice A n c, .slice A2 n2 c2] w fun e w' => e = .returned (.bool (leq vs us)) ∧ Below w.heap.size w w' := by
  go_enter Tryz.func28, Tryz.ntmps28
  go_wp2_with fail
  refine (sameVal_any A n c A2 n2 c2 vs us _ hr hr2 hm hm2).mono ?_
  rintro e w1 ⟨rfl, hb1⟩
  go_wp2
  go_ret
  exact ⟨rfl, hb1⟩

end Go.Proofs.YtdibkhphemfdeaaGreatDoor
