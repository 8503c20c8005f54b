/- Contracts: armoirehelp.Own, Same, Plain, Kept at values. -/
import Derived.Test.YtikkknaofiafhaaC3
namespace Go.Proofs.Ytikkknaofiafhaa
open Go.RowKit

set_option maxRecDepth 100000 in
set_option maxHeartbeats 800000 in
theorem ownVal_any (A : Option Addr) (n c : Nat) (vs : List Val) (f : Val) (w : World) (hr : Rd w 3 A n (vcs vs)) (hm : n ≤ 4398046511104) :
    Calls Try.prog 15 #[.slice A n c, .agg #[.int .i64 f.k, .int .i64 f.i, .string f.s]] w fun e w' => (∃ g, e = .returned (.slice (some ⟨g, 0, none⟩) n (n + 3)) ∧ w'.ownsRow w.heap.size 24 3 (.slice (some ⟨g, 0, none⟩) (n + 3) (n + 3)) (n + 3) (vcs (vs ++ [f, f, f]))) ∧ Below w.heap.size w w' := by
  have hn : vs.length = n := by have := hr.1; rw [vcs_length] at this; omega
  have HN := Lib.hid hn; clear hn
  obtain ⟨i0, hi0, hz0, hz1, hz2⟩ := info_parts Try.infoVal
  have hr1 : Rd (w.alloc (.cells #[.int .i64 f.k, .int .i64 f.i, .string f.s] 24)) 3 A n (vcs vs) := hr.below ((Below.refl _ _).alloc (Nat.le_refl _) _)
  go_enter Try.func15, Try.ntmps15
  go_wp2_with (first
    | (at_make; go_loud (refine wpList_make_own _ rfl _ _ 22 rfl (w.heap.size + 1) 24 i0 _ 3 Try.underlying22 hi0 hz0 hz1 _ _ _ (n + 3) rfl rfl (by omega) (by rw [hz2]; omega) (by unfold maxLen; omega) (by simp) ?_); intro w1 hown1 hg1; simp only [World.size_alloc] at hown1)
    | (at_builtin; go_loud (refine wpList_append_fits_rd _ rfl _ _ 22 rfl (w.heap.size + 1) 24 i0 3 Try.underlying22 hi0 hz1 _ 0 (n + 3) [] rfl hown1 A n c (vcs vs) rfl (hr1.below ((Below.refl _ _).grown hg1 (Nat.le_refl _) (by simp))) (vcs_one vs) (by omega) ?_); intro w2 hown2 hg2; simp only [Nat.zero_add, List.nil_append] at hown2))
  obtain ⟨_, ys, hown3, hys⟩ := own_whole hown2
  have hb0 : Below w.heap.size w w2 := ((Below.refl _ _).alloc (Nat.le_refl _) _).trans ((((Below.refl _ _).grown hg1 (Nat.le_refl _) (by simp)).mono (by simp)).trans ((Below.refl _ _).grown hg2 (by have := hg1.size; simp at this; omega) (by simp)))
  have hf : ∀ j, j < 3 → w2.cell? ⟨w.heap.size, j, none⟩ = (w.alloc (.cells #[.int .i64 f.k, .int .i64 f.i, .string f.s] 24)).cell? ⟨w.heap.size, j, none⟩ := fun j hj => by
    have q1 := ((Below.refl _ _).grown hg1 (Nat.le_refl _) (by simp)).cell (p := ⟨w.heap.size, j, none⟩) (by simp)
    have q2 := ((Below.refl (w.heap.size + 1) w1).grown hg2 (by have := hg1.size; simp at this; omega) (by simp)).cell (p := ⟨w.heap.size, j, none⟩) (by simp)
    exact q2.trans q1
  have hfc : w2.cell? ⟨w.heap.size, 0, none⟩ = some (.int .i64 f.k) ∧ w2.cell? ⟨w.heap.size, 0 + 1, none⟩ = some (.int .i64 f.i) ∧ w2.cell? ⟨w.heap.size, 0 + 2, none⟩ = some (.string f.s) :=
    ⟨(hf 0 (by omega)).trans (by simp), (hf 1 (by omega)).trans (by simp), (hf 2 (by omega)).trans (by simp)⟩
  have HYS := Lib.hid hys
  clear hf hys hown2 hg1 hg2 hown1 hr1
  go_loopw [7] (fun j wr => ∃ (q : Nat) (zs : List Value), n ≤ q ∧ q ≤ n + 3 ∧ j = .int .i64 (q : Int) ∧ Below (w.heap.size + 1) w2 wr ∧ wr.ownsRow (w.heap.size + 1) 24 3 (.slice (some ⟨w.heap.size + 1, 0, none⟩) (n + 3) (n + 3)) (n + 3) zs ∧ zs.take (q * 3) = vcs (vs ++ List.replicate (q - n) f)) (fun j _ => n + 3 - (intOf j).toNat)
  case atStart => exact ⟨n, ys, by omega, by omega, rfl, Below.refl _ _, hown3, by simpa using HYS.out⟩
  case round =>
    obtain ⟨q, zs, hq1, hq2, rfl, hb, hown, hz⟩ := hrel
    have HZ := Lib.hid hz; clear hz
    by_cases hlt : q < n + 3
    · obtain ⟨f0, f1, f2⟩ := val_later hb (by simp) hfc.1 hfc.2.1 hfc.2.2
      simp only [Nat.zero_add] at f1 f2
      obtain ⟨y0, y1, y2, e0, e1, e2⟩ := own_val_cells hown q hlt
      have fr := fun j => hown.frozenAt j
      have hS := own_set_val hown q hlt (.int .i64 f.k) (.int .i64 f.i) (.string f.s)
      have hzl : zs.length = (n + 3) * 3 := hown.1
      have HZL := Lib.hid hzl; clear hzl
      have HS := Lib.hid hS; clear hS
      go_wp2
      go_roundw
      case rel =>
        refine ⟨q + 1, _, by omega, by omega, by go_num, hb.trans HS.out.2, HS.out.1, ?_⟩
        have hlen : (vs ++ List.replicate (q - n) f).length = q := by simp [HN.out]; omega
        have h3 := set_vals zs (vs ++ List.replicate (q - n) f) f (by rw [hlen]; exact HZ.out) (by rw [hlen, HZL.out]; omega)
        rw [hlen] at h3
        rw [h3, show q + 1 - n = (q - n) + 1 by omega, List.replicate_succ', List.append_assoc]
      case measure => simp [intOf]; omega
    · obtain rfl : q = n + 3 := by omega
      go_wp2
      go_ret
      refine ⟨⟨w.heap.size + 1, rfl, ?_⟩, hb0.trans (hb.mono (by simp))⟩
      have hz := HZ.out
      rw [List.take_of_length_le (by rw [hown.1]; exact Nat.le_refl _), show n + 3 - n = 3 by omega] at hz
      rw [← show vcs (vs ++ List.replicate 3 f) = vcs (vs ++ [f, f, f]) from rfl, ← hz]
      exact own_mono hown (by omega)

set_option maxHeartbeats 400000 in
theorem plain1_any (k i : Int) (s : ByteArray) (k' i' : Int) (s' : ByteArray) (w : World) :
    Calls Try.prog 107 #[.agg #[.int .i64 k, .int .i64 i, .string s], .agg #[.int .i64 k', .int .i64 i', .string s']] w fun e w' => e = .returned (.bool (veq ⟨k, i, s⟩ ⟨k', i', s'⟩)) ∧ Below w.heap.size w w' := by
  go_enter Try.func107, Try.ntmps107
  go_wp2
  all_goals
    go_ret
    refine ⟨ret_bool ?_, ((Below.refl _ _).alloc (Nat.le_refl _) _).alloc (by simp) _⟩
    simp [veq, *]

theorem eqVals (a b : List Val) (h : a.length = b.length) (hk : ∀ k (h1 : k < a.length) (h2 : k < b.length), veq a[k] b[k] = true) : a = b :=
  List.ext_getElem h fun k h1 h2 => (veq_iff _ _).1 (hk k h1 h2)

set_option maxRecDepth 100000 in
set_option maxHeartbeats 800000 in
theorem sameVal_any (A : Option Addr) (n c : Nat) (A2 : Option Addr) (n2 c2 : Nat) (vs us : List Val) (w : World) (hr : Rd w 3 A n (vcs vs)) (hr2 : Rd w 3 A2 n2 (vcs us)) (hm : n ≤ 9223372036854775807) (hm2 : n2 ≤ 9223372036854775807) :
    Calls Try.prog 106 #[.slice A n c, .slice A2 n2 c2, .func (.func 107) #[] #[]] w fun e w' => e = .returned (.bool (leq vs us)) ∧ Below w.heap.size w w' := by
  have hn : vs.length = n := by have := hr.1; rw [vcs_length] at this; omega
  have hn2 : us.length = n2 := by have := hr2.1; rw [vcs_length] at this; omega
  have HN := Lib.hid hn; clear hn
  have HN2 := Lib.hid hn2; clear hn2
  by_cases hne : n = n2
  · subst hne
    go_enter Try.func106, Try.ntmps106
    go_wp2
    go_loopw [7] (fun j wr => ∃ k : Nat, k ≤ n ∧ j = .int .i64 (k : Int) ∧ Below w.heap.size w wr ∧ ∀ q (h1 : q < vs.length) (h2 : q < us.length), q < k → veq vs[q] us[q] = true) (fun j _ => n - (intOf j).toNat)
    case atStart => exact ⟨0, by omega, rfl, Below.refl _ _, fun q _ _ h => absurd h (by omega)⟩
    case round =>
      obtain ⟨k, hk, rfl, hb, hall⟩ := hrel
      have HA := Lib.hid hall; clear hall
      by_cases hlt : k < n
      · have hlv : k < vs.length := by rw [HN.out]; exact hlt
        have hlv2 : k < us.length := by rw [HN2.out]; exact hlt
        obtain ⟨b, off, rfl, hlb, g0, g1, g2⟩ := hr.valB hlv
        obtain ⟨b', off', rfl, hlb', g0', g1', g2'⟩ := hr2.valB hlv2
        obtain ⟨h0, h1, h2⟩ := val_later hb hlb g0 g1 g2
        obtain ⟨h0', h1', h2'⟩ := val_later hb hlb' g0' g1' g2'
        clear g0 g1 g2 g0' g1' g2'
        have l0 := Later.cell h0
        have l1 := Later.cell h1
        have l2 := Later.cell h2
        have l0' := Later.cell h0'
        have l1' := Later.cell h1'
        have l2' := Later.cell h2'
        go_wp2
        refine wp_region_later (by kernel_rfl) (by kernel_rfl) ?_
        iterate 11 (go_big_quiet_step ((go_at_call 107; exact Later.call (plain1_any _ _ _ _ _ _ _))))
        refine wpQuiet_nil ?_
        intro s
        cases hV : veq vs[k] us[k]
        · go_wp2
          go_ret
          refine ⟨ret_bool ?_, hb.trans (s.below.mono hb.size)⟩
          rw [leq_no]
          rintro rfl
          rw [(veq_iff _ _).2 rfl] at hV
          cases hV
        · go_wp2
          go_roundw
          case rel => exact ⟨k + 1, by omega, by go_num, hb.trans (s.below.mono hb.size), fun q h1 h2 hq => by
            rcases Nat.lt_or_ge q k with h | h
            · exact HA.out q h1 h2 h
            · obtain rfl : q = k := by omega
              exact hV⟩
          case measure => simp [intOf]; omega
      · go_wp2
        go_ret
        refine ⟨ret_bool ?_, hb⟩
        rw [(leq_iff vs us).2 (eqVals vs us (by rw [HN.out, HN2.out]) fun q h1 h2 => HA.out q h1 h2 (by rw [HN.out] at h1; omega))]
  · have ht : ((n : Int) != n2) = true := by rw [bne_iff_ne]; omega
    go_enter Try.func106, Try.ntmps106
    go_wp2
    go_ret
    refine ⟨ret_bool ?_, Below.refl _ _⟩
    rw [leq_no]
    intro h
    have := HN.out
    rw [h, HN2.out] at this
    exact hne this.symm

theorem plainVal_any (A : Option Addr) (n c : Nat) (A2 : Option Addr) (n2 c2 : Nat) (vs us : List Val) (w : World) (hr : Rd w 3 A n (vcs vs)) (hr2 : Rd w 3 A2 n2 (vcs us)) (hm : n ≤ 9223372036854775807) (hm2 : n2 ≤ 9223372036854775807) :
    Calls Try.prog 44 #[.slice A n c, .slice A2 n2 c2] w fun e w' => e = .returned (.bool (leq vs us)) ∧ Below w.heap.size w w' := by
  go_enter Try.func44, Try.ntmps44
  go_wp2_with fail
  refine (sameVal_any A n c A2 n2 c2 vs us _ hr hr2 hm hm2).mono ?_
  rintro e w1 ⟨rfl, hb1⟩
  go_wp2
  go_ret
  exact ⟨rfl, hb1⟩

set_option maxRecDepth 100000 in
set_option maxHeartbeats 800000 in
theorem keptVal_any (g : Nat) (A2 : Option Addr) (n c2 : Nat) (vs : List Val) (f : Val) (w : World) (hr : Rd w 3 (some ⟨g, 0, none⟩) (n + 3) (vcs (vs ++ [f, f, f]))) (hr2 : Rd w 3 A2 n (vcs vs)) (hm : n ≤ 4398046511104) :
    Calls Try.prog 21 #[.slice (some ⟨g, 0, none⟩) n (n + 3), .slice A2 n c2, .agg #[.int .i64 f.k, .int .i64 f.i, .string f.s]] w fun e w' => e = .returned (.bool true) ∧ Below w.heap.size w w' := by
  have hn : vs.length = n := by have := hr2.1; rw [vcs_length] at this; omega
  have HN := Lib.hid hn; clear hn
  have hr1 : Rd w 3 (some ⟨g, 0, none⟩) n (vcs vs) := by
    have := hr.take (k := n) (by omega)
    rw [vcs_take] at this
    rw [← HN.out, List.take_left' rfl, HN.out] at this
    exact this
  go_enter Try.func21, Try.ntmps21
  go_wp2_with fail
  refine (plainVal_any _ n _ A2 n c2 vs vs _ (hr1.below ((Below.refl _ _).alloc (Nat.le_refl _) _)) (hr2.below ((Below.refl _ _).alloc (Nat.le_refl _) _)) (by omega) (by omega)).mono ?_
  rintro e w1 ⟨rfl, hb1⟩
  rw [leq_self]
  go_wp2
  have hfc : w1.cell? ⟨w.heap.size, 0, none⟩ = some (.int .i64 f.k) ∧ w1.cell? ⟨w.heap.size, 0 + 1, none⟩ = some (.int .i64 f.i) ∧ w1.cell? ⟨w.heap.size, 0 + 2, none⟩ = some (.string f.s) :=
    val_later hb1 (by simp) (by simp) (by simp) (by simp)
  have hb0 : Below w.heap.size w w1 := ((Below.refl _ _).alloc (Nat.le_refl _) _).trans (hb1.mono (by simp))
  have hz1 : w.heap.size < w1.heap.size := by have := hb1.size; simp at this; omega
  go_loopw [8] (fun j wr => ∃ q : Nat, n ≤ q ∧ q ≤ n + 3 ∧ j = .int .i64 (q : Int) ∧ Below w1.heap.size w1 wr) (fun j _ => n + 3 - (intOf j).toNat)
  case atStart => exact ⟨n, by omega, by omega, rfl, Below.refl _ _⟩
  case round =>
    obtain ⟨q, hq1, hq2, rfl, hb⟩ := hrel
    by_cases hlt : q < n + 3
    · obtain ⟨f0, f1, f2⟩ := val_later hb hz1 hfc.1 hfc.2.1 hfc.2.2
      simp only [Nat.zero_add] at f1 f2
      have hlv : q < (vs ++ [f, f, f]).length := by simp [HN.out]; omega
      obtain ⟨b, off, hA, hlb, g0, g1, g2⟩ := hr.valB hlv
      have hqf : (vs ++ [f, f, f])[q] = f := three_get vs f q (by rw [HN.out]; omega) hlv
      rw [hqf] at g0 g1 g2
      simp only [Option.some.injEq, Addr.mk.injEq] at hA
      obtain ⟨rfl, rfl, _⟩ := hA
      simp only [Nat.zero_add] at g0 g1 g2
      obtain ⟨e0, e1, e2⟩ := val_later (hb0.trans (hb.mono (by omega))) hlb g0 g1 g2
      clear g0 g1 g2 hqf hlv hfc
      have l0 := Later.cell e0
      have l1 := Later.cell e1
      have l2 := Later.cell e2
      have m0 := Later.cell f0
      have m1 := Later.cell f1
      have m2 := Later.cell f2
      go_wp2
      refine wp_region_later (by kernel_rfl) (by kernel_rfl) ?_
      iterate 6 (go_big_quiet_step (fail))
      refine wpQuiet_nil ?_
      intro s
      go_wp2
      go_roundw
      case rel => exact ⟨q + 1, by omega, by omega, by go_num, hb.trans (s.below.mono hb.size)⟩
      case measure => simp [intOf]; omega
    · go_wp2
      go_ret
      exact ⟨rfl, hb0.trans (hb.mono (by omega))⟩
end Go.Proofs.Ytikkknaofiafhaa
