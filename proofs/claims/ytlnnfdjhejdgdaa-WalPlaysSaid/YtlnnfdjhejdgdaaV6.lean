/- armoirehelp.Same of two lists of bytes. -/
import Derived.Test.YtlnnfdjhejdgdaaW36
namespace Go.Proofs.Ytlnnfdjhejdgdaa
open Go.RowKit

theorem bytes_eqL {ok ok2 : Nat → Prop} (u v : Value) (l p : List UInt8) (w : World) (h1 : RB ok w u l) (h2 : RB ok2 w v p) :
    Calls Try.prog 15 #[u, v] w fun e w' => e = .returned (.bool (decide (l = p))) ∧ w = w' := by
  obtain ⟨A, c, rfl, _, _, r1, _⟩ := h1.open_
  obtain ⟨A2, c2, rfl, _, _, r2, _⟩ := h2.open_
  refine (bytes_any A A2 _ c _ c2 l p w r1 r2).mono fun e w' ⟨he, hw⟩ => ⟨?_, hw⟩
  rw [he, show (l == p) = decide (l = p) by rw [Bool.eq_iff_iff]; simp]
set_option maxRecDepth 100000 in
set_option maxHeartbeats 1600000 in
theorem sameBs_any {ok ok2 : Nat → Prop} (v u : Value) (vs us : List (List UInt8)) (w : World) (hr : RSl rBs ok w v vs) (hr2 : RSl rBs ok2 w u us) :
    Calls Try.prog 18 #[v, u, .func (.func 15) #[] #[]] w fun e w' => e = .returned (.bool (decide (vs = us))) ∧ Below w.heap.size w w' := by
  obtain ⟨A, c, rfl, hc, hsl⟩ := hr.form
  obtain ⟨A2, c2, rfl, hc2, hsl2⟩ := hr2.form
  have hwt : rBs.wt = 24 := rfl
  rw [hwt] at hsl hsl2
  clear hwt
  obtain ⟨n, hn⟩ : ∃ n, n = vs.length := ⟨_, rfl⟩
  obtain ⟨n2, hn2⟩ : ∃ n2, n2 = us.length := ⟨_, rfl⟩
  rw [← hn] at hsl hc
  rw [← hn2] at hsl2 hc2
  rw [← hn, ← hn2]
  have HN := Lib.hid hn; clear hn
  have HN2 := Lib.hid hn2; clear hn2
  by_cases hne : n = n2
  · subst hne
    go_enter Try.func18, Try.ntmps18
    go_wp2
    go_loopw [7] (fun j wr => ∃ k : Nat, k ≤ n ∧ j = .int .i64 (k : Int) ∧ Below w.heap.size w wr ∧ Hid (∀ q (h1 : q < vs.length) (h2 : q < us.length), q < k → vs[q] = us[q])) (fun j _ => n - (intOf j).toNat)
    case atStart => exact ⟨0, by omega, rfl, Below.refl _ _, Lib.hid fun q _ _ h => absurd h (by omega)⟩
    case round =>
      obtain ⟨k, hk, rfl, hb, HA⟩ := hrel
      by_cases hlt : k < n
      · have hlv : k < vs.length := by rw [← HN.out]; exact hlt
        have hlv2 : k < us.length := by rw [← HN2.out]; exact hlt
        obtain ⟨b9, off9, c9, cs9, hv9, _, ⟨v9, rfl, hr9⟩, hcell9⟩ := (hr.below hb).at_ hlv
        obtain ⟨b8, off8, c8, cs8, hv8, _, ⟨v8, rfl, hr8⟩, hcell8⟩ := (hr2.below hb).at_ hlv2
        rw [← HN.out] at hv9
        rw [← HN2.out] at hv8
        simp only [Value.slice.injEq, true_and] at hv9 hv8
        obtain ⟨rfl, rfl⟩ := hv9
        obtain ⟨rfl, rfl⟩ := hv8
        obtain ⟨A9, d9, rfl, _, _⟩ := hr9.form
        obtain ⟨A8, d8, rfl, _, _⟩ := hr8.form
        obtain ⟨m9, hm9⟩ : ∃ m, m = vs[k].length := ⟨_, rfl⟩
        obtain ⟨m8, hm8⟩ : ∃ m, m = us[k].length := ⟨_, rfl⟩
        rw [← hm9] at hcell9
        rw [← hm8] at hcell8
        have q9 : ∀ s : Later wr, s.val.cell? ⟨b9, off9 + k * 1, none⟩ = some (.slice A9 m9 d9) := Later.cell (hcell9 0 _ rfl)
        have q8 : ∀ s : Later wr, s.val.cell? ⟨b8, off8 + k * 1, none⟩ = some (.slice A8 m8 d8) := Later.cell (hcell8 0 _ rfl)
        have q7 : ∀ s : Later wr, s.val.cell? ⟨b9, off9 + k, none⟩ = some (.slice A9 m9 d9) := by simpa using q9
        have q6 : ∀ s : Later wr, s.val.cell? ⟨b8, off8 + k, none⟩ = some (.slice A8 m8 d8) := by simpa using q8
        obtain ⟨eq, hV⟩ : ∃ x : Bool, x = decide (vs[k] = us[k]) := ⟨_, rfl⟩
        have HC : Hid (∀ s : Later wr, Calls Try.prog 15 #[.slice A9 m9 d9, .slice A8 m8 d8] s.val fun e w' => e = .returned (.bool eq) ∧ s.val = w') := Lib.hid fun s => by
          have := bytes_eqL _ _ vs[k] us[k] s.val (hr9.kp (.of_below s.below)) (hr8.kp (.of_below s.below))
          rw [← hm9, ← hm8, ← hV] at this
          exact this
        have HV := Lib.hid hV
        clear hV hm9 hm8 hcell9 hcell8 hr9 hr8
        cases eq
        · go_wp2
          refine wp_region_later (by kernel_rfl) (by kernel_rfl) ?_
          iterate 11 (go_big_quiet_step ((go_at_call 15; exact Later.call_same (HC.out _))))
          refine wpQuiet_nil ?_
          intro s
          go_wp2
          go_ret
          refine ⟨ret_bool ?_, hb.trans (s.below.mono hb.size)⟩
          rw [eq_comm, decide_eq_false_iff_not]
          rintro rfl
          have := HV.out
          simp at this
        · go_wp2
          refine wp_region_later (by kernel_rfl) (by kernel_rfl) ?_
          iterate 11 (go_big_quiet_step ((go_at_call 15; exact Later.call_same (HC.out _))))
          refine wpQuiet_nil ?_
          intro s
          go_wp2
          go_roundw
          case rel => exact ⟨k + 1, by omega, by go_num, hb.trans (s.below.mono hb.size), Lib.hid fun q h1 h2 hq => by
            rcases Nat.lt_or_ge q k with h | h
            · exact HA.out q h1 h2 h
            · obtain rfl : q = k := by omega
              exact of_decide_eq_true HV.out.symm⟩
          case measure => simp [intOf]; omega
      · go_wp2
        go_ret
        refine ⟨ret_bool ?_, hb⟩
        rw [eq_comm, decide_eq_true_iff]
        exact List.ext_getElem (by rw [← HN.out, ← HN2.out]) fun q h1 h2 => HA.out q h1 h2 (by have := HN.out; omega)
  · have ht : ((n : Int) != n2) = true := by rw [bne_iff_ne]; omega
    go_enter Try.func18, Try.ntmps18
    go_wp2
    go_ret
    refine ⟨ret_bool ?_, Below.refl _ _⟩
    rw [eq_comm, decide_eq_false_iff_not]
    intro h
    have := HN.out
    rw [h, ← HN2.out] at this
    exact hne this
end Go.Proofs.Ytlnnfdjhejdgdaa
