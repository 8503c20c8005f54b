/- Contracts: two entries, two logs: helper.Entry, Same of entries, Log; vault.sameEntry, EqualFunc of it, same.
Contracts: vault.Own.
Contracts: helper.CopyLog. -/
import Derived.Test.YtnlhjhpikjmoaaaGreatDoorA9
import Derived.Test.YtnlhjhpikjmoaaaGreatDoorS0
import Derived.Test.YtnlhjhpikjmoaaaGreatDoorDec
namespace Go.Proofs.YtnlhjhpikjmoaaaGreatDoor
open Go.RowKit
theorem bytes_rbL {ok ok2 : Nat → Prop} (u v : Value) (l p : List UInt8) (w : World) (h1 : RB ok w u l) (h2 : RB ok2 w v p) :
    Calls Tryz.prog 28 #[u, v] w fun e w' => e = .returned (.bool (decide (l = p))) ∧ w = w' := by
  obtain ⟨A, c, rfl, _, _, r1, _⟩ := h1.open_
  obtain ⟨A2, c2, rfl, _, _, r2, _⟩ := h2.open_
  refine (bytes_any A A2 _ c _ c2 l p w r1 r2).mono fun e w' ⟨he, hw⟩ => ⟨?_, hw⟩
  rw [he, show (l == p) = decide (l = p) by rw [Bool.eq_iff_iff]; simp]
theorem beqBL (l p : List UInt8) : ((str l).toList == (str p).toList) = decide (l = p) := by
  rw [str_toList, str_toList]
  by_cases h : l = p
  · simp [h]
  · simp [h]
set_option maxHeartbeats 800000 in
theorem equal_rbL {ok ok2 : Nat → Prop} (u v : Value) (l p : List UInt8) (w : World) (h1 : RB ok w u l) (h2 : RB ok2 w v p) :
    Calls Tryz.prog 67 #[u, v] w fun e w' => e = .returned (.bool (decide (l = p))) ∧ w = w' := by
  obtain ⟨A, c, rfl, _, _, r1, _⟩ := h1.open_
  obtain ⟨A2, c2, rfl, _, _, r2, _⟩ := h2.open_
  have e1 := run_str (c := c) (P := Tryz.prog) 25 9 5 Tryz.underlying25 Tryz.underlying5 Tryz.underlying9 r1
  have e2 := run_str (c := c2) (P := Tryz.prog) 25 9 5 Tryz.underlying25 Tryz.underlying5 Tryz.underlying9 r2
  have HB := Lib.hid (beqBL l p)
  go_enter Tryz.func67, Tryz.ntmps67
  go_wp2
  go_ret
  exact ⟨ret_bool HB.out, rfl⟩
set_option maxRecDepth 100000 in
set_option maxHeartbeats 1600000 in
theorem entry_any {ok ok2 : Nat → Prop} {w : World} {v u : Value} {e f : VEnt} (h1 : RB ok w v e.data) (h2 : RB ok2 w u f.data) :
    Calls Tryz.prog 30 #[.agg #[.int .u64 (e.term : Int), .int .u64 (e.idx : Int), v], .agg #[.int .u64 (f.term : Int), .int .u64 (f.idx : Int), u]] w fun x w' => x = .returned (.bool (entEq e f)) ∧ Below w.heap.size w w' := by
  have HB := Lib.hid (fun (w' : World) (hb : Below w.heap.size w w') => bytes_rbL v u e.data f.data w' (h1.below hb) (h2.below hb))
  obtain ⟨A, c, rfl, _, _⟩ := h1.form
  obtain ⟨A2, c2, rfl, _, _⟩ := h2.form
  obtain ⟨n, hn⟩ : ∃ n, n = e.data.length := ⟨_, rfl⟩
  obtain ⟨n2, hn2⟩ : ∃ n2, n2 = f.data.length := ⟨_, rfl⟩
  rw [← hn, ← hn2] at HB ⊢
  obtain ⟨eq, hq⟩ : ∃ x : Bool, x = decide (e.data = f.data) := ⟨_, rfl⟩
  rw [← hq] at HB
  have HE := Lib.hid (show entEq e f = (decide (e.term = f.term) && (decide (e.idx = f.idx) && eq)) by rw [hq]; rfl)
  clear h1 h2 hn hn2 hq
  go_enter Tryz.func30, Tryz.ntmps30
  go_upto_region 1 with fail
  refine name_world (fun w1 => Blk w1 w.heap.size 50 #[.int .u64 (e.term : Int), .int .u64 (e.idx : Int), .slice A n c] ∧ Blk w1 (w.heap.size + 1) 50 #[.int .u64 (f.term : Int), .int .u64 (f.idx : Int), .slice A2 n2 c2] ∧ Below w.heap.size w w1) ⟨(Blk.new _ _ _).alloc _, Blk.new_ (by simp), ((Below.refl _ _).alloc (Nat.le_refl _) _).alloc (by simp) _⟩ ?_
  rintro w1 ⟨k1, k2, hB1⟩
  have p0 : w1.cell? ⟨w.heap.size, 0, none⟩ = some (.int .u64 (e.term : Int)) := k1.cell 0
  have p1 : w1.cell? ⟨w.heap.size, 1, none⟩ = some (.int .u64 (e.idx : Int)) := k1.cell 1
  have p2 : w1.cell? ⟨w.heap.size, 2, none⟩ = some (.slice A n c) := k1.cell 2
  have r0 : w1.cell? ⟨w.heap.size + 1, 0, none⟩ = some (.int .u64 (f.term : Int)) := k2.cell 0
  have r1 : w1.cell? ⟨w.heap.size + 1, 1, none⟩ = some (.int .u64 (f.idx : Int)) := k2.cell 1
  have r2 : w1.cell? ⟨w.heap.size + 1, 2, none⟩ = some (.slice A2 n2 c2) := k2.cell 2
  have HC := Lib.hid (HB.out w1 hB1)
  clear k1 k2 HB
  by_cases h1 : e.term = f.term
  · have z1 : ((e.term : Int) == (f.term : Int)) = true := by rw [beq_iff_eq]; omega
    have z1' : decide (e.term = f.term) = true := decide_eq_true h1
    by_cases h2 : e.idx = f.idx
    · have z2 : ((e.idx : Int) == (f.idx : Int)) = true := by rw [beq_iff_eq]; omega
      have z2' : decide (e.idx = f.idx) = true := decide_eq_true h2
      have HR := Lib.hid (show entEq e f = eq by rw [HE.out, z1', z2']; rfl)
      clear HE h1 h2
      go_wp2_with fail
      refine HC.out.mono ?_
      rintro x w2 ⟨rfl, rfl⟩
      go_wp2
      go_ret
      exact ⟨by rw [HR.out]; rfl, hB1⟩
    · have z2 : ((e.idx : Int) == (f.idx : Int)) = false := by rw [beq_eq_false_iff_ne]; omega
      have z2' : decide (e.idx = f.idx) = false := decide_eq_false h2
      have HR := Lib.hid (show entEq e f = false by rw [HE.out, z1', z2']; rfl)
      clear HE h1 h2 HC
      go_wp2
      go_ret
      exact ⟨by rw [HR.out]; rfl, hB1⟩
  · have z1 : ((e.term : Int) == (f.term : Int)) = false := by rw [beq_eq_false_iff_ne]; omega
    have z1' : decide (e.term = f.term) = false := decide_eq_false h1
    have HR := Lib.hid (show entEq e f = false by rw [HE.out, z1']; rfl)
    clear HE h1 HC
    go_wp2
    go_ret
    exact ⟨by rw [HR.out]; rfl, hB1⟩
set_option maxRecDepth 100000 in
set_option maxHeartbeats 1600000 in
theorem sameEntry_any {ok ok2 : Nat → Prop} {w : World} {v u : Value} {e f : VEnt} (h1 : RB ok w v e.data) (h2 : RB ok2 w u f.data) :
    Calls Tryz.prog 69 #[.agg #[.int .u64 (e.term : Int), .int .u64 (e.idx : Int), v], .agg #[.int .u64 (f.term : Int), .int .u64 (f.idx : Int), u]] w fun x w' => x = .returned (.bool (entEq e f)) ∧ Below w.heap.size w w' := by
  have HB := Lib.hid (fun (w' : World) (hb : Below w.heap.size w w') => equal_rbL v u e.data f.data w' (h1.below hb) (h2.below hb))
  obtain ⟨A, c, rfl, _, _⟩ := h1.form
  obtain ⟨A2, c2, rfl, _, _⟩ := h2.form
  obtain ⟨n, hn⟩ : ∃ n, n = e.data.length := ⟨_, rfl⟩
  obtain ⟨n2, hn2⟩ : ∃ n2, n2 = f.data.length := ⟨_, rfl⟩
  rw [← hn, ← hn2] at HB ⊢
  obtain ⟨eq, hq⟩ : ∃ x : Bool, x = decide (e.data = f.data) := ⟨_, rfl⟩
  rw [← hq] at HB
  have HE := Lib.hid (show entEq e f = (decide (e.term = f.term) && (decide (e.idx = f.idx) && eq)) by rw [hq]; rfl)
  clear h1 h2 hn hn2 hq
  go_enter Tryz.func69, Tryz.ntmps69
  go_upto_region 1 with fail
  refine name_world (fun w1 => Blk w1 w.heap.size 50 #[.int .u64 (e.term : Int), .int .u64 (e.idx : Int), .slice A n c] ∧ Blk w1 (w.heap.size + 1) 50 #[.int .u64 (f.term : Int), .int .u64 (f.idx : Int), .slice A2 n2 c2] ∧ Below w.heap.size w w1) ⟨(Blk.new _ _ _).alloc _, Blk.new_ (by simp), ((Below.refl _ _).alloc (Nat.le_refl _) _).alloc (by simp) _⟩ ?_
  rintro w1 ⟨k1, k2, hB1⟩
  have p0 : w1.cell? ⟨w.heap.size, 0, none⟩ = some (.int .u64 (e.term : Int)) := k1.cell 0
  have p1 : w1.cell? ⟨w.heap.size, 1, none⟩ = some (.int .u64 (e.idx : Int)) := k1.cell 1
  have p2 : w1.cell? ⟨w.heap.size, 2, none⟩ = some (.slice A n c) := k1.cell 2
  have r0 : w1.cell? ⟨w.heap.size + 1, 0, none⟩ = some (.int .u64 (f.term : Int)) := k2.cell 0
  have r1 : w1.cell? ⟨w.heap.size + 1, 1, none⟩ = some (.int .u64 (f.idx : Int)) := k2.cell 1
  have r2 : w1.cell? ⟨w.heap.size + 1, 2, none⟩ = some (.slice A2 n2 c2) := k2.cell 2
  have HC := Lib.hid (HB.out w1 hB1)
  clear k1 k2 HB
  by_cases h1 : e.term = f.term
  · have z1 : ((e.term : Int) == (f.term : Int)) = true := by rw [beq_iff_eq]; omega
    have z1' : decide (e.term = f.term) = true := decide_eq_true h1
    by_cases h2 : e.idx = f.idx
    · have z2 : ((e.idx : Int) == (f.idx : Int)) = true := by rw [beq_iff_eq]; omega
      have z2' : decide (e.idx = f.idx) = true := decide_eq_true h2
      have HR := Lib.hid (show entEq e f = eq by rw [HE.out, z1', z2']; rfl)
      clear HE h1 h2
      go_wp2_with fail
      refine HC.out.mono ?_
      rintro x w2 ⟨rfl, rfl⟩
      go_wp2
      go_ret
      exact ⟨by rw [HR.out]; rfl, hB1⟩
    · have z2 : ((e.idx : Int) == (f.idx : Int)) = false := by rw [beq_eq_false_iff_ne]; omega
      have z2' : decide (e.idx = f.idx) = false := decide_eq_false h2
      have HR := Lib.hid (show entEq e f = false by rw [HE.out, z1', z2']; rfl)
      clear HE h1 h2 HC
      go_wp2
      go_ret
      exact ⟨by rw [HR.out]; rfl, hB1⟩
  · have z1 : ((e.term : Int) == (f.term : Int)) = false := by rw [beq_eq_false_iff_ne]; omega
    have z1' : decide (e.term = f.term) = false := decide_eq_false h1
    have HR := Lib.hid (show entEq e f = false by rw [HE.out, z1']; rfl)
    clear HE h1 HC
    go_wp2
    go_ret
    exact ⟨by rw [HR.out]; rfl, hB1⟩
set_option maxRecDepth 100000 in
set_option maxHeartbeats 1600000 in
theorem sameEnts_any {ok ok2 : Nat → Prop} (v u : Value) (vs us : List VEnt) (w : World) (hr : RSl rEnt ok w v vs) (hr2 : RSl rEnt ok2 w u us) :
    Calls Tryz.prog 29 #[v, u, .func (.func 30) #[] #[]] w fun e w' => e = .returned (.bool (sameE vs us)) ∧ Below w.heap.size w w' := by
  obtain ⟨A, c, rfl, hc, hsl⟩ := hr.form
  obtain ⟨A2, c2, rfl, hc2, hsl2⟩ := hr2.form
  obtain ⟨n, hn⟩ : ∃ n, n = vs.length := ⟨_, rfl⟩
  obtain ⟨n2, hn2⟩ : ∃ n2, n2 = us.length := ⟨_, rfl⟩
  have hsl' : n * 40 ≤ 140737488351232 := by rw [hn]; exact hsl
  have hsl2' : n2 * 40 ≤ 140737488351232 := by rw [hn2]; exact hsl2
  rw [← hn] at hc hr
  rw [← hn2] at hc2 hr2
  rw [← hn, ← hn2]
  have HN := Lib.hid hn
  have HN2 := Lib.hid hn2
  have HR := Lib.hid hr
  have HR2 := Lib.hid hr2
  clear hn hn2 hsl hsl2 hr hr2
  by_cases hne : n = n2
  · subst hne
    go_enter Tryz.func29, Tryz.ntmps29
    go_upto_region 4 with fail
    go_loopw [7] (fun j wr => ∃ k : Nat, k ≤ n ∧ j = .int .i64 (k : Int) ∧ Below w.heap.size w wr ∧ Hid (sameE vs us = sameE (vs.drop k) (us.drop k))) (fun j _ => n - (intOf j).toNat)
    case atStart => exact ⟨0, by omega, rfl, Below.refl _ _, Lib.hid rfl⟩
    case round =>
      obtain ⟨k, hk, rfl, hb, HA⟩ := hrel
      by_cases hlt : k < n
      · have hlv : k < vs.length := by rw [← HN.out]; exact hlt
        have hlv2 : k < us.length := by rw [← HN2.out]; exact hlt
        obtain ⟨b9, off9, c9, cs9, hv9, _, ⟨v9, rfl, hr9, h91, h92⟩, hcell9⟩ := (HR.out.below hb).at_ hlv
        obtain ⟨b8, off8, c8, cs8, hv8, _, ⟨v8, rfl, hr8, h81, h82⟩, hcell8⟩ := (HR2.out.below hb).at_ hlv2
        rw [← HN.out] at hv9
        rw [← HN2.out] at hv8
        obtain ⟨rfl, rfl⟩ : A = some ⟨b9, off9, none⟩ ∧ c = c9 := by simpa using hv9
        obtain ⟨rfl, rfl⟩ : A2 = some ⟨b8, off8, none⟩ ∧ c2 = c8 := by simpa using hv8
        obtain ⟨A9, d9, rfl, hf9⟩ := hr9.form
        obtain ⟨A8, d8, rfl, hf8⟩ := hr8.form
        obtain ⟨e, he⟩ : ∃ e, e = vs[k] := ⟨_, rfl⟩
        obtain ⟨f, hf⟩ : ∃ f, f = us[k] := ⟨_, rfl⟩
        have HD := Lib.hid (show sameE vs us = (entEq e f && sameE (vs.drop (k + 1)) (us.drop (k + 1))) by
          rw [HA.out, List.drop_eq_getElem_cons hlv, List.drop_eq_getElem_cons hlv2, he, hf]
          rfl)
        rw [← he] at hcell9 hr9 h91 h92 hf9
        rw [← hf] at hcell8 hr8 h81 h82 hf8
        have HC := Lib.hid (fun (w' : World) (hb : Below wr.heap.size wr w') => entry_any (e := e) (f := f) (hr9.below hb) (hr8.below hb))
        obtain ⟨m9, hm9⟩ : ∃ m, m = e.data.length := ⟨_, rfl⟩
        obtain ⟨m8, hm8⟩ : ∃ m, m = f.data.length := ⟨_, rfl⟩
        rw [← hm9] at hcell9 HC
        rw [← hm8] at hcell8 HC
        obtain ⟨q, hq⟩ : ∃ q, q = entEq e f := ⟨_, rfl⟩
        rw [← hq] at HC HD
        have q0 : ∀ s : Later wr, s.val.cell? ⟨b9, off9 + k * 3, none⟩ = some (.int .u64 (e.term : Int)) := Later.cell (hcell9 0 _ rfl)
        have q1 : ∀ s : Later wr, s.val.cell? ⟨b9, off9 + k * 3 + 1, none⟩ = some (.int .u64 (e.idx : Int)) := Later.cell (by have := hcell9 1 _ rfl; rwa [Nat.add_assoc])
        have q2 : ∀ s : Later wr, s.val.cell? ⟨b9, off9 + k * 3 + 2, none⟩ = some (.slice A9 m9 d9) := Later.cell (by have := hcell9 2 _ rfl; rwa [Nat.add_assoc])
        have p0 : ∀ s : Later wr, s.val.cell? ⟨b8, off8 + k * 3, none⟩ = some (.int .u64 (f.term : Int)) := Later.cell (hcell8 0 _ rfl)
        have p1 : ∀ s : Later wr, s.val.cell? ⟨b8, off8 + k * 3 + 1, none⟩ = some (.int .u64 (f.idx : Int)) := Later.cell (by have := hcell8 1 _ rfl; rwa [Nat.add_assoc])
        have p2 : ∀ s : Later wr, s.val.cell? ⟨b8, off8 + k * 3 + 2, none⟩ = some (.slice A8 m8 d8) := Later.cell (by have := hcell8 2 _ rfl; rwa [Nat.add_assoc])
        clear hcell9 hcell8 hr9 hr8 h91 h92 h81 h82 hf9 hf8 hm9 hm8 hv9 hv8 he hf hq HA
        go_upto_region 6 with fail
        refine wp_seqL [9] (by as_aux_lemma => kernel_rfl) (by as_aux_lemma => kernel_rfl) fun w2 hb2 => ?_
        refine seqL_pre 9 (by kernel_rfl) ?_
        simp only [List.take_succ_cons, List.take_zero, List.drop_succ_cons, List.drop_zero]
        repeat (go_big_quiet_step (fail))
        refine wpQuiet_nil ?_
        refine seqL_wild hb2 rfl rfl fun K hK => ?_
        unfold Gives
        go_simp
        refine (HC.out w2 hb2).mono ?_
        rintro x w3 ⟨rfl, hb3⟩
        refine ⟨_, rfl, hK _ _ (hb3) fun hb3' => ?_⟩
        clear hK
        clear K
        simp only [Act.put, List.setIfInBounds_toArray, List.set_cons_succ, List.set_cons_zero]
        refine seqL_pre 1 (by kernel_rfl) ?_
        simp only [List.take_succ_cons, List.take_zero, List.drop_succ_cons, List.drop_zero]
        repeat (go_big_quiet_step (fail))
        refine wpQuiet_nil ?_
        refine seqL_nil ?_
        have hbz := hb.trans (hb3'.mono hb.size)
        cases q
        · have HF := Lib.hid (show sameE vs us = false by rw [HD.out]; rfl)
          clear HD HC q0 q1 q2 p0 p1 p2
          go_wp2
          go_ret
          exact ⟨by rw [HF.out]; rfl, hbz⟩
        · have HF := Lib.hid (show sameE vs us = sameE (vs.drop (k + 1)) (us.drop (k + 1)) by rw [HD.out]; rfl)
          clear HD HC q0 q1 q2 p0 p1 p2
          go_wp2
          go_roundw
          case rel => exact ⟨k + 1, by omega, by go_num, hbz, HF⟩
          case measure => simp [intOf]; omega
      · obtain rfl : k = n := by omega
        have HF := Lib.hid (show sameE vs us = true by rw [HA.out, List.drop_of_length_le (by rw [← HN.out]; omega), List.drop_of_length_le (by rw [← HN2.out]; omega)]; rfl)
        clear HA
        go_wp2
        go_ret
        exact ⟨by rw [HF.out]; rfl, hb⟩
  · have ht : ((n : Int) != n2) = true := by rw [bne_iff_ne]; omega
    have HF := Lib.hid (show sameE vs us = false by
      cases h : sameE vs us
      · rfl
      · exfalso
        have := (sameE_iff vs us).1 h
        rw [HN.out, HN2.out, this] at hne
        exact hne rfl)
    go_enter Tryz.func29, Tryz.ntmps29
    go_wp2
    go_ret
    exact ⟨by rw [HF.out]; rfl, Below.refl _ _⟩
set_option maxRecDepth 100000 in
set_option maxHeartbeats 1600000 in
theorem equalEnts_any {ok ok2 : Nat → Prop} (v u : Value) (vs us : List VEnt) (w : World) (hr : RSl rEnt ok w v vs) (hr2 : RSl rEnt ok2 w u us) :
    Calls Tryz.prog 68 #[v, u, .func (.func 69) #[] #[]] w fun e w' => e = .returned (.bool (sameE vs us)) ∧ Below w.heap.size w w' := by
  obtain ⟨A, c, rfl, hc, hsl⟩ := hr.form
  obtain ⟨A2, c2, rfl, hc2, hsl2⟩ := hr2.form
  obtain ⟨n, hn⟩ : ∃ n, n = vs.length := ⟨_, rfl⟩
  obtain ⟨n2, hn2⟩ : ∃ n2, n2 = us.length := ⟨_, rfl⟩
  have hsl' : n * 40 ≤ 140737488351232 := by rw [hn]; exact hsl
  have hsl2' : n2 * 40 ≤ 140737488351232 := by rw [hn2]; exact hsl2
  rw [← hn] at hc hr
  rw [← hn2] at hc2 hr2
  rw [← hn, ← hn2]
  have HN := Lib.hid hn
  have HN2 := Lib.hid hn2
  have HR := Lib.hid hr
  have HR2 := Lib.hid hr2
  clear hn hn2 hsl hsl2 hr hr2
  by_cases hne : n = n2
  · subst hne
    go_enter Tryz.func68, Tryz.ntmps68
    go_upto_region 4 with fail
    go_loopw [17] (fun j wr => ∃ k : Nat, k ≤ n ∧ j = .int .i64 (k : Int) ∧ Below w.heap.size w wr ∧ Hid (sameE vs us = sameE (vs.drop k) (us.drop k))) (fun j _ => n - (intOf j).toNat)
    case atStart => exact ⟨0, by omega, rfl, Below.refl _ _, Lib.hid rfl⟩
    case round =>
      obtain ⟨k, hk, rfl, hb, HA⟩ := hrel
      by_cases hlt : k < n
      · have hlv : k < vs.length := by rw [← HN.out]; exact hlt
        have hlv2 : k < us.length := by rw [← HN2.out]; exact hlt
        obtain ⟨b9, off9, c9, cs9, hv9, _, ⟨v9, rfl, hr9, h91, h92⟩, hcell9⟩ := (HR.out.below hb).at_ hlv
        obtain ⟨b8, off8, c8, cs8, hv8, _, ⟨v8, rfl, hr8, h81, h82⟩, hcell8⟩ := (HR2.out.below hb).at_ hlv2
        rw [← HN.out] at hv9
        rw [← HN2.out] at hv8
        obtain ⟨rfl, rfl⟩ : A = some ⟨b9, off9, none⟩ ∧ c = c9 := by simpa using hv9
        obtain ⟨rfl, rfl⟩ : A2 = some ⟨b8, off8, none⟩ ∧ c2 = c8 := by simpa using hv8
        obtain ⟨A9, d9, rfl, hf9⟩ := hr9.form
        obtain ⟨A8, d8, rfl, hf8⟩ := hr8.form
        obtain ⟨e, he⟩ : ∃ e, e = vs[k] := ⟨_, rfl⟩
        obtain ⟨f, hf⟩ : ∃ f, f = us[k] := ⟨_, rfl⟩
        have HD := Lib.hid (show sameE vs us = (entEq e f && sameE (vs.drop (k + 1)) (us.drop (k + 1))) by
          rw [HA.out, List.drop_eq_getElem_cons hlv, List.drop_eq_getElem_cons hlv2, he, hf]
          rfl)
        rw [← he] at hcell9 hr9 h91 h92 hf9
        rw [← hf] at hcell8 hr8 h81 h82 hf8
        have HC := Lib.hid (fun (w' : World) (hb : Below wr.heap.size wr w') => sameEntry_any (e := e) (f := f) (hr9.below hb) (hr8.below hb))
        obtain ⟨m9, hm9⟩ : ∃ m, m = e.data.length := ⟨_, rfl⟩
        obtain ⟨m8, hm8⟩ : ∃ m, m = f.data.length := ⟨_, rfl⟩
        rw [← hm9] at hcell9 HC
        rw [← hm8] at hcell8 HC
        obtain ⟨q, hq⟩ : ∃ q, q = entEq e f := ⟨_, rfl⟩
        rw [← hq] at HC HD
        have q0 : wr.cell? ⟨b9, off9 + k * 3, none⟩ = some (.int .u64 (e.term : Int)) := hcell9 0 _ rfl
        have q1 : wr.cell? ⟨b9, off9 + k * 3 + 1, none⟩ = some (.int .u64 (e.idx : Int)) := (by have := hcell9 1 _ rfl; rwa [Nat.add_assoc])
        have q2 : wr.cell? ⟨b9, off9 + k * 3 + 2, none⟩ = some (.slice A9 m9 d9) := (by have := hcell9 2 _ rfl; rwa [Nat.add_assoc])
        have p0 : wr.cell? ⟨b8, off8 + k * 3, none⟩ = some (.int .u64 (f.term : Int)) := hcell8 0 _ rfl
        have p1 : wr.cell? ⟨b8, off8 + k * 3 + 1, none⟩ = some (.int .u64 (f.idx : Int)) := (by have := hcell8 1 _ rfl; rwa [Nat.add_assoc])
        have p2 : wr.cell? ⟨b8, off8 + k * 3 + 2, none⟩ = some (.slice A8 m8 d8) := (by have := hcell8 2 _ rfl; rwa [Nat.add_assoc])
        clear hcell9 hcell8 hr9 hr8 h91 h92 h81 h82 hf9 hf8 hm9 hm8 hv9 hv8 he hf hq HA
        have hlt8 : b8 < wr.heap.size := World.block_lt_of_cell? wr _ p0
        go_upto_region 6 with fail
        refine name_world (fun w1 => Blk w1 wr.heap.size 50 #[.int .u64 (e.term : Int), .int .u64 (e.idx : Int), .slice A9 m9 d9] ∧ w1.heap.size = wr.heap.size + 1 ∧ Below wr.heap.size wr w1) ⟨Blk.new _ _ _, by simp, (Below.refl _ _).alloc (Nat.le_refl _) _⟩ ?_
        rintro w0 ⟨k0, hz0, hB0⟩
        have r0 : w0.cell? ⟨b8, off8 + k * 3, none⟩ = some (.int .u64 (f.term : Int)) := (hB0.cell (p := ⟨b8, off8 + k * 3, none⟩) hlt8).trans p0
        have r1 : w0.cell? ⟨b8, off8 + k * 3 + 1, none⟩ = some (.int .u64 (f.idx : Int)) := (hB0.cell (p := ⟨b8, off8 + k * 3 + 1, none⟩) hlt8).trans p1
        have r2 : w0.cell? ⟨b8, off8 + k * 3 + 2, none⟩ = some (.slice A8 m8 d8) := (hB0.cell (p := ⟨b8, off8 + k * 3 + 2, none⟩) hlt8).trans p2
        clear q0 q1 q2 p0 p1 p2
        go_upto_region 7 with fail
        try rw [hz0]
        refine name_world (fun w1 => Blk w1 wr.heap.size 50 #[.int .u64 (e.term : Int), .int .u64 (e.idx : Int), .slice A9 m9 d9] ∧ Blk w1 (wr.heap.size + 1) 50 #[.int .u64 (f.term : Int), .int .u64 (f.idx : Int), .slice A8 m8 d8] ∧ Below wr.heap.size wr w1) ⟨k0.alloc _, Blk.new_ hz0.symm, hB0.alloc (by omega) _⟩ ?_
        rintro w1 ⟨k1, k2, hB1⟩
        have x0 : w1.cell? ⟨wr.heap.size, 0, none⟩ = some (.int .u64 (e.term : Int)) := k1.cell 0
        have x1 : w1.cell? ⟨wr.heap.size, 1, none⟩ = some (.int .u64 (e.idx : Int)) := k1.cell 1
        have x2 : w1.cell? ⟨wr.heap.size, 2, none⟩ = some (.slice A9 m9 d9) := k1.cell 2
        have y0 : w1.cell? ⟨wr.heap.size + 1, 0, none⟩ = some (.int .u64 (f.term : Int)) := k2.cell 0
        have y1 : w1.cell? ⟨wr.heap.size + 1, 1, none⟩ = some (.int .u64 (f.idx : Int)) := k2.cell 1
        have y2 : w1.cell? ⟨wr.heap.size + 1, 2, none⟩ = some (.slice A8 m8 d8) := k2.cell 2
        clear k1 k2 k0 hz0 hB0 r0 r1 r2
        go_wp2_with fail
        refine (HC.out w1 hB1).mono ?_
        rintro x w3 ⟨rfl, hb3⟩
        have hbz := hb.trans ((hB1.trans (hb3.mono hB1.size)).mono hb.size)
        cases q
        · have HF := Lib.hid (show sameE vs us = false by rw [HD.out]; rfl)
          clear HD HC x0 x1 x2 y0 y1 y2
          go_wp2
          go_ret
          exact ⟨by rw [HF.out]; rfl, hbz⟩
        · have HF := Lib.hid (show sameE vs us = sameE (vs.drop (k + 1)) (us.drop (k + 1)) by rw [HD.out]; rfl)
          clear HD HC x0 x1 x2 y0 y1 y2
          go_wp2
          go_roundw
          case rel => exact ⟨k + 1, by omega, by go_num, hbz, HF⟩
          case measure => simp [intOf]; omega
      · obtain rfl : k = n := by omega
        have HF := Lib.hid (show sameE vs us = true by rw [HA.out, List.drop_of_length_le (by rw [← HN.out]; omega), List.drop_of_length_le (by rw [← HN2.out]; omega)]; rfl)
        clear HA
        go_wp2
        go_ret
        exact ⟨by rw [HF.out]; rfl, hb⟩
  · have ht : ((n : Int) != n2) = true := by rw [bne_iff_ne]; omega
    have HF := Lib.hid (show sameE vs us = false by
      cases h : sameE vs us
      · rfl
      · exfalso
        have := (sameE_iff vs us).1 h
        rw [HN.out, HN2.out, this] at hne
        exact hne rfl)
    go_enter Tryz.func68, Tryz.ntmps68
    go_wp2
    go_ret
    exact ⟨by rw [HF.out]; rfl, Below.refl _ _⟩
set_option maxRecDepth 100000 in
set_option maxHeartbeats 1600000 in
theorem log_any {ok ok2 : Nat → Prop} {w : World} {vsd ves usd ues : Value} {a b : VLog} (h1 : VLm ok w vsd ves a) (h2 : VLm ok2 w usd ues b) :
    Calls Tryz.prog 13 #[.agg (vlCs a vsd ves), .agg (vlCs b usd ues)] w fun e w' => e = .returned (.bool (sameV a b)) ∧ Below w.heap.size w w' := by
  have HBY := Lib.hid (fun (w' : World) (hb : Below w.heap.size w w') => bytes_rbL vsd usd a.sd b.sd w' (h1.sd.below hb) (h2.sd.below hb))
  have HEN := Lib.hid (fun (w' : World) (hb : Below w.heap.size w w') => sameEnts_any ves ues a.es b.es w' (h1.es.below hb) (h2.es.below hb))
  obtain ⟨As, cs, rfl, _, _⟩ := h1.sd.form
  obtain ⟨Ae, ce, rfl, _, _⟩ := h1.es.form
  obtain ⟨Bs, ds, rfl, _, _⟩ := h2.sd.form
  obtain ⟨Be, de, rfl, _, _⟩ := h2.es.form
  obtain ⟨ns, hns⟩ : ∃ n, n = a.sd.length := ⟨_, rfl⟩
  obtain ⟨ne, hne⟩ : ∃ n, n = a.es.length := ⟨_, rfl⟩
  obtain ⟨ms, hms⟩ : ∃ n, n = b.sd.length := ⟨_, rfl⟩
  obtain ⟨me, hme⟩ : ∃ n, n = b.es.length := ⟨_, rfl⟩
  rw [← hns, ← hms] at HBY
  rw [← hne, ← hme] at HEN
  rw [← hns, ← hms, ← hne, ← hme]
  obtain ⟨q1, hq1⟩ : ∃ x : Bool, x = decide (a.sd = b.sd) := ⟨_, rfl⟩
  obtain ⟨q2, hq2⟩ : ∃ x : Bool, x = sameE a.es b.es := ⟨_, rfl⟩
  rw [← hq1] at HBY
  rw [← hq2] at HEN
  have HV := Lib.hid (show sameV a b = (decide (a.term = b.term) && (decide (a.vote = b.vote) && (decide (a.si = b.si) && (decide (a.st = b.st) && (q1 && q2))))) by rw [hq1, hq2]; rfl)
  clear h1 h2 hns hms hne hme hq1 hq2
  unfold vlCs
  go_enter Tryz.func13, Tryz.ntmps13
  go_upto_region 1 with fail
  refine name_world (fun w1 => Blk w1 w.heap.size 30 #[.int .u64 (a.term : Int), .int .i64 a.vote, .int .u64 (a.si : Int), .int .u64 (a.st : Int), .slice As ns cs, .slice Ae ne ce] ∧ Blk w1 (w.heap.size + 1) 30 #[.int .u64 (b.term : Int), .int .i64 b.vote, .int .u64 (b.si : Int), .int .u64 (b.st : Int), .slice Bs ms ds, .slice Be me de] ∧ Below w.heap.size w w1) ⟨(Blk.new _ _ _).alloc _, Blk.new_ (by simp), ((Below.refl _ _).alloc (Nat.le_refl _) _).alloc (by simp) _⟩ ?_
  rintro w1 ⟨k1, k2, hB1⟩
  obtain ⟨g, hg⟩ : ∃ g, g = w.heap.size := ⟨_, rfl⟩
  rw [← hg] at k1 k2 ⊢
  have HG := Lib.hid hg
  clear hg
  have hg1 : g < w1.heap.size := k1.lt
  have hg2 : g + 1 < w1.heap.size := k2.lt
  have p0 : w1.cell? ⟨g, 0, none⟩ = some (.int .u64 (a.term : Int)) := k1.cell 0
  have p1 : w1.cell? ⟨g, 1, none⟩ = some (.int .i64 a.vote) := k1.cell 1
  have p2 : w1.cell? ⟨g, 2, none⟩ = some (.int .u64 (a.si : Int)) := k1.cell 2
  have p3 : w1.cell? ⟨g, 3, none⟩ = some (.int .u64 (a.st : Int)) := k1.cell 3
  have p4 : w1.cell? ⟨g, 4, none⟩ = some (.slice As ns cs) := k1.cell 4
  have r0 : w1.cell? ⟨g + 1, 0, none⟩ = some (.int .u64 (b.term : Int)) := k2.cell 0
  have r1 : w1.cell? ⟨g + 1, 1, none⟩ = some (.int .i64 b.vote) := k2.cell 1
  have r2 : w1.cell? ⟨g + 1, 2, none⟩ = some (.int .u64 (b.si : Int)) := k2.cell 2
  have r3 : w1.cell? ⟨g + 1, 3, none⟩ = some (.int .u64 (b.st : Int)) := k2.cell 3
  have r4 : w1.cell? ⟨g + 1, 4, none⟩ = some (.slice Bs ms ds) := k2.cell 4
  have HK1 := Lib.hid k1
  have HK2 := Lib.hid k2
  clear k1 k2
  by_cases h1 : a.term = b.term
  · have z1 : ((a.term : Int) == (b.term : Int)) = true := by rw [beq_iff_eq]; omega
    by_cases h2 : a.vote = b.vote
    · have z2 : (a.vote == b.vote) = true := by rw [beq_iff_eq]; exact h2
      by_cases h3 : a.si = b.si
      · have z3 : ((a.si : Int) == (b.si : Int)) = true := by rw [beq_iff_eq]; omega
        by_cases h4 : a.st = b.st
        · have z4 : ((a.st : Int) == (b.st : Int)) = true := by rw [beq_iff_eq]; omega
          have HR := Lib.hid (show sameV a b = (q1 && q2) by rw [HV.out, decide_eq_true h1, decide_eq_true h2, decide_eq_true h3, decide_eq_true h4]; rfl)
          have HC := Lib.hid (HBY.out w1 hB1)
          clear HV h1 h2 h3 h4 HBY
          go_wp2_with fail
          refine HC.out.mono ?_
          rintro x w2 ⟨rfl, rfl⟩
          cases q1
          · clear HC
            go_wp2
            go_ret
            exact ⟨by rw [HR.out]; rfl, hB1⟩
          · have p5 : w1.cell? ⟨g, 5, none⟩ = some (.slice Ae ne ce) := HK1.out.cell 5
            have r5 : w1.cell? ⟨g + 1, 5, none⟩ = some (.slice Be me de) := HK2.out.cell 5
            have HC2 := Lib.hid (HEN.out w1 hB1)
            clear HC
            go_wp2_with fail
            refine HC2.out.mono ?_
            rintro x w2 ⟨rfl, hB2⟩
            go_wp2
            go_ret
            exact ⟨by rw [HR.out]; rfl, hB1.trans (hB2.mono hB1.size)⟩
        · have z4 : ((a.st : Int) == (b.st : Int)) = false := by rw [beq_eq_false_iff_ne]; omega
          have HR := Lib.hid (show sameV a b = false by rw [HV.out, decide_eq_false h4]; simp)
          clear HV h1 h2 h3 h4 HBY HEN
          go_wp2
          go_ret
          exact ⟨by rw [HR.out]; rfl, hB1⟩
      · have z3 : ((a.si : Int) == (b.si : Int)) = false := by rw [beq_eq_false_iff_ne]; omega
        have HR := Lib.hid (show sameV a b = false by rw [HV.out, decide_eq_false h3]; simp)
        clear HV h1 h2 h3 HBY HEN
        go_wp2
        go_ret
        exact ⟨by rw [HR.out]; rfl, hB1⟩
    · have z2 : (a.vote == b.vote) = false := by rw [beq_eq_false_iff_ne]; exact h2
      have HR := Lib.hid (show sameV a b = false by rw [HV.out, decide_eq_false h2]; simp)
      clear HV h1 h2 HBY HEN
      go_wp2
      go_ret
      exact ⟨by rw [HR.out]; rfl, hB1⟩
  · have z1 : ((a.term : Int) == (b.term : Int)) = false := by rw [beq_eq_false_iff_ne]; omega
    have HR := Lib.hid (show sameV a b = false by rw [HV.out, decide_eq_false h1]; rfl)
    clear HV h1 HBY HEN
    go_wp2
    go_ret
    exact ⟨by rw [HR.out]; rfl, hB1⟩
set_option maxRecDepth 100000 in
set_option maxHeartbeats 1600000 in
theorem vsame_any {ok ok2 : Nat → Prop} {w : World} {vsd ves usd ues : Value} {a b : VLog} (h1 : VLm ok w vsd ves a) (h2 : VLm ok2 w usd ues b) :
    Calls Tryz.prog 39 #[.agg (vlCs a vsd ves), .agg (vlCs b usd ues)] w fun e w' => e = .returned (.bool (sameV a b)) ∧ Below w.heap.size w w' := by
  have HBY := Lib.hid (fun (w' : World) (hb : Below w.heap.size w w') => equal_rbL vsd usd a.sd b.sd w' (h1.sd.below hb) (h2.sd.below hb))
  have HEN := Lib.hid (fun (w' : World) (hb : Below w.heap.size w w') => equalEnts_any ves ues a.es b.es w' (h1.es.below hb) (h2.es.below hb))
  obtain ⟨As, cs, rfl, _, _⟩ := h1.sd.form
  obtain ⟨Ae, ce, rfl, _, _⟩ := h1.es.form
  obtain ⟨Bs, ds, rfl, _, _⟩ := h2.sd.form
  obtain ⟨Be, de, rfl, _, _⟩ := h2.es.form
  obtain ⟨ns, hns⟩ : ∃ n, n = a.sd.length := ⟨_, rfl⟩
  obtain ⟨ne, hne⟩ : ∃ n, n = a.es.length := ⟨_, rfl⟩
  obtain ⟨ms, hms⟩ : ∃ n, n = b.sd.length := ⟨_, rfl⟩
  obtain ⟨me, hme⟩ : ∃ n, n = b.es.length := ⟨_, rfl⟩
  rw [← hns, ← hms] at HBY
  rw [← hne, ← hme] at HEN
  rw [← hns, ← hms, ← hne, ← hme]
  obtain ⟨q1, hq1⟩ : ∃ x : Bool, x = decide (a.sd = b.sd) := ⟨_, rfl⟩
  obtain ⟨q2, hq2⟩ : ∃ x : Bool, x = sameE a.es b.es := ⟨_, rfl⟩
  rw [← hq1] at HBY
  rw [← hq2] at HEN
  have HV := Lib.hid (show sameV a b = (decide (a.term = b.term) && (decide (a.vote = b.vote) && (decide (a.si = b.si) && (decide (a.st = b.st) && (q1 && q2))))) by rw [hq1, hq2]; rfl)
  clear h1 h2 hns hms hne hme hq1 hq2
  unfold vlCs
  go_enter Tryz.func39, Tryz.ntmps39
  go_upto_region 1 with fail
  refine name_world (fun w1 => Blk w1 w.heap.size 30 #[.int .u64 (a.term : Int), .int .i64 a.vote, .int .u64 (a.si : Int), .int .u64 (a.st : Int), .slice As ns cs, .slice Ae ne ce] ∧ Blk w1 (w.heap.size + 1) 30 #[.int .u64 (b.term : Int), .int .i64 b.vote, .int .u64 (b.si : Int), .int .u64 (b.st : Int), .slice Bs ms ds, .slice Be me de] ∧ Below w.heap.size w w1) ⟨(Blk.new _ _ _).alloc _, Blk.new_ (by simp), ((Below.refl _ _).alloc (Nat.le_refl _) _).alloc (by simp) _⟩ ?_
  rintro w1 ⟨k1, k2, hB1⟩
  obtain ⟨g, hg⟩ : ∃ g, g = w.heap.size := ⟨_, rfl⟩
  rw [← hg] at k1 k2 ⊢
  have HG := Lib.hid hg
  clear hg
  have hg1 : g < w1.heap.size := k1.lt
  have hg2 : g + 1 < w1.heap.size := k2.lt
  have p0 : w1.cell? ⟨g, 0, none⟩ = some (.int .u64 (a.term : Int)) := k1.cell 0
  have p1 : w1.cell? ⟨g, 1, none⟩ = some (.int .i64 a.vote) := k1.cell 1
  have p2 : w1.cell? ⟨g, 2, none⟩ = some (.int .u64 (a.si : Int)) := k1.cell 2
  have p3 : w1.cell? ⟨g, 3, none⟩ = some (.int .u64 (a.st : Int)) := k1.cell 3
  have p4 : w1.cell? ⟨g, 4, none⟩ = some (.slice As ns cs) := k1.cell 4
  have r0 : w1.cell? ⟨g + 1, 0, none⟩ = some (.int .u64 (b.term : Int)) := k2.cell 0
  have r1 : w1.cell? ⟨g + 1, 1, none⟩ = some (.int .i64 b.vote) := k2.cell 1
  have r2 : w1.cell? ⟨g + 1, 2, none⟩ = some (.int .u64 (b.si : Int)) := k2.cell 2
  have r3 : w1.cell? ⟨g + 1, 3, none⟩ = some (.int .u64 (b.st : Int)) := k2.cell 3
  have r4 : w1.cell? ⟨g + 1, 4, none⟩ = some (.slice Bs ms ds) := k2.cell 4
  have HK1 := Lib.hid k1
  have HK2 := Lib.hid k2
  clear k1 k2
  by_cases h1 : a.term = b.term
  · have z1 : ((a.term : Int) == (b.term : Int)) = true := by rw [beq_iff_eq]; omega
    by_cases h2 : a.vote = b.vote
    · have z2 : (a.vote == b.vote) = true := by rw [beq_iff_eq]; exact h2
      by_cases h3 : a.si = b.si
      · have z3 : ((a.si : Int) == (b.si : Int)) = true := by rw [beq_iff_eq]; omega
        by_cases h4 : a.st = b.st
        · have z4 : ((a.st : Int) == (b.st : Int)) = true := by rw [beq_iff_eq]; omega
          have HR := Lib.hid (show sameV a b = (q1 && q2) by rw [HV.out, decide_eq_true h1, decide_eq_true h2, decide_eq_true h3, decide_eq_true h4]; rfl)
          have HC := Lib.hid (HBY.out w1 hB1)
          clear HV h1 h2 h3 h4 HBY
          go_wp2_with fail
          refine HC.out.mono ?_
          rintro x w2 ⟨rfl, rfl⟩
          cases q1
          · clear HC
            go_wp2
            go_ret
            exact ⟨by rw [HR.out]; rfl, hB1⟩
          · have p5 : w1.cell? ⟨g, 5, none⟩ = some (.slice Ae ne ce) := HK1.out.cell 5
            have r5 : w1.cell? ⟨g + 1, 5, none⟩ = some (.slice Be me de) := HK2.out.cell 5
            have HC2 := Lib.hid (HEN.out w1 hB1)
            clear HC
            go_wp2_with fail
            refine HC2.out.mono ?_
            rintro x w2 ⟨rfl, hB2⟩
            go_wp2
            go_ret
            exact ⟨by rw [HR.out]; rfl, hB1.trans (hB2.mono hB1.size)⟩
        · have z4 : ((a.st : Int) == (b.st : Int)) = false := by rw [beq_eq_false_iff_ne]; omega
          have HR := Lib.hid (show sameV a b = false by rw [HV.out, decide_eq_false h4]; simp)
          clear HV h1 h2 h3 h4 HBY HEN
          go_wp2
          go_ret
          exact ⟨by rw [HR.out]; rfl, hB1⟩
      · have z3 : ((a.si : Int) == (b.si : Int)) = false := by rw [beq_eq_false_iff_ne]; omega
        have HR := Lib.hid (show sameV a b = false by rw [HV.out, decide_eq_false h3]; simp)
        clear HV h1 h2 h3 HBY HEN
        go_wp2
        go_ret
        exact ⟨by rw [HR.out]; rfl, hB1⟩
    · have z2 : (a.vote == b.vote) = false := by rw [beq_eq_false_iff_ne]; exact h2
      have HR := Lib.hid (show sameV a b = false by rw [HV.out, decide_eq_false h2]; simp)
      clear HV h1 h2 HBY HEN
      go_wp2
      go_ret
      exact ⟨by rw [HR.out]; rfl, hB1⟩
  · have z1 : ((a.term : Int) == (b.term : Int)) = false := by rw [beq_eq_false_iff_ne]; omega
    have HR := Lib.hid (show sameV a b = false by rw [HV.out, decide_eq_false h1]; rfl)
    clear HV h1 HBY HEN
    go_wp2
    go_ret
    exact ⟨by rw [HR.out]; rfl, hB1⟩
end Go.Proofs.YtnlhjhpikjmoaaaGreatDoor
namespace Go.Proofs.YtnlhjhpikjmoaaaGreatDoor
open Go.RowKit
theorem Tryz.infoLog : (Tryz.prog.info? 30).map (·.size) = some 6 := by kernel_rfl
theorem vl_all (l : VLog) (A : Option Addr) (n c : Nat) (A2 : Option Addr) (n2 c2 : Nat) : (vlCs l (.slice A n c) (.slice A2 n2 c2)).all (·.oneCell') = true := by simp [vlCs, Value.oneCell']
theorem Tryz.rowEnt : RowTy Tryz.prog 28 50 3 40 := rowTy_mk Tryz.underlying28 (by kernel_rfl)
set_option maxRecDepth 100000 in
set_option maxHeartbeats 3200000 in
theorem own_own {ok : Nat → Prop} {w : World} {vsd ves : Value} {l : VLog} (h : VLm ok w vsd ves l) (hn : l.es.length ≤ 1000000) :
    Calls Tryz.prog 46 #[.agg (vlCs l vsd ves)] w fun e w' => (∃ (B : Nat) (vsd' ves' : Value), e = .returned (.agg (vlCs l vsd' ves')) ∧ w.heap.size ≤ B ∧ RB (fun b => w.heap.size ≤ b ∧ b < B) w' vsd' l.sd ∧ OwnL rEnt (fun b => B ≤ b) B 50 w' ves' l.es ∧ VLm (fun b => w.heap.size ≤ b) w' vsd' ves' l) ∧ Below w.heap.size w w' := by
  have h := h.mono (ok' := fun b => b < w.heap.size) fun b _ hb => hb
  obtain ⟨As, cs, rfl, _, _⟩ := h.sd.form
  obtain ⟨Ae, ce, rfl, hce, _⟩ := h.es.form
  obtain ⟨m, hm⟩ : ∃ m, m = l.es.length := ⟨_, rfl⟩
  obtain ⟨ms, hms⟩ : ∃ ms, ms = l.sd.length := ⟨_, rfl⟩
  have HH0 := Lib.hid (show l.term < 18446744073709551616 ∧ I64 l.vote ∧ l.si < 18446744073709551616 ∧ l.st < 18446744073709551616 from ⟨h.term, h.vote, h.si, h.st⟩)
  have HH := Lib.hid h
  rw [← hm, ← hms] at HH ⊢
  rw [← hm] at hce hn
  have HM := Lib.hid hm
  have HMS := Lib.hid hms
  clear h hm hms
  unfold vlCs
  go_enter Tryz.func46, Tryz.ntmps46
  go_upto_region 1 with fail
  obtain ⟨g, hg⟩ : ∃ g, g = w.heap.size := ⟨_, rfl⟩
  refine name_world (fun w1 => Blk w1 g 30 #[.int .u64 (l.term : Int), .int .i64 l.vote, .int .u64 (l.si : Int), .int .u64 (l.st : Int), .slice As ms cs, .slice Ae m ce] ∧ Blk w1 (g + 1) 30 #[.int .u64 0, .int .i64 0, .int .u64 0, .int .u64 0, .slice none 0 0, .slice none 0 0] ∧ Below g w w1 ∧ w1.heap.size = g + 2) ⟨by rw [hg]; exact (Blk.new _ _ _).alloc _, by rw [hg]; exact Blk.new_ (by simp), by rw [hg]; exact ((Below.refl _ _).alloc (Nat.le_refl _) _).alloc (by simp) _, by rw [hg]; simp⟩ ?_
  rintro w1 ⟨k1, k2, hB1, hz1⟩
  have hH1 := HH.out.below (hg ▸ hB1)
  have hgw := hg
  rw [← hg]
  have HG := Lib.hid hg
  clear hg
  have p4 : w1.cell? ⟨g, 4, none⟩ = some (.slice As ms cs) := k1.cell 4
  have HCL := Lib.hid (clone_rb _ _ w1 hH1.sd)
  have HH1 := Lib.hid hH1
  have HK1 := Lib.hid k1
  have HK2 := Lib.hid k2
  clear k1 k2 hH1 HH hgw
  go_wp2_with fail
  refine HCL.out.mono ?_
  rintro e w2 ⟨⟨v2, rfl, hv2⟩, hB2⟩
  obtain ⟨A2, c2, rfl, hf2⟩ := hv2.form
  rw [← HMS.out] at hv2 hf2 ⊢
  have k1 := HK1.out.below hB2 (by omega)
  have k2 := HK2.out.below hB2 (by omega)
  have p4 : w2.cell? ⟨g, 4, none⟩ = some (.slice As ms cs) := k1.cell 4
  have f4 : w2.frozen? ⟨g, 4, none⟩ = false := k1.frozen 4
  have HB2 := Lib.hid hB2
  have HV2 := Lib.hid hv2
  have HK3 := Lib.hid k1
  have HK4 := Lib.hid k2
  clear k1 k2 HK1 HK2 HCL hv2
  go_upto_region 2 with fail
  have hz2 := HB2.out.size
  refine name_world (fun w3 => Blk w3 g 30 #[.int .u64 (l.term : Int), .int .i64 l.vote, .int .u64 (l.si : Int), .int .u64 (l.st : Int), .slice A2 ms c2, .slice Ae m ce] ∧ Blk w3 (g + 1) 30 #[.int .u64 0, .int .i64 0, .int .u64 0, .int .u64 0, .slice none 0 0, .slice none 0 0] ∧ Below g w w3 ∧ g + 2 ≤ w3.heap.size ∧ RB (fun b => g + 2 ≤ b) w3 (.slice A2 ms c2) l.sd ∧ RSl rEnt (fun b => b < g) w3 (.slice Ae m ce) l.es) ⟨HK3.out.set_ 4 _, HK4.out.far (p := ⟨g, 4, none⟩) (by show g + 1 ≠ g; omega) _, (hB1.trans (HB2.out.mono (by omega))).setCell (Nat.le_refl _) _, by simp; omega, ?_, ?_⟩ ?_
  · refine RSl.kp (ok := fun b => g + 2 ≤ b) ((Kp.refl _ _).setCell (fun _ h => by have : g + 2 ≤ g := h; omega) _) ?_
    exact HV2.out.mono (by decide) fun b hb _ => by omega
  · refine RSl.kp (ok := fun b => b < g) ((Kp.refl _ _).setCell (fun _ h => by have : g < g := h; omega) _) ?_
    exact (HH1.out.es.below HB2.out).mono (by decide) fun b hb _ => by have := HG.out; omega
  rintro w3 ⟨k1, k2, hB3, hz3, hv3, hes3⟩
  obtain ⟨z3, hz3e⟩ : ∃ z3, z3 = w3.heap.size := ⟨_, rfl⟩
  rw [← hz3e] at hz3
  have HZ3 := Lib.hid hz3e
  clear hz3e
  have HK1 := Lib.hid k1
  have HK2 := Lib.hid k2
  have HV3 := Lib.hid hv3
  have HES := Lib.hid hes3
  have q5 : w3.cell? ⟨g, 5, none⟩ = some (.slice Ae m ce) := k1.cell 5
  clear k1 k2 hv3 hes3 HK3 HK4 HV2 HB2 HH1 hz2 p4 f4 hf2
  go_upto_region 4 with fail
  clear q5
  go_loopw [3, 15] (fun vo vi wr => ∃ (i co : Nat) (Ao : Option Addr), i ≤ m ∧ vi = .int .i64 (i : Int) ∧ vo = .slice Ao i co ∧ Hid (OwnL rEnt (fun b => z3 ≤ b) z3 50 wr (.slice Ao i co) (l.es.take i)) ∧ Below z3 w3 wr) (fun _ vi _ => m - (intOf vi).toNat)
  case atStart => exact ⟨0, 0, none, by omega, rfl, rfl, Lib.hid (OwnL.nil_ _ _ _ _ _), Below.refl _ _⟩
  case round =>
    obtain ⟨i, co, Ao, hi, rfl, rfl, HO, hb⟩ := hrel
    have hzr : z3 ≤ wr.heap.size := by have := hb.size; have := HZ3.out; omega
    by_cases hlt : i < m
    · have hil : i < l.es.length := by rw [← HM.out]; exact hlt
      have hesr : RSl rEnt (fun b => b < g) wr (.slice Ae m ce) l.es := RSl.kp (ok := fun b => b < g) ⟨hb.os, hb.tape, hb.output, hb.size, fun k h1 h2 => hb.block k (by omega)⟩ HES.out
      obtain ⟨b5, off5, c5, cs5, hv5, _, ⟨vd, rfl, hvd, ht64, hi64⟩, hcell5⟩ := hesr.at_ hil
      rw [← HM.out] at hv5
      obtain ⟨rfl, rfl⟩ : Ae = some ⟨b5, off5, none⟩ ∧ ce = c5 := by simpa using hv5
      obtain ⟨A6, c6, rfl, hf6⟩ := hvd.form
      obtain ⟨e, he⟩ : ∃ e, e = l.es[i] := ⟨_, rfl⟩
      rw [← he] at hcell5 ht64 hi64 hf6 hvd
      obtain ⟨dl, hdl⟩ : ∃ dl, dl = e.data.length := ⟨_, rfl⟩
      rw [← hdl] at hcell5 hvd
      have q0 : wr.cell? ⟨b5, off5 + i * 3, none⟩ = some (.int .u64 (e.term : Int)) := hcell5 0 _ rfl
      have q1 : wr.cell? ⟨b5, off5 + i * 3 + 1, none⟩ = some (.int .u64 (e.idx : Int)) := by have := hcell5 1 _ rfl; rwa [Nat.add_assoc]
      have q2 : wr.cell? ⟨b5, off5 + i * 3 + 2, none⟩ = some (.slice A6 dl c6) := by have := hcell5 2 _ rfl; rwa [Nat.add_assoc]
      have HVD := Lib.hid hvd
      have HE := Lib.hid he
      have HDL := Lib.hid hdl
      have HT := Lib.hid (show e.term < 18446744073709551616 ∧ e.idx < 18446744073709551616 from ⟨ht64, hi64⟩)
      clear hcell5 hv5 hvd he hdl ht64 hi64 hesr hf6
      go_upto_region 6 with fail
      obtain ⟨we, hwe⟩ : ∃ we, we = wr.heap.size := ⟨_, rfl⟩
      refine name_world (fun w4 => Blk w4 we 50 #[.int .u64 (e.term : Int), .int .u64 (e.idx : Int), .slice A6 dl c6] ∧ Below wr.heap.size wr w4) ⟨by rw [hwe]; exact Blk.new _ _ _, (Below.refl _ _).alloc (Nat.le_refl _) _⟩ ?_
      rintro w4 ⟨k4, hB4⟩
      rw [← hwe]
      have r2 : w4.cell? ⟨we, 2, none⟩ = some (.slice A6 dl c6) := k4.cell 2
      have HCL := Lib.hid (clone_rb _ _ w4 (HVD.out.below hB4))
      have hlt4 := k4.lt
      have hWE := Lib.hid hwe
      have HK4 := Lib.hid k4
      clear q0 q1 q2 k4 hwe
      go_wp2_with fail
      refine HCL.out.mono ?_
      rintro x w5 ⟨⟨v5, rfl, hv5⟩, hB5⟩
      obtain ⟨A7, c7, rfl, hf7⟩ := hv5.form
      rw [← HDL.out] at hv5 ⊢
      have k5 := HK4.out.below hB5 hlt4
      have r2 : w5.cell? ⟨we, 2, none⟩ = some (.slice A6 dl c6) := k5.cell 2
      have f2 : w5.frozen? ⟨we, 2, none⟩ = false := k5.frozen 2
      have HV5 := Lib.hid hv5
      have HK5 := Lib.hid k5
      clear HCL HK4 k5 hv5 hf7
      have hkw : Kp (fun b => ¬ b = we) w5 (w5.setCell ⟨we, 2, none⟩ (.slice A7 dl c7)) := (Kp.refl _ _).setCell (fun _ h => h rfl) _
      go_upto_region 7 with fail
      have hz4 := hB4.size
      have hz5 := hB5.size
      have hOw : OwnL rEnt (fun b => z3 ≤ b ∧ b < wr.heap.size) z3 50 wr (.slice Ao i co) (l.es.take i) := HO.out.monoW fun b h1 h2 => ⟨h1, h2⟩
      have hOlt := HO.out.lt
      refine name_world (fun w6 => Blk w6 we 50 #[.int .u64 (e.term : Int), .int .u64 (e.idx : Int), .slice A7 dl c7] ∧ Below wr.heap.size wr w6 ∧ RB (fun b => z3 ≤ b ∧ we < b) w6 (.slice A7 dl c7) e.data ∧ OwnL rEnt (fun b => z3 ≤ b) z3 50 w6 (.slice Ao i co) (l.es.take i)) ⟨HK5.out.set_ 2 _, ?_, ?_, ?_⟩ ?_
      · exact (hB4.trans (hB5.mono hz4)).setCell (by have := hWE.out; show wr.heap.size ≤ we; omega) _
      · refine RSl.kp (ok := fun b => z3 ≤ b ∧ we < b) (hkw.mono fun b hb e => by have := hb.2; omega) ?_
        exact HV5.out.mono (by decide) fun b hb _ => ⟨by omega, by omega⟩
      · refine OwnL.monoW (((hOw.below hB4).below hB5).kp hkw (fun b hb e => by have := hb.2; have := hWE.out; omega) fun b hb e => by have := (hOlt b hb).2; have := hWE.out; omega) fun b hb _ => hb.1
      rintro w6 ⟨k6, hB6, hv6, ho6⟩
      have x0 : w6.cell? ⟨we, 0, none⟩ = some (.int .u64 (e.term : Int)) := k6.cell 0
      have x1 : w6.cell? ⟨we, 1, none⟩ = some (.int .u64 (e.idx : Int)) := k6.cell 1
      have x2 : w6.cell? ⟨we, 2, none⟩ = some (.slice A7 dl c7) := k6.cell 2
      have hz6 := hB6.size
      have hn1 : (l.es.take i).length = i := by rw [List.length_take]; omega
      have hbo : rEnt.rel (fun b => z3 ≤ b ∧ some b ≠ (Value.slice Ao i co).ownBlock) w6 [.int .u64 (e.term : Int), .int .u64 (e.idx : Int), .slice A7 dl c7] e := ⟨_, rfl, hv6.mono (by decide) fun b hb _ => ⟨hb.1, fun h => by have := (hOlt b h.symm).2; have := hWE.out; have := hb.2; omega⟩, HT.out.1, HT.out.2⟩
      clear k6 hv6 hkw hOw r2 f2 HV5 HK5
      go_wp2_with (at_builtin; go_loud (refine wp_app1 (E := rEnt) (okd := fun b => z3 ≤ b) Tryz.rowEnt (by decide) rfl _ _ rfl (.slice Ao i co) (l.es.take i) w6 #[.int .u64 (e.term : Int), .int .u64 (e.idx : Int), .slice A7 dl c7] e rfl ho6 rfl hbo (by rw [hn1]; show (i + 1) * 40 ≤ _; omega) (by rw [hn1]; omega) (by omega) ?_); intro v' w7 ho7 hk7 hloc7)
      obtain ⟨A9, c9, rfl, hc9⟩ := ho7.form
      have hl9 : (l.es.take i ++ [e]).length = i + 1 := by rw [List.length_append, hn1]; rfl
      rw [hl9] at ho7 ⊢
      have hB7 : Below z3 w6 w7 := hk7.below (by omega) fun b hb h => by have := (hOlt b h.symm).1; omega
      have HO7 := Lib.hid (show OwnL rEnt (fun b => z3 ≤ b) z3 50 w7 (.slice A9 (i + 1) c9) (l.es.take (i + 1)) by
        rw [List.take_succ_eq_append_getElem hil, ← HE.out]
        exact ho7)
      go_roundw
      case rel => exact ⟨i + 1, c9, A9, by omega, by go_num, rfl, HO7, (hb.trans (hB6.mono (by omega))).trans hB7⟩
      case measure => simp [intOf]; omega
    · obtain rfl : i = m := by omega
      have k1 := HK1.out.below hb (by omega)
      have k2 := HK2.out.below hb (by omega)
      have d0 : wr.cell? ⟨g, 0, none⟩ = some (.int .u64 (l.term : Int)) := k1.cell 0
      have d1 : wr.cell? ⟨g, 1, none⟩ = some (.int .i64 l.vote) := k1.cell 1
      have d2 : wr.cell? ⟨g, 2, none⟩ = some (.int .u64 (l.si : Int)) := k1.cell 2
      have d3 : wr.cell? ⟨g, 3, none⟩ = some (.int .u64 (l.st : Int)) := k1.cell 3
      have d4 : wr.cell? ⟨g, 4, none⟩ = some (.slice A2 ms c2) := k1.cell 4
      have d5 : wr.cell? ⟨g, 5, none⟩ = some (.slice Ae i ce) := k1.cell 5
      have f5 : wr.frozen? ⟨g, 5, none⟩ = false := k1.frozen 5
      have HKr := Lib.hid k1
      have HK2r := Lib.hid k2
      go_upto_region 10 with fail
      refine name_world (fun w4 => Blk w4 g 30 #[.int .u64 (l.term : Int), .int .i64 l.vote, .int .u64 (l.si : Int), .int .u64 (l.st : Int), .slice A2 ms c2, .slice Ao i co] ∧ w4 = wr.setCell ⟨g, 5, none⟩ (.slice Ao i co)) ⟨HKr.out.set_ 5 _, rfl⟩ ?_
      rintro w4 ⟨k4, he4⟩
      clear d0 d1 d2 d3 d4 d5 f5 k1 k2
      have d0 : w4.cell? ⟨g, 0, none⟩ = some (.int .u64 (l.term : Int)) := k4.cell 0
      have d1 : w4.cell? ⟨g, 1, none⟩ = some (.int .i64 l.vote) := k4.cell 1
      have d2 : w4.cell? ⟨g, 2, none⟩ = some (.int .u64 (l.si : Int)) := k4.cell 2
      have d3 : w4.cell? ⟨g, 3, none⟩ = some (.int .u64 (l.st : Int)) := k4.cell 3
      have d4 : w4.cell? ⟨g, 4, none⟩ = some (.slice A2 ms c2) := k4.cell 4
      have d5 : w4.cell? ⟨g, 5, none⟩ = some (.slice Ao i co) := k4.cell 5
      have HE4 := Lib.hid he4
      have HK4 := Lib.hid k4
      have k24 : Blk w4 (g + 1) 30 #[.int .u64 0, .int .i64 0, .int .u64 0, .int .u64 0, .slice none 0 0, .slice none 0 0] := by
        rw [HE4.out]
        exact HK2r.out.far (p := ⟨g, 5, none⟩) (by show g + 1 ≠ g; omega) _
      clear he4 k4 d0 d1 d2 d3 d4 d5
      refine wp_region_split 1 ?_
      simp only [List.take_succ_cons, List.take_zero, List.drop_succ_cons, List.drop_zero]
      refine wpList_ld (g := g) (k := 0) (cs := vlCs l (.slice A2 ms c2) (.slice Ao i co)) rfl rfl rfl HK4.out.range Tryz.underlying30 rfl Tryz.infoLog ?_
      go_wp2
      show wpList _ _ _ _ _ _
      refine wpList_st rfl rfl (vlCs l (.slice A2 ms c2) (.slice Ao i co)) rfl rfl k24 rfl Tryz.infoLog (vl_all _ _ _ _ _ _ _) ?_ rfl
      intro k9
      have hK9 : Kp (fun b => ¬ b = g + 1) w4 (World.setCells w4 (g + 1) 0 (vlCs l (.slice A2 ms c2) (.slice Ao i co)).toList) := Kp.setCells (b := g + 1) (fun _ h => h rfl) _ 0 (Kp.refl _ _)
      generalize hwz : World.setCells w4 (g + 1) 0 (vlCs l (.slice A2 ms c2) (.slice Ao i co)).toList = wz at k9 hK9 ⊢
      clear hwz
      have lv := k9.loadVar (P := Tryz.prog) Tryz.underlying30 rfl Tryz.infoLog
      have HK9 := Lib.hid hK9
      clear hK9
      go_wp2
      have hKz : Kp (fun b => ¬ b = g ∧ ¬ b = g + 1) wr wz := by
        have h1 : Kp (fun b => ¬ b = g ∧ ¬ b = g + 1) wr w4 := by rw [HE4.out]; exact (Kp.refl _ _).setCell (fun _ h => h.1 rfl) _
        exact h1.trans (HK9.out.mono fun b hb => hb.2)
      have hBz : Below g w wz := (hB3.trans (hb.mono (by omega))).trans (hKz.below (by omega) fun b hb => ⟨by omega, by omega⟩)
      have hsd : RB (fun b => g + 2 ≤ b ∧ b < z3) wz (.slice A2 ms c2) l.sd := RSl.kp (hKz.mono fun b hb => ⟨by omega, by omega⟩) ((HV3.out.mono (by decide) (ok' := fun b => g + 2 ≤ b ∧ b < z3) fun b hb hlt => ⟨hb, by have := HZ3.out; omega⟩).kp (ok := fun b => g + 2 ≤ b ∧ b < z3) (.of_below (HZ3.out ▸ hb)))
      have how : OwnL rEnt (fun b => z3 ≤ b) z3 50 wz (.slice Ao i co) l.es := by
        have h1 := HO.out.kp (hKz.mono fun b (hb : z3 ≤ b) => ⟨by omega, by omega⟩) (fun b hb => hb) fun b hb => (HO.out.lt b hb).1
        rwa [List.take_of_length_le (by rw [← HM.out]; omega)] at h1
      have hos : RSl rEnt (fun b => g ≤ b) wz (.slice Ao i co) l.es :=
        how.rsl (by decide) (by rw [← HM.out]; show i * 40 ≤ _; omega) (fun b hb => by omega) fun b hb => by omega
      refine bodyPost_ret (v := .agg (vlCs l (.slice A2 ms c2) (.slice Ao i co))) ?_ rfl ⟨⟨z3, _, _, rfl, by have := HG.out; omega, hsd.mono (by decide) fun b hb _ => by have := HG.out; omega, how, ⟨hsd.mono (by decide) fun b hb _ => by have := HG.out; omega, hos.mono (by decide) fun b hb _ => by have := HG.out; omega, HH0.out.1, HH0.out.2.1, HH0.out.2.2.1, HH0.out.2.2.2⟩⟩, by rw [← HG.out]; exact hBz⟩
      simp [results, Tryz.results46, Act.put, Sem.run_bind, Sem.run_pure, asAddr_ok, lv]
theorem own_any {ok : Nat → Prop} {w : World} {vsd ves : Value} {l : VLog} (h : VLm ok w vsd ves l) (hn : l.es.length ≤ 1000000) :
    Calls Tryz.prog 46 #[.agg (vlCs l vsd ves)] w fun e w' => (∃ vsd' ves', e = .returned (.agg (vlCs l vsd' ves')) ∧ VLm (fun b => w.heap.size ≤ b) w' vsd' ves' l) ∧ Below w.heap.size w w' := by
  refine (own_own h hn).mono ?_
  rintro e w' ⟨⟨B, v1, v2, rfl, _, _, _, h4⟩, hb⟩
  exact ⟨⟨v1, v2, rfl, h4⟩, hb⟩
end Go.Proofs.YtnlhjhpikjmoaaaGreatDoor
namespace Go.Proofs.YtnlhjhpikjmoaaaGreatDoor
open Go.RowKit
set_option maxRecDepth 100000 in
set_option maxHeartbeats 3200000 in
theorem copyLog_own {ok : Nat → Prop} {w : World} {vsd ves : Value} {l : VLog} (h : VLm ok w vsd ves l) (hn : l.es.length ≤ 1000000) :
    Calls Tryz.prog 10 #[.agg (vlCs l vsd ves)] w fun e w' => (∃ vsd' ves', e = .returned (.agg (vlCs l vsd' ves')) ∧ RB (fun b => w.heap.size ≤ b ∧ some b ≠ ves'.ownBlock) w' vsd' l.sd ∧ OwnL rEnt (fun b => w.heap.size ≤ b) w.heap.size 50 w' ves' l.es) ∧ Below w.heap.size w w' := by
  have h := h.mono (ok' := fun b => b < w.heap.size) fun b _ hb => hb
  obtain ⟨As, cs, rfl, _, _⟩ := h.sd.form
  obtain ⟨Ae, ce, rfl, hce, _⟩ := h.es.form
  obtain ⟨m, hm⟩ : ∃ m, m = l.es.length := ⟨_, rfl⟩
  obtain ⟨ms, hms⟩ : ∃ ms, ms = l.sd.length := ⟨_, rfl⟩
  have HH0 := Lib.hid (show l.term < 18446744073709551616 ∧ I64 l.vote ∧ l.si < 18446744073709551616 ∧ l.st < 18446744073709551616 from ⟨h.term, h.vote, h.si, h.st⟩)
  have HH := Lib.hid h
  rw [← hm, ← hms] at HH ⊢
  rw [← hm] at hce hn
  have HM := Lib.hid hm
  have HMS := Lib.hid hms
  clear h hm hms
  unfold vlCs
  go_enter Tryz.func10, Tryz.ntmps10
  go_upto_region 3 with fail
  obtain ⟨g, hg⟩ : ∃ g, g = w.heap.size := ⟨_, rfl⟩
  refine name_world (fun w1 => Blk w1 g 30 #[.int .u64 (l.term : Int), .int .i64 l.vote, .int .u64 (l.si : Int), .int .u64 (l.st : Int), .slice As ms cs, .slice Ae m ce] ∧ Blk w1 (g + 1) 30 #[.int .u64 0, .int .i64 0, .int .u64 0, .int .u64 0, .slice none 0 0, .slice none 0 0] ∧ Below g w w1 ∧ w1.heap.size = g + 2) ⟨by rw [hg]; exact (Blk.new _ _ _).alloc _, by rw [hg]; exact Blk.new_ (by simp), by rw [hg]; exact ((Below.refl _ _).alloc (Nat.le_refl _) _).alloc (by simp) _, by rw [hg]; simp⟩ ?_
  rintro w1 ⟨k1, k2, hB1, hz1⟩
  have hH1 := (HH.out.below (hg ▸ hB1)).mono (ok' := fun b => b < g) fun b hb _ => by omega
  rw [← hg]
  have HG := Lib.hid hg
  have HH1 := Lib.hid hH1
  have HK1 := Lib.hid k1
  have HK2 := Lib.hid k2
  have HZ1 := Lib.hid hz1
  clear k1 k2 hH1 HH hg hz1
  go_loopw [3, 4] (fun vo vi wr => ∃ (i co : Nat) (Ao : Option Addr), i ≤ m ∧ vi = .int .i64 (i : Int) ∧ vo = .slice Ao i co ∧ Hid (OwnL rEnt (fun b => g + 2 ≤ b) (g + 2) 50 wr (.slice Ao i co) (l.es.take i)) ∧ Below (g + 2) w1 wr) (fun _ vi _ => m - (intOf vi).toNat)
  case atStart => exact ⟨0, 0, none, by omega, rfl, rfl, Lib.hid (OwnL.nil_ _ _ _ _ _), Below.refl _ _⟩
  case round =>
    obtain ⟨i, co, Ao, hi, rfl, rfl, HO, hb⟩ := hrel
    have hzr : g + 2 ≤ wr.heap.size := by have := hb.size; have := HZ1.out; omega
    have kr := HK1.out.below hb (by omega)
    have d5 : wr.cell? ⟨g, 5, none⟩ = some (.slice Ae m ce) := kr.cell 5
    have hOlt := HO.out.lt
    by_cases hlt : i < m
    · have hil : i < l.es.length := by rw [← HM.out]; exact hlt
      have hesr : RSl rEnt (fun b => b < g) wr (.slice Ae m ce) l.es := RSl.kp (ok := fun b => b < g) (.of_belowB hb fun b (h1 : b < g) _ => by omega) HH1.out.es
      obtain ⟨b5, off5, c5, cs5, hv5, hbg, ⟨vd, rfl, hvd, ht64, hi64⟩, hcell5⟩ := hesr.at_ hil
      rw [← HM.out] at hv5
      obtain ⟨rfl, rfl⟩ : Ae = some ⟨b5, off5, none⟩ ∧ ce = c5 := by simpa using hv5
      obtain ⟨A6, c6, rfl, hf6⟩ := hvd.form
      obtain ⟨e, he⟩ : ∃ e, e = l.es[i] := ⟨_, rfl⟩
      rw [← he] at hcell5 ht64 hi64 hf6 hvd
      obtain ⟨dl, hdl⟩ : ∃ dl, dl = e.data.length := ⟨_, rfl⟩
      rw [← hdl] at hcell5 hvd
      have hne5 : ¬ some b5 = (Value.slice Ao i co).ownBlock := fun h => by have := (hOlt b5 h.symm).1; omega
      have hneg : ¬ some g = (Value.slice Ao i co).ownBlock := fun h => by have := (hOlt g h.symm).1; omega
      have q0 : ∀ s : LaterB wr (fun y => some y = (Value.slice Ao i co).ownBlock), s.val.cell? ⟨b5, off5 + i * 3, none⟩ = some (.int .u64 (e.term : Int)) := LaterB.cell (hcell5 0 _ rfl) hne5
      have q1 : ∀ s : LaterB wr (fun y => some y = (Value.slice Ao i co).ownBlock), s.val.cell? ⟨b5, off5 + i * 3 + 1, none⟩ = some (.int .u64 (e.idx : Int)) := LaterB.cell (by have := hcell5 1 _ rfl; rwa [Nat.add_assoc]) hne5
      have q2 : ∀ s : LaterB wr (fun y => some y = (Value.slice Ao i co).ownBlock), s.val.cell? ⟨b5, off5 + i * 3 + 2, none⟩ = some (.slice A6 dl c6) := LaterB.cell (by have := hcell5 2 _ rfl; rwa [Nat.add_assoc]) hne5
      have g5 : ∀ s : LaterB wr (fun y => some y = (Value.slice Ao i co).ownBlock), s.val.cell? ⟨g, 5, none⟩ = some (.slice (some ⟨b5, off5, none⟩) m ce) := LaterB.cell d5 hneg
      have HVD := Lib.hid hvd
      have HE := Lib.hid he
      have HDL := Lib.hid hdl
      have HT := Lib.hid (show e.term < 18446744073709551616 ∧ e.idx < 18446744073709551616 from ⟨ht64, hi64⟩)
      have hOw : OwnL rEnt (fun b => g + 2 ≤ b) (g + 2) 50 wr (.slice Ao i co) (l.es.take i) := HO.out
      have hn1 : (l.es.take i).length = i := by rw [List.length_take]; omega
      clear hcell5 hv5 hvd he hdl ht64 hi64 hesr hf6
      go_upto_region 5 with fail
      clear d5
      refine wp_seqB (fun y => some y = (Value.slice Ao i co).ownBlock) 22 [19, 21, 22] (by as_aux_lemma => kernel_rfl) (by as_aux_lemma => kernel_rfl) fun w2 hb2 => ?_
      refine seqB_pre 19 (by kernel_rfl) ?_
      simp only [List.take_succ_cons, List.take_zero, List.drop_succ_cons, List.drop_zero]
      repeat (go_big_quiet_step (fail))
      refine wpQuiet_nil ?_
      refine seqB_wild0 hb2 rfl rfl fun K hK => ?_
      unfold Gives
      go_simp
      refine (copy_rb _ e.data _ (RSl.below HVD.out hb2)).mono ?_
      rintro x w3 ⟨⟨v3, rfl, hv3⟩, hb3⟩
      refine ⟨_, rfl, hK _ _ (hb3) fun hb3' => ?_⟩
      clear hK
      clear K
      simp only [Act.put, List.setIfInBounds_toArray, List.set_cons_succ, List.set_cons_zero]
      obtain ⟨A8, q8, rfl, _⟩ := hv3.form
      rw [← HDL.out] at hv3 ⊢
      refine seqB_pre 1 (by kernel_rfl) ?_
      simp only [List.take_succ_cons, List.take_zero, List.drop_succ_cons, List.drop_zero]
      repeat (go_big_quiet_step (fail))
      refine wpQuiet_nil ?_
      refine seqB_wild0 hb3' rfl rfl fun K hK => ?_
      unfold Gives
      go_simp
      have hal : Below w3.heap.size w3 (w3.alloc (.cells #[.int .u64 (e.term : Int), .int .u64 (e.idx : Int), .slice A8 dl q8] 50)) := (Below.refl _ _).alloc (Nat.le_refl _) _
      refine hK _ _ hal fun hb4 => ?_
      clear hK
      clear K
      simp only [Act.put, List.setIfInBounds_toArray, List.set_cons_succ, List.set_cons_zero]
      have hz2 := hb2.size
      have hz3 := hb3.size
      have hz4 := hb4.size
      have hv4 : rEnt.rel (fun b => g + 2 ≤ b ∧ some b ≠ (Value.slice Ao i co).ownBlock) (w3.alloc (.cells #[.int .u64 (e.term : Int), .int .u64 (e.idx : Int), .slice A8 dl q8] 50)) [.int .u64 (e.term : Int), .int .u64 (e.idx : Int), .slice A8 dl q8] e := ⟨_, rfl, (RSl.below hv3 hal).mono (by decide) fun y hy _ => ⟨by omega, fun h => by have := (hOlt y h.symm).2; omega⟩, HT.out.1, HT.out.2⟩
      refine seqB_wild (Kp.of_below hb4) rfl rfl fun K hK => ?_
      refine gives_app0' (E := rEnt) Tryz.rowEnt (by decide) _ _ rfl (.slice Ao i co) (l.es.take i) _ rfl (hOw.below hb4) (some ⟨w3.heap.size, 0, none⟩) 1 [e] [[.int .u64 (e.term : Int), .int .u64 (e.idx : Int), .slice A8 dl q8]] rfl (show Rd _ 3 _ _ _ by simpa using Rd.new w3 50 3 1 #[.int .u64 (e.term : Int), .int .u64 (e.idx : Int), .slice A8 dl q8] rfl) (Chunks.single (E := rEnt) hv4) ?_ ?_ (by omega) fun v' w5 hown5 hk5 hloc5 => ?_
      · rw [hn1]
        show (i + 1) * 40 ≤ _
        omega
      · rw [hn1]
        show i + 1 ≤ _
        omega
      refine hK _ _ ((hk5.mono fun y hy e => hy e)) fun hK5 => ?_
      clear hK
      clear K
      simp only [Act.put, List.setIfInBounds_toArray, List.set_cons_succ, List.set_cons_zero]
      refine seqB_pre 1 (by kernel_rfl) ?_
      simp only [List.take_succ_cons, List.take_zero, List.drop_succ_cons, List.drop_zero]
      repeat (go_big_quiet_step (fail))
      refine wpQuiet_nil ?_
      refine seqB_nil ?_
      obtain ⟨A9, c9, rfl, hc9⟩ := hown5.form
      have hl9 : (l.es.take i ++ [e]).length = i + 1 := by rw [List.length_append, hn1]; rfl
      rw [hl9] at hown5 ⊢
      have hB5 : Below (g + 2) wr w5 := hK5.below (by omega) fun b hb h => by have := (hOlt b h.symm).1; omega
      have HO5 := Lib.hid (show OwnL rEnt (fun b => g + 2 ≤ b) (g + 2) 50 w5 (.slice A9 (i + 1) c9) (l.es.take (i + 1)) by
        rw [List.take_succ_eq_append_getElem hil, ← HE.out]
        exact hown5)
      clear hown5 hk5 hloc5 hv4 hal hv3 hc9 hl9 hK5 q0 q1 q2 g5
      go_wp2
      go_roundw
      case rel => exact ⟨i + 1, c9, A9, by omega, by go_num, rfl, HO5, hb.trans hB5⟩
      case measure => simp [intOf]; omega
    · obtain rfl : i = m := by omega
      have k2 := HK2.out.below hb (by omega)
      have hgg : ¬ g = g + 1 := by omega
      have p0 : ∀ s : LaterB wr (fun y => y = g + 1), s.val.cell? ⟨g, 0, none⟩ = some (.int .u64 (l.term : Int)) := LaterB.cell (kr.cell 0) hgg
      have p1 : ∀ s : LaterB wr (fun y => y = g + 1), s.val.cell? ⟨g, 1, none⟩ = some (.int .i64 l.vote) := LaterB.cell (kr.cell 1) hgg
      have p2 : ∀ s : LaterB wr (fun y => y = g + 1), s.val.cell? ⟨g, 2, none⟩ = some (.int .u64 (l.si : Int)) := LaterB.cell (kr.cell 2) hgg
      have p3 : ∀ s : LaterB wr (fun y => y = g + 1), s.val.cell? ⟨g, 3, none⟩ = some (.int .u64 (l.st : Int)) := LaterB.cell (kr.cell 3) hgg
      have p4 : ∀ s : LaterB wr (fun y => y = g + 1), s.val.cell? ⟨g, 4, none⟩ = some (.slice As ms cs) := LaterB.cell (kr.cell 4) hgg
      have hsd : RB (fun b => b < g) wr (.slice As ms cs) l.sd := RSl.kp (ok := fun b => b < g) (.of_belowB hb fun b (h1 : b < g) _ => by omega) HH1.out.sd
      have HSD := Lib.hid hsd
      have HK2r := Lib.hid k2
      have HKR := Lib.hid kr
      clear hsd k2 kr
      go_upto_region 6 with fail
      clear d5
      refine wp_seqB (fun y => y = g + 1) 15 [11, 15] (by as_aux_lemma => kernel_rfl) (by as_aux_lemma => kernel_rfl) fun w2 hb2 => ?_
      refine seqB_pre 11 (by kernel_rfl) ?_
      simp only [List.take_succ_cons, List.take_zero, List.drop_succ_cons, List.drop_zero]
      repeat (go_big_quiet_step (fail))
      refine wpQuiet_nil ?_
      refine seqB_wild0 hb2 rfl rfl fun K hK => ?_
      unfold Gives
      go_simp
      refine (copy_rb _ l.sd _ (RSl.below HSD.out hb2)).mono ?_
      rintro x w3 ⟨⟨v3, rfl, hv3⟩, hb3⟩
      refine ⟨_, rfl, hK _ _ (hb3) fun hb3' => ?_⟩
      clear hK
      clear K
      simp only [Act.put, List.setIfInBounds_toArray, List.set_cons_succ, List.set_cons_zero]
      obtain ⟨A8, q8, rfl, _⟩ := hv3.form
      rw [← HMS.out] at hv3 ⊢
      refine seqB_pre 3 (by kernel_rfl) ?_
      simp only [List.take_succ_cons, List.take_zero, List.drop_succ_cons, List.drop_zero]
      repeat (go_big_quiet_step (fail))
      refine wpQuiet_nil ?_
      have hz2 := hb2.size
      have hz3 := hb3.size
      have k3 := (HK2r.out.below hb3' HK2r.out.lt)
      refine seqB_wild (Kp.of_below hb3') rfl rfl fun K hK => ?_
      refine gives_st (k := 0) rfl (vlCs l (.slice A8 ms q8) (.slice Ao i co)) rfl rfl k3 (Nat.le_refl _) Tryz.infoLog (vl_all _ _ _ _ _ _ _) ?_
      have k9 := k3.setCells (vlCs l (.slice A8 ms q8) (.slice Ao i co)) rfl
      have hK9 : Kp (fun b => ¬ b = g + 1) w3 (World.setCells w3 (g + 1) 0 (vlCs l (.slice A8 ms q8) (.slice Ao i co)).toList) := Kp.setCells (b := g + 1) (fun _ h => h rfl) _ 0 (Kp.refl _ _)
      refine hK _ _ (hK9) fun hK8 => ?_
      clear hK
      clear K
      simp only [Act.put, List.setIfInBounds_toArray, List.set_cons_succ, List.set_cons_zero]
      generalize hwz : World.setCells w3 (g + 1) 0 (vlCs l (.slice A8 ms q8) (.slice Ao i co)).toList = wz at k9 hK9 hK8 ⊢
      clear hwz
      refine seqB_nil ?_
      have lv := k9.loadVar (P := Tryz.prog) Tryz.underlying30 rfl Tryz.infoLog
      have HK8 := Lib.hid hK8
      have HK9 := Lib.hid hK9
      have HV3 := Lib.hid hv3
      clear hK8 hK9 hv3 k3 k9
      go_wp2
      have hBz : Below g w wz := (hB1.trans (hb.mono (by omega))).trans (HK8.out.below (by omega) fun b hb => by omega)
      have HSF : Hid (RB (fun b => w.heap.size ≤ b ∧ some b ≠ (Value.slice Ao i co).ownBlock) wz (.slice A8 ms q8) l.sd) := Lib.hid ((RSl.kp (HK9.out.mono fun b (hq : w2.heap.size ≤ b) => by omega) HV3.out).mono (by decide) fun b (h1 : w2.heap.size ≤ b) _ => ⟨by have := HG.out; omega, fun e => by have := (hOlt b e.symm).2; omega⟩)
      have hsd : RB (fun b => g + 2 ≤ b) wz (.slice A8 ms q8) l.sd := RSl.kp (HK9.out.mono fun b (hb : g + 2 ≤ b) => by omega) (HV3.out.mono (by decide) fun b hb _ => by omega)
      have hos : OwnL rEnt (fun b => w.heap.size ≤ b) w.heap.size 50 wz (.slice Ao i co) l.es := by
        have h1 := HO.out.kp (HK8.out.mono fun b (hb : g + 2 ≤ b) => by omega) (fun b hb => hb) fun b hb => (hOlt b hb).1
        rw [List.take_of_length_le (by rw [← HM.out]; omega)] at h1
        exact (h1.base_ (by have := HG.out; omega)).monoW fun b hb _ => by have := HG.out; omega
      refine bodyPost_ret (v := .agg (vlCs l (.slice A8 ms q8) (.slice Ao i co))) ?_ rfl ⟨⟨_, _, rfl, HSF.out, hos⟩, by rw [← HG.out]; exact hBz⟩
      simp [results, Tryz.results10, Act.put, Sem.run_bind, Sem.run_pure, asAddr_ok, lv]
theorem copyLog_any {ok : Nat → Prop} {w : World} {vsd ves : Value} {l : VLog} (h : VLm ok w vsd ves l) (hn : l.es.length ≤ 1000000) :
    Calls Tryz.prog 10 #[.agg (vlCs l vsd ves)] w fun e w' => (∃ vsd' ves', e = .returned (.agg (vlCs l vsd' ves')) ∧ VLm (fun b => w.heap.size ≤ b) w' vsd' ves' l) ∧ Below w.heap.size w w' := by
  refine (copyLog_own h hn).mono ?_
  rintro e w' ⟨⟨a, b, rfl, h1, h2⟩, hb⟩
  exact ⟨⟨a, b, rfl, ⟨h1.mono (by decide) fun x hx _ => hx.1, h2.rsl (by decide) (by show l.es.length * 40 ≤ _; omega) (fun _ hb => hb) (fun _ hb => hb), h.term, h.vote, h.si, h.st⟩⟩, hb⟩
end Go.Proofs.YtnlhjhpikjmoaaaGreatDoor
