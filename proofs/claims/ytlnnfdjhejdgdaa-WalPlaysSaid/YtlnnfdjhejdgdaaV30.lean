/- WalPlays: a step that appends.
WalPlays: a step, whatever it is; told, between two steps; arming. -/
import Derived.Test.YtlnnfdjhejdgdaaV28
namespace Go.Proofs.Ytlnnfdjhejdgdaa
open Go.RowKit

set_option maxRecDepth 100000 in
set_option maxHeartbeats 6400000 in
theorem step_app {B gt gd gl n k T first cut safe : Nat} {f : Nat → Prop} {w : World} {al sf us : List (List UInt8)} {dn : Bool} (h : StW B gt gd gl n k T first cut safe f w al sf us dn) (hk : k ≤ 100) (hn : n ≤ 65536) (kd N : Int) (hkd : ¬ (kd = 1 ∨ kd = 2 ∨ kd = 3 ∨ kd = 4 ∨ kd = 5)) (vb vk : Value) (b : List UInt8) (hrb : RB (fun x => x < B) w vb b) (hvk : vk.oneCell' = true) :
    Calls Try.prog 24 #[.pointer (some ⟨gt, 0, none⟩), .agg #[.int .i64 kd, .int .i64 N, vb, vk]] w fun e w' => e = .returned (.bool true) ∧ (∃ dn', StP B gt gd n (k + 1) w' dn') ∧ Below B w w' := by
  have hal : Below w.heap.size w (w.alloc (.cells #[.int .i64 kd, .int .i64 N, vb, vk] 56)) := (Below.refl _ _).alloc (Nat.le_refl _) _
  have hkb := Blk.new w 56 #[.int .i64 kd, .int .i64 N, vb, vk]
  have hBw := h.size
  obtain ⟨Ab, cb, rfl, hcb, _⟩ := hrb.form
  obtain ⟨lb, hlb⟩ : ∃ lb, lb = b.length := ⟨_, rfl⟩
  rw [← hlb] at hkb hal hrb hcb ⊢
  have h1 : ¬ kd = 1 := fun e => hkd (.inl e)
  have h2 : ¬ kd = 2 := fun e => hkd (.inr (.inl e))
  have h3 : ¬ kd = 3 := fun e => hkd (.inr (.inr (.inl e)))
  have h4 : ¬ kd = 4 := fun e => hkd (.inr (.inr (.inr (.inl e))))
  have h5 : ¬ kd = 5 := fun e => hkd (.inr (.inr (.inr (.inr e))))
  have z1 : (kd == 1) = false := by rw [beq_eq_false_iff_ne]; exact h1
  have z2 : (kd == 2) = false := by rw [beq_eq_false_iff_ne]; exact h2
  have z3 : (kd == 3) = false := by rw [beq_eq_false_iff_ne]; exact h3
  have z4 : (kd == 4) = false := by rw [beq_eq_false_iff_ne]; exact h4
  have z5 : (kd == 5) = false := by rw [beq_eq_false_iff_ne]; exact h5
  have HLB := Lib.hid hlb
  have HS := Lib.hid h
  have HAL := Lib.hid hal
  have HKB := Lib.hid hkb
  have HRB := Lib.hid hrb
  clear h hal hkb hrb hlb hkd
  go_enter Try.func24, Try.ntmps24
  go_upto_region 29 with fail
  refine name_world (fun w1 => StW B gt gd gl n k T first cut safe f w1 al sf us dn ∧ Blk w1 w.heap.size 56 #[.int .i64 kd, .int .i64 N, .slice Ab lb cb, vk] ∧ Below w.heap.size w w1) ⟨HS.out.below HAL.out, HKB.out, HAL.out⟩ ?_
  rintro w1 ⟨hS, hbo, hB1⟩
  obtain ⟨wb, hwb⟩ : ∃ wb, wb = w.heap.size := ⟨_, rfl⟩
  rw [← hwb] at hbo ⊢
  have HWB := Lib.hid hwb
  have c2 : w1.cell? ⟨wb, 2, none⟩ = some (.slice Ab lb cb) := hbo.cell 2
  have HSS := Lib.hid hS
  clear HS HAL HKB hS hwb hbo z1 z2 z3 z4 z5 h1 h2 h3 h4 h5
  obtain ⟨mb, hmb⟩ : ∃ mb, mb = min lb 300 := ⟨_, rfl⟩
  have hmb3 : mb ≤ 300 := by omega
  have hmbc : mb ≤ cb := by omega
  have HMB := Lib.hid hmb
  have hrm : RB (fun x => x < B) w1 (.slice Ab mb cb) (b.take 300) := by
    have := (HRB.out.below hB1).take (k := mb) (by omega)
    have e : b.take mb = b.take 300 := by
      rw [hmb, HLB.out]
      rcases Nat.le_total b.length 300 with h | h
      · rw [Nat.min_eq_left h, List.take_of_length_le (Nat.le_refl _), List.take_of_length_le h]
      · rw [Nat.min_eq_right h]
    rw [e] at this
    exact this
  obtain ⟨bl, hbl⟩ : ∃ bl, bl = b.take 300 := ⟨_, rfl⟩
  rw [← hbl] at hrm
  have hbll : bl.length = mb := by rw [hbl, List.length_take, hmb, HLB.out]; omega
  have HRM := Lib.hid hrm
  clear hrm hbl hmb
  go_upto_if 180 with fail
  go_cut [8] (fun v wx => v = .slice Ab mb cb ∧ wx = w1)
  case first =>
    by_cases h300 : 300 < lb
    · have y1 : decide (lb > 300) = true := decide_eq_true h300
      have y2 : decide ((lb : Int) > 300) = true := decide_eq_true (by omega)
      have y3 : decide (300 < lb) = true := decide_eq_true h300
      have y4 : decide ((300 : Int) < (lb : Int)) = true := decide_eq_true (by omega)
      go_wp2
      go_meet
      exact ⟨by rw [HMB.out]; congr 1; omega, rfl⟩
    · have y1 : decide (lb > 300) = false := decide_eq_false h300
      have y2 : decide ((lb : Int) > 300) = false := decide_eq_false (by omega)
      have y3 : decide (300 < lb) = false := decide_eq_false h300
      have y4 : decide ((300 : Int) < (lb : Int)) = false := decide_eq_false (by omega)
      go_wp2
      go_meet
      exact ⟨by rw [HMB.out]; congr 1; omega, rfl⟩
  obtain ⟨rfl, rfl⟩ := hcut
  obtain ⟨w2, rfl⟩ : ∃ w2, w2 = wc := ⟨_, rfl⟩
  have hrd : Rd w2 1 Ab mb (bs bl) := by
    obtain ⟨A', c', hv, _, _, hr, _⟩ := HRM.out.open_
    obtain ⟨rfl, _, rfl⟩ : Ab = A' ∧ mb = bl.length ∧ cb = c' := by simpa using hv
    rw [hbll] at hr
    exact hr
  have HRD := Lib.hid hrd
  have HBL := Lib.hid hbll
  clear hrd hbll c2
  go_wp2_with fail
  refine (ownByte_any Ab mb cb bl _ HRD.out (by omega)).mono ?_
  rintro e w3 ⟨⟨g, rfl, hO3⟩, hb3⟩
  have hg := World.ownsRow.lt hO3 g rfl
  have hgf : ¬ f g := fun hf => by have := (HSS.out.tr.fb g hf).2; omega
  have hS3 := HSS.out.below hb3
  obtain ⟨va, hbt3⟩ := hS3.tr.blk
  have c1 : w3.cell? ⟨gt, 1, none⟩ = some (.pointer (some ⟨gl, 0, none⟩)) := hbt3.cell 1
  have HAP := Lib.hid (append_W hS3.lg hS3.cf (.slice (some ⟨g, 0, none⟩) mb (mb + 3)) ((hO3.rdn HBL.out (by omega) (by omega)).mono (by decide) fun y hy _ => by rw [hy]; exact hgf) (by rw [HBL.out]; omega))
  have HO3 := Lib.hid hO3
  clear hS3 hbt3 hO3
  go_wp2_with fail
  refine HAP.out.mono ?_
  rintro e w4 ⟨⟨x, rfl, hx⟩, hK4⟩
  have HO4 := Lib.hid (HO3.out.kp_ hK4 hgf)
  have hrm4 : RB (fun x => x < B) w4 (.slice Ab mb cb) bl := RSl.kp (hK4.mono fun y hy hf => by have := (HSS.out.tr.fb y hf).1; omega) (HRM.out.below hb3)
  have hrd4 : Rd w4 1 Ab mb (bs bl) := by
    obtain ⟨A', c', hv, _, _, hr, _⟩ := hrm4.open_
    obtain ⟨rfl, _, rfl⟩ : Ab = A' ∧ mb = bl.length ∧ cb = c' := by simpa using hv
    rw [HBL.out] at hr
    exact hr
  have HRM4 := Lib.hid hrm4
  have HRD4 := Lib.hid hrd4
  have HX := Lib.hid hx
  have HK4 := Lib.hid hK4
  clear hrm4 hrd4 hx hK4 c1
  go_wp2_with fail
  refine (keptByte_any g Ab mb cb bl _ HO4.out.rd HRD4.out (by omega)).mono ?_
  rintro e w5 ⟨rfl, hb5⟩
  have HO5 := Lib.hid (show OwnB w2.heap.size w5 (some ⟨g, 0, none⟩) mb (mb + 3) bl by
    have := (HO4.out.belowB hb5).take_ (k := mb) (by omega)
    rw [List.take_left' HBL.out] at this
    exact this)
  go_wp2_with fail
  refine (spoil_kp _ g mb (mb + 3) bl _ HO5.out (by omega)).mono ?_
  rintro e w6 ⟨rfl, hK6⟩
  have hz3 := hb3.size
  have hz4 := HK4.out.size
  have hz5 := hb5.size
  have hz6 := hK6.size
  have hlg6 := (HX.out.kp (.of_below hb5 (ok := fun _ => True)) fun _ _ => trivial).kp hK6 fun y hy e => by
    rcases hy with hy | hy
    · exact hgf (e ▸ hy)
    · omega
  have hK26 : Kp (fun x => ¬ f x ∧ x < w2.heap.size) w2 w6 := (Kp.of_below hb3).trans ((HK4.out.mono fun y hy => hy.1).trans ((Kp.of_below hb5).trans (hK6.mono fun y hy e => by have := hy.2; omega)))
  have ht6 := HSS.out.tr.jump (f' := fun x => f x ∨ (w3.heap.size ≤ x ∧ x < w4.heap.size)) hK26 fun y hy => hy.imp_right fun h => by omega
  have hrb6 : RB (fun x => x < B) w6 (.slice Ab mb cb) bl := RSl.kp (hK26.mono fun y hy => ⟨fun hf => by have := (HSS.out.tr.fb y hf).1; omega, by have := HSS.out.size; omega⟩) HRM.out
  have hB6 : Below B w w6 := (hB1.mono hBw).trans (hK26.below HSS.out.size fun y hy => ⟨fun hf => by have := (HSS.out.tr.fb y hf).1; omega, by have := HSS.out.size; omega⟩)
  have hb5' : mb = bl.length := HBL.out.symm
  have HT6 := Lib.hid ht6
  have HL6 := Lib.hid hlg6
  have HR6 := Lib.hid hrb6
  have HB6 := Lib.hid hB6
  have HP := Lib.hid (show al.length ≤ k ∧ T ≤ 1 + 2 * k ∧ al.drop first = sf ++ us ∧ first ≤ al.length ∧ cut ≤ al.length ∧ safe ≤ first + sf.length ∧ (dn = false → cut = first) ∧ (∀ r ∈ al, r.length ≤ 300) from ⟨HSS.out.len, HSS.out.turn, HSS.out.drop, HSS.out.fi, HSS.out.ct, HSS.out.sa, HSS.out.cf, HSS.out.rs⟩)
  have HMB5 := Lib.hid hb5'
  generalize (fun x => f x ∨ (w3.heap.size ≤ x ∧ x < w4.heap.size)) = ff at HT6 HL6
  clear hlg6 hK26 ht6 hrb6 hB6 hz3 hz4 hz5 hz6 hK6 hb5 hb5' HO5 HO4 HRM4 HRD4 HX HK4 HO3 HAP hgf hg hb3 HRD HBL HRM HSS HMB
  -- SWITCH
  obtain ⟨va, p, hbt, hO, hp, hva⟩ := HT6.out.mem
  obtain ⟨A7, d7, rfl, hd7⟩ := hO.form
  obtain ⟨m, hm⟩ : ∃ m, m = al.length := ⟨_, rfl⟩
  rw [← hm] at hbt hO hva hd7
  have HM := Lib.hid hm
  have hmk : m ≤ k := by rw [hm]; exact HP.out.1
  have c8 : w6.cell? ⟨gt, 8, none⟩ = some (.bool dn) := hbt.cell 8
  clear hm
  have hlx := HL6.out
  clear HL6
  rcases hlx with ⟨rfl, rfl, hL⟩ | ⟨rfl, rfl, hL⟩ | ⟨rfl, rfl, hL, hfull⟩ | ⟨rfl, rfl, hL⟩
  · as_aux_lemma =>
      have HLZ := Lib.hid hL
      clear hL hbt hO hp hva
      go_wp2
      go_ret
      have hfin : StW B gt gd gl n (k + 1) T first cut safe ff w6 al sf us true := ⟨HT6.out, HLZ.out, by have := HP.out.2.1; omega, by have := HP.out.1; omega, HP.out.2.2.1, HP.out.2.2.2.1, HP.out.2.2.2.2.1, HP.out.2.2.2.2.2.1, (fun e => by cases e), HP.out.2.2.2.2.2.2.2⟩
      first
        | exact ⟨rfl, ⟨true, gl, T, first, cut, safe, ff, _, _, _, hfin⟩, HB6.out⟩
        | exact ⟨rfl, .inr ⟨gl, T, first, cut, safe, ff, _, _, _, hfin⟩, HB6.out⟩
  · as_aux_lemma =>
      have l3 : ∀ s : Later w6, s.val.cell? ⟨gt, 3, none⟩ = some (.slice A7 m d7) := Later.cell (hbt.cell 3)
      have HBT := Lib.hid hbt
      clear hbt
      go_upto_region 40 with fail
      clear c8
      have hgtl := HBT.out.lt
      have hngt : (Value.slice A7 m d7).ownBlock ≠ some gt := fun e => (hva gt e).2 rfl
      have hOW : OwnL rBs (fun y => p y ∨ w6.heap.size ≤ y) B 33 w6 (.slice A7 m d7) al := hO.monoW fun y hy _ => .inl hy
      have hown := hO.lt
      refine wp_seqB (fun y => y = gt ∨ some y = (Value.slice A7 m d7).ownBlock) 8 [6, 7, 8, 11] (by as_aux_lemma => kernel_rfl) (by as_aux_lemma => kernel_rfl) fun w7 hb7 => ?_
      refine seqB_pre 4 (by kernel_rfl) ?_
      simp only [List.take_succ_cons, List.take_zero, List.drop_succ_cons, List.drop_zero]
      repeat (go_big_quiet_step (fail))
      refine wpQuiet_nil ?_
      refine seqB_pre0 1 (by kernel_rfl) (by kernel_rfl) ?_
      simp only [List.take_succ_cons, List.take_zero, List.drop_succ_cons, List.drop_zero]
      repeat (go_big_quiet_step (fail))
      refine wpQuiet_nil ?_
      refine seqB_pre 1 (by kernel_rfl) ?_
      simp only [List.take_succ_cons, List.take_zero, List.drop_succ_cons, List.drop_zero]
      repeat (go_big_quiet_step (fail))
      refine wpQuiet_nil ?_
      refine seqB_wild0 hb7 rfl rfl fun K hK => ?_
      unfold Gives
      go_simp
      refine (copy_rb _ bl _ (RSl.below HR6.out hb7)).mono ?_
      rintro e w8 ⟨⟨v8, rfl, hv8⟩, hb8⟩
      refine ⟨_, rfl, hK _ _ (hb8) fun hb8' => ?_⟩
      clear hK
      clear K
      simp only [Act.put, List.setIfInBounds_toArray, List.set_cons_succ, List.set_cons_zero]
      obtain ⟨A8, q8, rfl, _⟩ := hv8.form
      rw [← HMB5.out] at hv8 ⊢
      refine seqB_wild0 hb8' rfl rfl fun K hK => ?_
      unfold Gives
      go_simp
      have hal : Below w8.heap.size w8 (w8.alloc (.cells #[.slice A8 mb q8] 33)) := (Below.refl _ _).alloc (Nat.le_refl _) _
      refine hK _ _ hal fun hb9 => ?_
      clear hK
      clear K
      simp only [Act.put, List.setIfInBounds_toArray, List.set_cons_succ, List.set_cons_zero]
      have hz7 := hb7.size
      have hz8 := hb8.size
      have hv9 : RB (fun y => (p y ∨ w6.heap.size ≤ y) ∧ some y ≠ (Value.slice A7 m d7).ownBlock) (w8.alloc (.cells #[.slice A8 mb q8] 33)) (.slice A8 mb q8) bl := (RSl.below hv8 hal).mono (by decide) fun y hy _ => ⟨.inr (by omega), fun e => by have := (hown y e.symm).2; omega⟩
      refine seqB_wild (Kp.of_below hb9) rfl rfl fun K hK => ?_
      refine gives_app0' (E := rBs) Try.rowBs (by decide) _ _ rfl (.slice A7 m d7) al _ rfl (hOW.below hb9) (some ⟨w8.heap.size, 0, none⟩) 1 [bl] [[.slice A8 mb q8]] rfl (show Rd _ 1 _ _ _ by simpa using Rd.new w8 33 1 1 #[.slice A8 mb q8] rfl) (Chunks.single (E := rBs) ⟨_, rfl, hv9⟩) ?_ ?_ (by have := hb9.size; have := HT6.out.base; omega) fun v' w9 hown9 hk9 hloc9 => ?_
      · show (al.length + 1) * 24 ≤ _
        have := HP.out.1
        omega
      · show al.length + 1 ≤ _
        have := HP.out.1
        omega
      have hkk9 : Kp (fun y => ¬ (y = gt ∨ some y = (Value.slice A7 m d7).ownBlock)) (w8.alloc (.cells #[.slice A8 mb q8] 33)) w9 := hk9.mono fun y hy e => hy (.inr e)
      refine hK _ _ (hkk9) fun hK9 => ?_
      clear hK
      clear K
      simp only [Act.put, List.setIfInBounds_toArray, List.set_cons_succ, List.set_cons_zero]
      refine seqB_pre 2 (by kernel_rfl) ?_
      simp only [List.take_succ_cons, List.take_zero, List.drop_succ_cons, List.drop_zero]
      repeat (go_big_quiet_step (fail))
      refine wpQuiet_nil ?_
      have kg9 := (HBT.out.below hb9 hgtl).kp hk9 (fun e => hngt e.symm)
      have fg9 := fun i => kg9.frozen i
      have c39 : w9.cell? ⟨gt, 3, none⟩ = some (.slice A7 m d7) := kg9.cell 3
      obtain ⟨A9, c9, rfl, _⟩ := hown9.form
      obtain ⟨mm, hmm⟩ : ∃ mm, mm = (al ++ [bl]).length := ⟨_, rfl⟩
      rw [← hmm] at hown9 hloc9 ⊢
      have HMM := Lib.hid hmm
      clear hmm
      refine seqB_wild hK9 rfl rfl fun K hK => ?_
      unfold Gives
      go_simp
      have hkp : Kp (fun y => ¬ (y = gt ∨ some y = (Value.slice A7 m d7).ownBlock)) w9 (w9.setCell ⟨gt, 3, none⟩ (.slice A9 mm c9)) := (Kp.refl _ _).setCell (fun _ h => h (.inl rfl)) _
      refine hK _ _ hkp fun hK10 => ?_
      clear hK
      clear K
      simp only [Act.put, List.setIfInBounds_toArray, List.set_cons_succ, List.set_cons_zero]
      refine seqB_nil ?_
      have hz9 := hb9.size
      have hkg : Kp (fun y => ¬ y = gt) w9 (w9.setCell ⟨gt, 3, none⟩ (.slice A9 mm c9)) := (Kp.refl _ _).setCell (fun _ h => h rfl) _
      have hlocz : (Value.slice A9 mm c9).ownBlock = (Value.slice A7 m d7).ownBlock ∨ ∃ y, (Value.slice A9 mm c9).ownBlock = some y ∧ w6.heap.size ≤ y := by
        rcases hloc9 with e | e
        · exact .inl e
        · exact .inr ⟨_, e, by omega⟩
      have hngz : ∀ y, (Value.slice A9 mm c9).ownBlock = some y → ¬ ff y ∧ y ≠ gt := by
        intro y hy
        rcases hlocz with e | ⟨y', e, hle⟩
        · exact hva y (e ▸ hy)
        · obtain rfl : y' = y := Option.some.inj (e.symm.trans hy)
          exact ⟨fun hf => by have := (HT6.out.fb _ hf).2; omega, fun e => by omega⟩
      have hOz := hown9.kp hkg (fun y hy => hy.elim (fun h => (hp y h).2) fun h e => by omega) (fun y hy => (hngz y hy).2)
      have hTz : TrM B gt gd gl n ff (w9.setCell ⟨gt, 3, none⟩ (.slice A9 mm c9)) (al ++ [bl]) first cut safe false false :=
        ⟨⟨_, _, kg9.set_ 3 (.slice A9 mm c9), hOz, fun y hy => hy.elim (hp y) fun h => ⟨fun hf => by have := (HT6.out.fb y hf).2; omega, fun e => by omega⟩, hngz⟩, HT6.out.base, fun y hy => by have := HT6.out.fb y hy; have := hK10.size; omega, HT6.out.fgt⟩
      have hLz := hL.kp hK10 fun y hy e => e.elim (fun e => HT6.out.fgt (e ▸ hy)) fun e => (hva y e.symm).1 hy
      have hBz := HB6.out.trans (hK10.below (by have := HT6.out.base; omega) fun y hy e => e.elim (fun e => by have := HT6.out.base; omega) fun e => by have := (hown y e.symm).1; omega)
      have hLz' : LogX ff (w9.setCell ⟨gt, 3, none⟩ (.slice A9 mm c9)) gl gd n T first cut sf (us ++ [bl]) false := hLz
      clear hLz
      have hLz := hLz'
      clear hLz'
      clear hOz hngz hlocz hkg hz9 hz7 hz8 hkp hK10 c39 fg9 kg9 hkk9
      generalize hwz : w9.setCell ⟨gt, 3, none⟩ (.slice A9 mm c9) = wz at hTz hLz hBz ⊢
      clear hwz hown9 hloc9 hk9 hK9 hv9 hb9 hal hb8' hv8 hb8 hown hOW hngt hgtl l3 hL
      have HTZ := Lib.hid hTz
      have HLZ := Lib.hid hLz
      have HBZ := Lib.hid hBz
      clear hTz hLz hBz
      go_wp2
      go_ret
      have hfin := (show StW B gt gd gl n (k + 1) T first cut safe ff _ (al ++ [bl]) sf (us ++ [bl]) _ from ⟨HTZ.out, HLZ.out, by have := HP.out.2.1; omega, by rw [List.length_append]; have := HP.out.1; simp; omega, by rw [List.drop_append_of_le_length HP.out.2.2.2.1, HP.out.2.2.1, List.append_assoc], by rw [List.length_append]; have := HP.out.2.2.2.1; omega, by rw [List.length_append]; have := HP.out.2.2.2.2.1; omega, HP.out.2.2.2.2.2.1, (fun _ => by first | exact HP.out.2.2.2.2.2.2.1 rfl | exact HP.out.2.2.2.2.2.2.1 trivial), fun r hr => by
        rcases List.mem_append.1 hr with hr | hr
        · exact HP.out.2.2.2.2.2.2.2 r hr
        · rw [List.mem_singleton.1 hr, ← HMB5.out]; exact hmb3⟩)
      first
        | exact ⟨rfl, ⟨false, gl, T, first, cut, safe, ff, _, _, _, hfin⟩, HBZ.out⟩
        | exact ⟨rfl, .inl ⟨gl, T, first, cut, safe, ff, _, _, _, hfin⟩, HBZ.out⟩
  · as_aux_lemma =>
      have HLZ := Lib.hid hL
      have HFU := Lib.hid (show n - 2 < secSum (al.drop first) + secN mb by rw [HP.out.2.2.1, HMB5.out]; exact hfull)
      clear hL hbt hO hp hva hfull
      go_wp2_with fail
      refine (room_any HT6.out (by have := HP.out.1; omega) HP.out.2.2.2.1 hn HP.out.2.2.2.2.2.2.2 Ab mb cb hmb3 HFU.out).mono ?_
      rintro e w7 ⟨rfl, hb7⟩
      go_wp2
      go_ret
      have hfin : StW B gt gd gl n (k + 1) T first cut safe ff w7 al sf us false := ⟨HT6.out.below_ hb7, HLZ.out.below hb7, by have := HP.out.2.1; omega, by have := HP.out.1; omega, HP.out.2.2.1, HP.out.2.2.2.1, HP.out.2.2.2.2.1, HP.out.2.2.2.2.2.1, (fun _ => by first | exact HP.out.2.2.2.2.2.2.1 rfl | exact HP.out.2.2.2.2.2.2.1 trivial), HP.out.2.2.2.2.2.2.2⟩
      have hBz := HB6.out.trans (hb7.mono (by have := HB6.out.size; omega))
      first
        | exact ⟨rfl, ⟨false, gl, T, first, cut, safe, ff, _, _, _, hfin⟩, hBz⟩
        | exact ⟨rfl, .inl ⟨gl, T, first, cut, safe, ff, _, _, _, hfin⟩, hBz⟩
  · as_aux_lemma =>
      have l3 : ∀ s : Later w6, s.val.cell? ⟨gt, 3, none⟩ = some (.slice A7 m d7) := Later.cell (hbt.cell 3)
      have HBT := Lib.hid hbt
      clear hbt
      go_upto_region 45 with fail
      clear c8
      have hgtl := HBT.out.lt
      have hngt : (Value.slice A7 m d7).ownBlock ≠ some gt := fun e => (hva gt e).2 rfl
      have hOW : OwnL rBs (fun y => p y ∨ w6.heap.size ≤ y) B 33 w6 (.slice A7 m d7) al := hO.monoW fun y hy _ => .inl hy
      have hown := hO.lt
      refine wp_seqB (fun y => y = gt ∨ some y = (Value.slice A7 m d7).ownBlock) 8 [6, 7, 8, 11] (by as_aux_lemma => kernel_rfl) (by as_aux_lemma => kernel_rfl) fun w7 hb7 => ?_
      refine seqB_pre 4 (by kernel_rfl) ?_
      simp only [List.take_succ_cons, List.take_zero, List.drop_succ_cons, List.drop_zero]
      repeat (go_big_quiet_step (fail))
      refine wpQuiet_nil ?_
      refine seqB_pre0 1 (by kernel_rfl) (by kernel_rfl) ?_
      simp only [List.take_succ_cons, List.take_zero, List.drop_succ_cons, List.drop_zero]
      repeat (go_big_quiet_step (fail))
      refine wpQuiet_nil ?_
      refine seqB_pre 1 (by kernel_rfl) ?_
      simp only [List.take_succ_cons, List.take_zero, List.drop_succ_cons, List.drop_zero]
      repeat (go_big_quiet_step (fail))
      refine wpQuiet_nil ?_
      refine seqB_wild0 hb7 rfl rfl fun K hK => ?_
      unfold Gives
      go_simp
      refine (copy_rb _ bl _ (RSl.below HR6.out hb7)).mono ?_
      rintro e w8 ⟨⟨v8, rfl, hv8⟩, hb8⟩
      refine ⟨_, rfl, hK _ _ (hb8) fun hb8' => ?_⟩
      clear hK
      clear K
      simp only [Act.put, List.setIfInBounds_toArray, List.set_cons_succ, List.set_cons_zero]
      obtain ⟨A8, q8, rfl, _⟩ := hv8.form
      rw [← HMB5.out] at hv8 ⊢
      refine seqB_wild0 hb8' rfl rfl fun K hK => ?_
      unfold Gives
      go_simp
      have hal : Below w8.heap.size w8 (w8.alloc (.cells #[.slice A8 mb q8] 33)) := (Below.refl _ _).alloc (Nat.le_refl _) _
      refine hK _ _ hal fun hb9 => ?_
      clear hK
      clear K
      simp only [Act.put, List.setIfInBounds_toArray, List.set_cons_succ, List.set_cons_zero]
      have hz7 := hb7.size
      have hz8 := hb8.size
      have hv9 : RB (fun y => (p y ∨ w6.heap.size ≤ y) ∧ some y ≠ (Value.slice A7 m d7).ownBlock) (w8.alloc (.cells #[.slice A8 mb q8] 33)) (.slice A8 mb q8) bl := (RSl.below hv8 hal).mono (by decide) fun y hy _ => ⟨.inr (by omega), fun e => by have := (hown y e.symm).2; omega⟩
      refine seqB_wild (Kp.of_below hb9) rfl rfl fun K hK => ?_
      refine gives_app0' (E := rBs) Try.rowBs (by decide) _ _ rfl (.slice A7 m d7) al _ rfl (hOW.below hb9) (some ⟨w8.heap.size, 0, none⟩) 1 [bl] [[.slice A8 mb q8]] rfl (show Rd _ 1 _ _ _ by simpa using Rd.new w8 33 1 1 #[.slice A8 mb q8] rfl) (Chunks.single (E := rBs) ⟨_, rfl, hv9⟩) ?_ ?_ (by have := hb9.size; have := HT6.out.base; omega) fun v' w9 hown9 hk9 hloc9 => ?_
      · show (al.length + 1) * 24 ≤ _
        have := HP.out.1
        omega
      · show al.length + 1 ≤ _
        have := HP.out.1
        omega
      have hkk9 : Kp (fun y => ¬ (y = gt ∨ some y = (Value.slice A7 m d7).ownBlock)) (w8.alloc (.cells #[.slice A8 mb q8] 33)) w9 := hk9.mono fun y hy e => hy (.inr e)
      refine hK _ _ (hkk9) fun hK9 => ?_
      clear hK
      clear K
      simp only [Act.put, List.setIfInBounds_toArray, List.set_cons_succ, List.set_cons_zero]
      refine seqB_pre 2 (by kernel_rfl) ?_
      simp only [List.take_succ_cons, List.take_zero, List.drop_succ_cons, List.drop_zero]
      repeat (go_big_quiet_step (fail))
      refine wpQuiet_nil ?_
      have kg9 := (HBT.out.below hb9 hgtl).kp hk9 (fun e => hngt e.symm)
      have fg9 := fun i => kg9.frozen i
      have c39 : w9.cell? ⟨gt, 3, none⟩ = some (.slice A7 m d7) := kg9.cell 3
      obtain ⟨A9, c9, rfl, _⟩ := hown9.form
      obtain ⟨mm, hmm⟩ : ∃ mm, mm = (al ++ [bl]).length := ⟨_, rfl⟩
      rw [← hmm] at hown9 hloc9 ⊢
      have HMM := Lib.hid hmm
      clear hmm
      refine seqB_wild hK9 rfl rfl fun K hK => ?_
      unfold Gives
      go_simp
      have hkp : Kp (fun y => ¬ (y = gt ∨ some y = (Value.slice A7 m d7).ownBlock)) w9 (w9.setCell ⟨gt, 3, none⟩ (.slice A9 mm c9)) := (Kp.refl _ _).setCell (fun _ h => h (.inl rfl)) _
      refine hK _ _ hkp fun hK10 => ?_
      clear hK
      clear K
      simp only [Act.put, List.setIfInBounds_toArray, List.set_cons_succ, List.set_cons_zero]
      refine seqB_nil ?_
      have hz9 := hb9.size
      have hkg : Kp (fun y => ¬ y = gt) w9 (w9.setCell ⟨gt, 3, none⟩ (.slice A9 mm c9)) := (Kp.refl _ _).setCell (fun _ h => h rfl) _
      have hlocz : (Value.slice A9 mm c9).ownBlock = (Value.slice A7 m d7).ownBlock ∨ ∃ y, (Value.slice A9 mm c9).ownBlock = some y ∧ w6.heap.size ≤ y := by
        rcases hloc9 with e | e
        · exact .inl e
        · exact .inr ⟨_, e, by omega⟩
      have hngz : ∀ y, (Value.slice A9 mm c9).ownBlock = some y → ¬ ff y ∧ y ≠ gt := by
        intro y hy
        rcases hlocz with e | ⟨y', e, hle⟩
        · exact hva y (e ▸ hy)
        · obtain rfl : y' = y := Option.some.inj (e.symm.trans hy)
          exact ⟨fun hf => by have := (HT6.out.fb _ hf).2; omega, fun e => by omega⟩
      have hOz := hown9.kp hkg (fun y hy => hy.elim (fun h => (hp y h).2) fun h e => by omega) (fun y hy => (hngz y hy).2)
      have hTz : TrM B gt gd gl n ff (w9.setCell ⟨gt, 3, none⟩ (.slice A9 mm c9)) (al ++ [bl]) first cut safe false false :=
        ⟨⟨_, _, kg9.set_ 3 (.slice A9 mm c9), hOz, fun y hy => hy.elim (hp y) fun h => ⟨fun hf => by have := (HT6.out.fb y hf).2; omega, fun e => by omega⟩, hngz⟩, HT6.out.base, fun y hy => by have := HT6.out.fb y hy; have := hK10.size; omega, HT6.out.fgt⟩
      have hLz := hL.kp hK10 fun y hy e => e.elim (fun e => HT6.out.fgt (e ▸ hy)) fun e => (hva y e.symm).1 hy
      have hBz := HB6.out.trans (hK10.below (by have := HT6.out.base; omega) fun y hy e => e.elim (fun e => by have := HT6.out.base; omega) fun e => by have := (hown y e.symm).1; omega)
      have hLz' : LogX ff (w9.setCell ⟨gt, 3, none⟩ (.slice A9 mm c9)) gl gd n T first cut sf (us ++ [bl]) true := hLz
      clear hLz
      have hLz := hLz'
      clear hLz'
      clear hOz hngz hlocz hkg hz9 hz7 hz8 hkp hK10 c39 fg9 kg9 hkk9
      generalize hwz : w9.setCell ⟨gt, 3, none⟩ (.slice A9 mm c9) = wz at hTz hLz hBz ⊢
      clear hwz hown9 hloc9 hk9 hK9 hv9 hb9 hal hb8' hv8 hb8 hown hOW hngt hgtl l3 hL
      have hbz : ∃ va, Blk wz gt 53 (trCs gd gl n va first first cut safe false false) := hTz.blk
      obtain ⟨vz, hbz⟩ := hbz
      have c8 : wz.cell? ⟨gt, 8, none⟩ = some (.bool false) := hbz.cell 8
      have fg := fun i => hbz.frozen i
      have HTZ := Lib.hid hTz
      have HLZ := Lib.hid hLz
      have HBZ := Lib.hid hBz
      have HBK := Lib.hid hbz
      clear hTz hLz hBz hbz
      go_upto_region 47 with fail
      have hkg : Kp (fun y => ¬ y = gt) wz (wz.setCell ⟨gt, 8, none⟩ (.bool true)) := (Kp.refl _ _).setCell (fun _ h => h rfl) _
      refine name_world (fun w11 => TrM B gt gd gl n ff w11 (al ++ [bl]) first cut safe true false ∧ LogX ff w11 gl gd n T first cut sf (us ++ [bl]) true ∧ Below B w w11 ∧ w11.cell? ⟨gt, 0, none⟩ = some (.pointer (some ⟨gd, 0, none⟩))) ⟨HTZ.out.re HBK.out hkg (HBK.out.set_ 8 (.bool true)), HLZ.out.kp hkg fun y hy e => HTZ.out.fgt (e ▸ hy), HBZ.out.trans (hkg.below (by have := HBK.out.lt; have := HTZ.out.base; omega) fun y hy e => by have := HTZ.out.base; omega), (HBK.out.set_ 8 (.bool true)).cell 0⟩ ?_
      clear HTZ HLZ HBZ HBK hkg c8 fg
      rintro w11 ⟨hTz, hLz, hBz, c0⟩
      have HTZ := Lib.hid hTz
      have HLZ := Lib.hid hLz
      have HBZ := Lib.hid hBz
      clear hTz hLz hBz
      go_wp2_with fail
      refine (down_opX HLZ.out).mono ?_
      rintro e w12 ⟨rfl, rfl⟩
      go_wp2
      go_ret
      have hfin := (show StW B gt gd gl n (k + 1) T first cut safe ff _ (al ++ [bl]) sf (us ++ [bl]) _ from ⟨HTZ.out, HLZ.out, by have := HP.out.2.1; omega, by rw [List.length_append]; have := HP.out.1; simp; omega, by rw [List.drop_append_of_le_length HP.out.2.2.2.1, HP.out.2.2.1, List.append_assoc], by rw [List.length_append]; have := HP.out.2.2.2.1; omega, by rw [List.length_append]; have := HP.out.2.2.2.2.1; omega, HP.out.2.2.2.2.2.1, (fun e => by cases e), fun r hr => by
        rcases List.mem_append.1 hr with hr | hr
        · exact HP.out.2.2.2.2.2.2.2 r hr
        · rw [List.mem_singleton.1 hr, ← HMB5.out]; exact hmb3⟩)
      first
        | exact ⟨rfl, ⟨true, gl, T, first, cut, safe, ff, _, _, _, hfin⟩, HBZ.out⟩
        | exact ⟨rfl, .inr ⟨gl, T, first, cut, safe, ff, _, _, _, hfin⟩, HBZ.out⟩
end Go.Proofs.Ytlnnfdjhejdgdaa

namespace Go.Proofs.Ytlnnfdjhejdgdaa
open Go.RowKit

theorem step_W {B gt gd n k : Nat} {w : World} {dn : Bool} (h : StP B gt gd n k w dn) (hk : k ≤ 100) (hn : n ≤ 65536) (o : OpD) (vb vk : Value) (hb : RB (fun x => x < B) w vb o.b) (hkp : RSl rInt (fun x => x < B) w vk o.keep) (hN : I64 o.n) :
    Calls Try.prog 24 #[.pointer (some ⟨gt, 0, none⟩), .agg #[.int .i64 o.kind, .int .i64 o.n, vb, vk]] w fun e w' => e = .returned (.bool true) ∧ (∃ dn', StP B gt gd n (k + 1) w' dn') ∧ Below B w w' := by
  obtain ⟨gl, T, first, cut, safe, f, al, sf, us, h⟩ := h
  by_cases h1 : o.kind = 1
  · rw [h1]; exact step_sync h (by omega) o.n vb vk hb.one hkp.one
  by_cases h2 : o.kind = 2
  · rw [h2]; exact step_cut h hk o.n hN vb vk hb.one hkp.one
  by_cases h3 : o.kind = 3
  · rw [h3]; exact step_arm h o.n hN vb vk hb.one hkp.one
  by_cases h4 : o.kind = 4
  · rw [h4]; exact step_crash h hk o.n vb vk o.keep hkp hb.one hkp.one
  by_cases h5 : o.kind = 5
  · rw [h5]; exact step_open h hk o.n vb vk hb.one hkp.one
  · exact step_app h hk hn o.kind o.n (by rintro (h | h | h | h | h) <;> contradiction) vb vk o.b hb hkp.one
section
variable {B gt gd n k : Nat} {w w' : World} {dn : Bool}
theorem StP.below (h : StP B gt gd n k w dn) (hb : Below w.heap.size w w') : StP B gt gd n k w' dn := by
  obtain ⟨gl, T, first, cut, safe, f, al, sf, us, h⟩ := h
  exact ⟨gl, T, first, cut, safe, f, al, sf, us, h.below hb⟩
theorem StP.down (h : StP B gt gd n k w dn) : Calls Try.prog 23 #[.pointer (some ⟨gd, 0, none⟩)] w fun e w' => e = .returned (.bool dn) ∧ w' = w := by
  obtain ⟨gl, T, first, cut, safe, f, al, sf, us, h⟩ := h
  exact down_opX h.lg
theorem StP.told (h : StP B gt gd n k w false) (hk : k ≤ 1000) : Calls Try.prog 25 #[.pointer (some ⟨gt, 0, none⟩)] w fun e w' => e = .returned (.bool true) ∧ Below w.heap.size w w' := by
  obtain ⟨gl, T, first, cut, safe, f, al, sf, us, h⟩ := h
  exact told_any h.tr h.lg (by have := h.len; omega) h.fi h.drop
theorem StP.arm (h : StP B gt gd n k w dn) (x : Int) (hx : I64 x) : Calls Try.prog 26 #[.pointer (some ⟨gd, 0, none⟩), .int .i64 x] w fun e w' => e = .returned (.int .i64 0) ∧ StP B gt gd n k w' dn ∧ Below B w w' := by
  obtain ⟨gl, T, first, cut, safe, f, al, sf, us, h⟩ := h
  refine (arm_opX h.lg x hx).mono ?_
  rintro e w' ⟨rfl, hL, hK⟩
  exact ⟨rfl, ⟨gl, T, first, cut, safe, f, al, sf, us, h.tr.kp hK, hL, h.turn, h.len, h.drop, h.fi, h.ct, h.sa, h.cf, h.rs⟩, h.kpB hK⟩
theorem StP.open_ (h : StP B gt gd n k w dn) (hk : k ≤ 100) : Calls Try.prog 27 #[.pointer (some ⟨gt, 0, none⟩)] w fun e w' => e = .returned (.bool true) ∧ StP B gt gd n (k + 1) w' false ∧ Below B w w' := by
  obtain ⟨gl, T, first, cut, safe, f, al, sf, us, h⟩ := h
  exact topen_W h hk
theorem StP.cells (h : StP B gt gd n k w dn) : w.cell? ⟨gt, 0, none⟩ = some (.pointer (some ⟨gd, 0, none⟩)) ∧ w.cell? ⟨gt, 8, none⟩ = some (.bool dn) ∧ w.frozen? ⟨gt, 8, none⟩ = false := by
  obtain ⟨gl, T, first, cut, safe, f, al, sf, us, h⟩ := h
  obtain ⟨va, hb⟩ := h.tr.blk
  exact ⟨hb.cell 0, hb.cell 8, hb.frozen 8⟩
theorem StP.size (h : StP B gt gd n k w dn) : B ≤ w.heap.size := by
  obtain ⟨gl, T, first, cut, safe, f, al, sf, us, h⟩ := h
  exact h.size
/-- down, which it is, is written once more -/
theorem StP.again (h : StP B gt gd n k w true) : StP B gt gd n k (w.setCell ⟨gt, 8, none⟩ (.bool true)) true ∧ Below B w (w.setCell ⟨gt, 8, none⟩ (.bool true)) := by
  obtain ⟨gl, T, first, cut, safe, f, al, sf, us, h⟩ := h
  obtain ⟨va, hb⟩ := h.tr.blk
  have hkg : Kp (fun y => ¬ y = gt) w (w.setCell ⟨gt, 8, none⟩ (.bool true)) := (Kp.refl _ _).setCell (fun _ h => h rfl) _
  exact ⟨⟨gl, T, first, cut, safe, f, al, sf, us, h.tr.re hb hkg (hb.set_ 8 (.bool true)), h.lg.kp hkg fun y hy e => h.tr.fgt (e ▸ hy), h.turn, h.len, h.drop, h.fi, h.ct, h.sa, h.cf, h.rs⟩, (Below.refl _ _).setCell h.tr.base _⟩
end
theorem begin_W (n : Nat) (h1 : 3 ≤ n) (h2 : n ≤ 65536) (w : World) :
    Calls Try.prog 22 #[.int .i64 (n : Int)] w fun e w' => (∃ gt gd, e = .returned (.pointer (some ⟨gt, 0, none⟩)) ∧ StP w.heap.size gt gd n 0 w' false) ∧ Below w.heap.size w w' := by
  refine (begin_any n h1 h2 w).mono ?_
  rintro e w' ⟨⟨gt, gd, gl, f, rfl, ht, hl⟩, hB⟩
  exact ⟨⟨gt, gd, rfl, gl, 1, 0, 0, 0, f, [], [], [], ht, hl, by omega, by simp, rfl, by simp, by simp, by simp, fun _ => rfl, fun r hr => by cases hr⟩, hB⟩
end Go.Proofs.Ytlnnfdjhejdgdaa
