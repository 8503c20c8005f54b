/- armoirelaw06.WalSafe: the walk. -/
import Derived.Test.YtlnnfdjhejdgdaaW35
import Derived.Test.YtlnnfdjhejdgdaaV6
import Derived.Test.YtlnnfdjhejdgdaaV12
import Derived.Test.YtlnnfdjhejdgdaaOpL
import Derived.Deep.DeepCutAuto
namespace Go.Proofs.Ytlnnfdjhejdgdaa
open Go.RowKit

set_option maxRecDepth 100000 in
set_option maxHeartbeats 6400000 in
theorem lawWalSafe (v0 v1 v2 : Value) (la lb : List (List UInt8)) (keep : List Int) (w : World) (h0 : RSl rBs (fun b => b < w.heap.size) w v0 la) (h1 : RSl rBs (fun b => b < w.heap.size) w v1 lb) (h2 : RSl rInt (fun b => b < w.heap.size) w v2 keep) :
    Calls Try.prog 6 #[v0, v1, v2] w fun e w' => e = .returned (.bool true) ∧ Below w.heap.size w w' := by
  obtain ⟨A0, c0, rfl, hc0, hsl0⟩ := h0.form
  obtain ⟨A1, c1, rfl, hc1, hsl1⟩ := h1.form
  obtain ⟨A2, c2, rfl, hc2, hsl2⟩ := h2.form
  have hmf : ∀ (fn : Fn) (first cap : Array Value) (w : World), (Instr.makeFunc fn first cap).run Try.prog w = .ok (.func fn first cap) w := fun _ _ _ _ => rfl
  go_enter Try.func6, Try.ntmps6
  go_wp2_with fail
  refine (dNew_any 4000 (by omega) (by omega) w).mono ?_
  rintro e w1 ⟨⟨gd, rfl, hgd, hD1⟩, hb1⟩
  have HOP := Lib.hid (open_newS (n := 4000) (by omega) (by omega) (hD1.mono (ft' := fun x => w.heap.size ≤ x ∧ x < w1.heap.size) fun x hx hlt => ⟨hx, hlt⟩) (fun x hx => hx.2))
  clear hD1
  go_wp2_with fail
  refine HOP.out.mono ?_
  rintro e w2 ⟨⟨gl, rfl, hL2⟩, hK2⟩
  have hb2 : Below w.heap.size w w2 := hb1.trans (hK2.below hb1.size fun x hx h => by omega)
  clear HOP hK2
  have hz1 := hb1.size
  have hL2' : LogS (fun x => w.heap.size ≤ x ∧ x < w2.heap.size) w2 gl gd 4000 1 0 [] [] := hL2.mono fun x hx hlt => ⟨by omega, hlt⟩
  clear hL2
  go_upto_region 3 with fail
  refine name_world (fun w3 => Below w2.heap.size w2 w3 ∧ Blk w3 w2.heap.size 27 #[.pointer (some ⟨gl, 0, none⟩)]) ⟨(Below.refl _ _).alloc (Nat.le_refl _) _, Blk.new _ _ _⟩ ?_
  rintro w3 ⟨hb3, kbl3⟩
  obtain ⟨bl, hble⟩ : ∃ bl, bl = w2.heap.size := ⟨_, rfl⟩
  rw [← hble] at kbl3 ⊢
  have HBL := Lib.hid hble
  clear hble
  have c3 : w3.cell? ⟨bl, 0, none⟩ = some (.pointer (some ⟨gl, 0, none⟩)) := kbl3.cell 0
  go_wp2_with fail
  refine (awake_any w3).mono ?_
  rintro e w4 ⟨rfl, hb4⟩
  have kbl4 := kbl3.below hb4 kbl3.lt
  have c4 : w4.cell? ⟨bl, 0, none⟩ = some (.pointer (some ⟨gl, 0, none⟩)) := kbl4.cell 0
  clear c3
  go_upto_region 6 with fail
  refine name_world (fun w5 => Below w4.heap.size w4 w5 ∧ Blk w5 w4.heap.size 36 #[.slice none 0 0]) ⟨(Below.refl _ _).alloc (Nat.le_refl _) _, Blk.new _ _ _⟩ ?_
  rintro w5 ⟨hb5, kba5⟩
  obtain ⟨ba, hbae⟩ : ∃ ba, ba = w4.heap.size := ⟨_, rfl⟩
  rw [← hbae] at kba5 ⊢
  have hz2 := hb2.size
  have hz3 := hb3.size
  have hz4 := hb4.size
  have hz5 := hb5.size
  have hlb := kbl3.lt
  have HBA := Lib.hid hbae
  have hP5 : PutS w.heap.size bl ba gl gd 1 w5 [] [] := by
    refine ⟨_, .slice none 0 0, ((hL2'.below hb3).below hb4).below hb5, kbl4.below hb5 kbl4.lt, kba5, OwnL.nil_ _ _ _ _ _, fun x hx => ⟨hx.1, by omega⟩, fun h => by have := HBL.out; omega, fun h => by omega, by omega, by have := HBL.out; omega, by omega, (fun x hx => by cases hx), (fun r hr => by cases hr)⟩
  have hB5 : Below w.heap.size w w5 := ((hb2.trans (hb3.mono hz2)).trans (hb4.mono (by omega))).trans (hb5.mono (by omega))
  have HP5 := Lib.hid hP5
  clear hP5 hbae c4 kbl4 kbl3 kba5 hL2'
  have HPA := Lib.hid (put_any HP5.out hB5.size (by decide) _ la (h0.kp (kp_below hB5)))
  go_upto_region 7 with fail
  go_wp2_with fail
  refine HPA.out.mono ?_
  rintro e w6 ⟨rfl, hP6, hb6⟩
  have hB6 : Below w.heap.size w w6 := hB5.trans hb6
  obtain ⟨ra, hra⟩ : ∃ ra, ra = trim la (min 12 la.length) := ⟨_, rfl⟩
  have hra12 : ra.length ≤ 12 := by rw [hra, trim_len _ (Nat.min_le_right _ _)]; exact Nat.min_le_left _ _
  rw [List.nil_append, ← hra] at hP6
  have HP6 := Lib.hid hP6
  have c6 : w6.cell? ⟨bl, 0, none⟩ = some (.pointer (some ⟨gl, 0, none⟩)) := by
    obtain ⟨f, va, _, h2, _⟩ := hP6
    exact h2.cell 0
  have HS := Lib.hid (sync_opP HP6.out hB6.size)
  clear HPA hP6 hb6 hra
  go_wp2_with fail
  refine HS.out.mono ?_
  rintro e w7 ⟨rfl, hP7, hb7⟩
  rw [List.nil_append] at hP7
  have hB7 : Below w.heap.size w w7 := hB6.trans hb7
  clear HS hb7 c6
  obtain ⟨f7, hL7, hR7⟩ := hP7.parts
  obtain ⟨A7, d7, c7, hlt7, hd7, hsl7⟩ := hR7.read (by rw [List.append_nil]; omega)
  rw [List.append_nil] at c7 hd7
  have HP7 := Lib.hid hP7
  clear hL7 hR7 hsl7 hP7
  go_upto_region 10 with fail
  clear c7 hlt7 hd7
  have HPB := Lib.hid (put_any HP7.out hB7.size (by rw [List.length_nil]; omega) _ lb (h1.kp (kp_below hB7)))
  go_wp2_with fail
  refine HPB.out.mono ?_
  rintro e w8 ⟨rfl, hP8, hb8⟩
  have hB8 : Below w.heap.size w w8 := hB7.trans hb8
  obtain ⟨rb, hrb⟩ : ∃ rb, rb = trim lb (min 12 lb.length) := ⟨_, rfl⟩
  have hrb12 : rb.length ≤ 12 := by rw [hrb, trim_len _ (Nat.min_le_right _ _)]; exact Nat.min_le_left _ _
  rw [List.nil_append, ← hrb] at hP8
  obtain ⟨f8, hL8, hR8⟩ := hP8.parts
  have hk8 := h2.kp (kp_below hB8)
  have HCR := Lib.hid (crash_opS hL8 _ keep hk8 (fun b hb hf => by have := hR8.lt.2 b hf; omega))
  have HR8 := Lib.hid hR8
  clear HPB hP8 hb8 hrb hL8 hR8 hk8
  go_wp2_with fail
  refine HCR.out.mono ?_
  rintro e w9 ⟨rfl, ⟨dd, st, nx, rs, hD9, hI9, hrs9⟩, hK9⟩
  have hR9 := HR8.out.kp hK9
  have hB9 : Below w.heap.size w w9 := hB8.trans (hK9.below hB8.size fun y hy hf => by have := HR8.out.lt.2 y hf; omega)
  have HST := Lib.hid (start_opS ⟨dd, keep, st, nx, rs, hD9, hI9, hrs9⟩)
  have HR9 := Lib.hid hR9
  clear HCR hR9 hD9 hI9 hrs9 hK9
  go_wp2_with fail
  refine HST.out.mono ?_
  rintro e w10 ⟨rfl, hD10, hK10⟩
  have hR10 := HR9.out.kp hK10
  have hB10 : Below w.heap.size w w10 := hB9.trans (hK10.below hB9.size fun y hy hf => by have := HR9.out.lt.2 y hf; omega)
  have HOP := Lib.hid (open_opI hD10 (by omega) hR10.lt.1)
  have HR10 := Lib.hid hR10
  clear HST hR10 hD10 hK10
  go_wp2_with fail
  refine HOP.out.mono ?_
  rintro e w11 ⟨⟨g2, m, hm, rfl, hL11⟩, hK11⟩
  have hR11 := HR10.out.grow hK11 hB10.size
  have hB11 : Below w.heap.size w w11 := hB10.trans (hK11.below hB10.size fun y hy hf => by have := HR10.out.lt.2 y hf; omega)
  obtain ⟨al, hal⟩ : ∃ al, al = ra ++ rb := ⟨_, rfl⟩
  obtain ⟨R, hR⟩ : ∃ R, R = ra ++ rb.take m := ⟨_, rfl⟩
  obtain ⟨sN, hsN⟩ : ∃ sN, sN = ra.length := ⟨_, rfl⟩
  obtain ⟨q, hq⟩ : ∃ q, q = ra.length + m := ⟨_, rfl⟩
  have hRq : R = al.take q := by rw [hR, hal, hq, List.take_length_add_append]
  have hRl : R.length = q := by rw [hR, hq, List.length_append, List.length_take]; omega
  have hall : al.length = ra.length + rb.length := by rw [hal, List.length_append]
  obtain ⟨L, hL⟩ : ∃ L, L = al.length := ⟨_, rfl⟩
  rw [← hR] at hL11
  rw [← hal] at hR11
  rw [← hsN]
  have hqs : sN ≤ q ∧ q ≤ L ∧ L ≤ 24 := by omega
  have hLU := hL11.u
  rw [List.append_nil] at hLU
  have HF1 := Lib.hid (fun (w' : World) (hb : Below w11.heap.size w11 w') => first_opU (hLU.below hb))
  have HF2 := Lib.hid (fun (w' : World) (hb : Below w11.heap.size w11 w') => next_opU (hLU.below hb))
  have HF3 := Lib.hid (fun (w' : World) (hb : Below w11.heap.size w11 w') => records_opU (hLU.below hb))
  rw [hRl, Nat.zero_add] at HF2
  obtain ⟨A7, d7, c11, hlt11, hd7, hsl7⟩ := hR11.read (by omega)
  rw [← hL] at c11 hsl7 hd7
  have hq1 : sN ≤ q := hqs.1
  have hq2 : q ≤ L := hqs.2.1
  have hq3 : L ≤ 24 := hqs.2.2
  have htk : RSl rBs (fun _ => True) w11 (.slice A7 q d7) R := by rw [hRq]; exact hsl7.take hq2
  have HTK := Lib.hid htk
  have HRL := Lib.hid hRl
  have HRQ := Lib.hid hRq
  have HAL := Lib.hid hL
  have HR11 := Lib.hid hR11
  have HL11 := Lib.hid hL11
  clear hal hR hsN hq hRq hRl hall hL hqs hLU hsl7 htk HOP hL11 hR11 hK11 hra12 hrb12 hm
  go_upto_region 15 with fail
  go_wp2_with fail
  refine (HF2.out _ (Below.refl _ _)).mono ?_
  rintro e w12 ⟨rfl, hb12⟩
  have l12 : ∀ s : Later w12, s.val.cell? ⟨ba, 0, none⟩ = some (.slice A7 L d7) := Later.cell ((hb12.cell (p := ⟨ba, 0, none⟩) hlt11).trans c11)
  have z1 : decide ((q : Int) < (sN : Int)) = false := decide_eq_false (by omega)
  have z2 : decide (q < sN) = false := decide_eq_false (by omega)
  have z3 : decide ((q : Int) > (L : Int)) = false := decide_eq_false (by omega)
  have z4 : decide (L < q) = false := decide_eq_false (by omega)
  have z5 : decide ((L : Int) < (q : Int)) = false := decide_eq_false (by omega)
  go_upto_region 16 with fail
  go_cut [101] (fun v wx => v = .bool false ∧ Below w12.heap.size w12 wx)
  case first =>
    refine wp_seqL [11, 16, 20] (by as_aux_lemma => kernel_rfl) (by as_aux_lemma => kernel_rfl) fun w13 hb13 => ?_
    refine seqL_pre 11 (by kernel_rfl) ?_
    simp only [List.take_succ_cons, List.take_zero, List.drop_succ_cons, List.drop_zero]
    repeat (go_big_quiet_step (fail))
    refine wpQuiet_nil ?_
    refine seqL_wild hb13 rfl rfl fun K hK => ?_
    unfold Gives
    go_simp
    refine (HF1.out _ (hb12.trans (hb13.mono hb12.size))).mono ?_
    rintro e w14 ⟨rfl, rfl⟩
    refine ⟨_, rfl, hK _ _ ((Below.refl _ _)) fun hb14 => ?_⟩
    clear hK
    clear K
    simp only [Act.put, List.setIfInBounds_toArray, List.set_cons_succ, List.set_cons_zero]
    refine seqL_pre 4 (by kernel_rfl) ?_
    simp only [List.take_succ_cons, List.take_zero, List.drop_succ_cons, List.drop_zero]
    repeat (go_big_quiet_step (fail))
    refine wpQuiet_nil ?_
    refine seqL_wild hb14 rfl rfl fun K hK => ?_
    unfold Gives
    go_simp
    refine (HF3.out _ (hb12.trans (hb14.mono hb12.size))).mono ?_
    rintro e w15 ⟨⟨vr, rfl, hR15⟩, hbb15⟩
    refine ⟨_, rfl, hK _ _ (hbb15) fun hb15 => ?_⟩
    clear hK
    clear K
    simp only [Act.put, List.setIfInBounds_toArray, List.set_cons_succ, List.set_cons_zero]
    refine seqL_pre 3 (by kernel_rfl) ?_
    simp only [List.take_succ_cons, List.take_zero, List.drop_succ_cons, List.drop_zero]
    repeat (go_big_quiet_step (fail))
    refine wpQuiet_nil ?_
    refine seqL_wild hb15 rfl rfl fun K hK => ?_
    unfold Gives
    go_simp
    refine (sameBs_any _ _ _ _ _ hR15 (HTK.out.below (hb12.trans (hb15.mono hb12.size)))).mono ?_
    rw [decide_eq_true (rfl : R = R)]
    rintro e w16 ⟨rfl, hbb16⟩
    refine ⟨_, rfl, hK _ _ (hbb16) fun hb16 => ?_⟩
    clear hK
    clear K
    simp only [Act.put, List.setIfInBounds_toArray, List.set_cons_succ, List.set_cons_zero]
    refine seqL_pre 2 (by kernel_rfl) ?_
    simp only [List.take_succ_cons, List.take_zero, List.drop_succ_cons, List.drop_zero]
    repeat (go_big_quiet_step (fail))
    refine wpQuiet_nil ?_
    refine seqL_nil ?_
    go_wp2
    go_meet
    exact ⟨rfl, hb16⟩
  obtain ⟨rfl, hb13⟩ := hcut
  obtain ⟨w13, rfl⟩ : ∃ w13, w13 = wc := ⟨_, rfl⟩
  have hb113 := hb12.trans (hb13.mono hb12.size)
  have hL13 := HL11.out.below hb113
  have hR13 := HR11.out.below hb113
  have hB13 : Below w.heap.size w w13 := hB11.trans (hb113.mono hB11.size)
  have HCR := Lib.hid (crash_opS (okk := fun _ => False) hL13 (.slice none 0 0) [] (RSl.nil_ _ _ _) (fun _ h => h.elim))
  have HR13 := Lib.hid hR13
  clear hL13 hR13 HF1 HF2 HF3 l12 c11 z1 z2 z3 z4 z5 hlt11 hd7
  go_wp2_with fail
  refine HCR.out.mono ?_
  rintro e w14 ⟨rfl, ⟨dd2, st2, nx2, rs2, hD14, hI14, hrs14⟩, hK14⟩
  have hR14 := HR13.out.kp hK14
  have hB14 : Below w.heap.size w w14 := hB13.trans (hK14.below hB13.size fun y hy hf => by have := HR13.out.lt.2 y hf; omega)
  have HST := Lib.hid (start_opS ⟨dd2, [], st2, nx2, rs2, hD14, hI14, hrs14⟩)
  have HR14 := Lib.hid hR14
  clear HCR hR14 hD14 hI14 hrs14 hK14
  go_wp2_with fail
  refine HST.out.mono ?_
  rintro e w15 ⟨rfl, hD15, hK15⟩
  have hR15 := HR14.out.kp hK15
  have hB15 : Below w.heap.size w w15 := hB14.trans (hK15.below hB14.size fun y hy hf => by have := HR14.out.lt.2 y hf; omega)
  have HOP := Lib.hid (open_opI hD15 (by omega) hR15.lt.1)
  have HR15 := Lib.hid hR15
  clear HST hR15 hD15 hK15
  go_wp2_with fail
  refine HOP.out.mono ?_
  rintro e w16 ⟨⟨g3, m3, hm3, rfl, hL16⟩, hK16⟩
  have hR16 := HR15.out.grow hK16 hB15.size
  have hB16 : Below w.heap.size w w16 := hB15.trans (hK16.below hB15.size fun y hy hf => by have := HR15.out.lt.2 y hf; omega)
  have hLU := hL16.u
  rw [List.take_nil, List.append_nil, List.append_nil] at hLU
  have HF2 := Lib.hid (fun (w' : World) (hb : Below w16.heap.size w16 w') => next_opU (hLU.below hb))
  have HF3 := Lib.hid (fun (w' : World) (hb : Below w16.heap.size w16 w') => records_opU (hLU.below hb))
  have hRl := HRL.out
  have hAl := HAL.out
  rw [hRl, Nat.zero_add] at HF2
  obtain ⟨A8, d8, c16, hlt16, hd8, hsl8⟩ := hR16.read (by omega)
  rw [← hAl] at c16 hsl8 hd8
  have htk : RSl rBs (fun _ => True) w16 (.slice A8 q d8) R := by rw [HRQ.out]; exact hsl8.take hq2
  have HTK2 := Lib.hid htk
  have l16 : ∀ s : Later w16, s.val.cell? ⟨ba, 0, none⟩ = some (.slice A8 L d8) := Later.cell c16
  have z1 : decide ((q : Int) ≤ (q : Int)) = true := decide_eq_true (by omega)
  have z2 : decide ((sN : Int) ≤ (q : Int)) = true := decide_eq_true (by omega)
  have z3 : decide ((q : Int) ≥ (sN : Int)) = true := decide_eq_true (by omega)
  have z4 : decide (sN ≤ q) = true := decide_eq_true (by omega)
  clear hLU hRl hAl hsl8 htk HOP hK16 hL16 c16 hR16 hm3
  go_upto_region 21 with fail
  refine wp_seqL [8, 15, 22, 25, 27] (by as_aux_lemma => kernel_rfl) (by as_aux_lemma => kernel_rfl) fun w17 hb17 => ?_
  refine seqL_pre 8 (by kernel_rfl) ?_
  simp only [List.take_succ_cons, List.take_zero, List.drop_succ_cons, List.drop_zero]
  repeat (go_big_quiet_step (fail))
  refine wpQuiet_nil ?_
  refine seqL_wild hb17 rfl rfl fun K hK => ?_
  unfold Gives
  go_simp
  refine (HF2.out _ hb17).mono ?_
  rintro e w18 ⟨rfl, hbb18⟩
  refine ⟨_, rfl, hK _ _ (hbb18) fun hb18 => ?_⟩
  clear hK
  clear K
  simp only [Act.put, List.setIfInBounds_toArray, List.set_cons_succ, List.set_cons_zero]
  refine seqL_pre 6 (by kernel_rfl) ?_
  simp only [List.take_succ_cons, List.take_zero, List.drop_succ_cons, List.drop_zero]
  repeat (go_big_quiet_step (fail))
  refine wpQuiet_nil ?_
  refine seqL_wild hb18 rfl rfl fun K hK => ?_
  unfold Gives
  go_simp
  refine (HF2.out _ hb18).mono ?_
  rintro e w19 ⟨rfl, hbb19⟩
  refine ⟨_, rfl, hK _ _ (hbb19) fun hb19 => ?_⟩
  clear hK
  clear K
  simp only [Act.put, List.setIfInBounds_toArray, List.set_cons_succ, List.set_cons_zero]
  refine seqL_pre 6 (by kernel_rfl) ?_
  simp only [List.take_succ_cons, List.take_zero, List.drop_succ_cons, List.drop_zero]
  repeat (go_big_quiet_step (fail))
  refine wpQuiet_nil ?_
  refine seqL_wild hb19 rfl rfl fun K hK => ?_
  unfold Gives
  go_simp
  refine (HF3.out _ hb19).mono ?_
  rintro e w20 ⟨⟨vr, rfl, hR20⟩, hbb20⟩
  refine ⟨_, rfl, hK _ _ (hbb20) fun hb20 => ?_⟩
  clear hK
  clear K
  simp only [Act.put, List.setIfInBounds_toArray, List.set_cons_succ, List.set_cons_zero]
  refine seqL_pre 2 (by kernel_rfl) ?_
  simp only [List.take_succ_cons, List.take_zero, List.drop_succ_cons, List.drop_zero]
  repeat (go_big_quiet_step (fail))
  refine wpQuiet_nil ?_
  refine seqL_wild hb20 rfl rfl fun K hK => ?_
  unfold Gives
  go_simp
  refine (HF2.out _ hb20).mono ?_
  rintro e w21 ⟨rfl, hbb21⟩
  refine ⟨_, rfl, hK _ _ (hbb21) fun hb21 => ?_⟩
  clear hK
  clear K
  simp only [Act.put, List.setIfInBounds_toArray, List.set_cons_succ, List.set_cons_zero]
  refine seqL_pre 1 (by kernel_rfl) ?_
  simp only [List.take_succ_cons, List.take_zero, List.drop_succ_cons, List.drop_zero]
  repeat (go_big_quiet_step (fail))
  refine wpQuiet_nil ?_
  refine seqL_wild hb21 rfl rfl fun K hK => ?_
  unfold Gives
  go_simp
  refine (sameBs_any _ _ _ _ _ (hR20.below hbb21) (HTK2.out.below hb21)).mono ?_
  rw [decide_eq_true (rfl : R = R)]
  rintro e w22 ⟨rfl, hbb22⟩
  refine ⟨_, rfl, hK _ _ (hbb22) fun hb22 => ?_⟩
  clear hK
  clear K
  simp only [Act.put, List.setIfInBounds_toArray, List.set_cons_succ, List.set_cons_zero]
  refine seqL_pre 2 (by kernel_rfl) ?_
  simp only [List.take_succ_cons, List.take_zero, List.drop_succ_cons, List.drop_zero]
  repeat (go_big_quiet_step (fail))
  refine wpQuiet_nil ?_
  refine seqL_nil ?_
  go_wp2
  go_ret
  exact ⟨rfl, hB16.trans (hb22.mono hB16.size)⟩
end Go.Proofs.Ytlnnfdjhejdgdaa
