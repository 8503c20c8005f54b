/- armoirelaw06.WalSame: the walk. -/
import Derived.Test.YtlnnfdjhejdgdaaW35
import Derived.Test.YtlnnfdjhejdgdaaV6
import Derived.Test.YtlnnfdjhejdgdaaV7
import Derived.Test.YtlnnfdjhejdgdaaOpL
import Derived.Deep.DeepCutAuto
import Derived.Lib.MinMax
namespace Go.Proofs.Ytlnnfdjhejdgdaa
open Go.RowKit

theorem uwrap_mod4 (k : Int) : ∃ j : Nat, j < 4 ∧ wrap64 ((IntKind.u64.wrap k).tmod 4) = (j : Int) := by
  have hw : 0 ≤ IntKind.u64.wrap k := by rw [IntKind.wrap_u64]; omega
  rw [Int.tmod_eq_emod_of_nonneg hw]
  generalize IntKind.u64.wrap k = x at hw
  exact ⟨(x % 4).toNat, by omega, by rw [IntWalk.wrap64_in _ (by omega)]; omega⟩
theorem secSum_leq (c : Nat) : ∀ rs : List (List UInt8), (∀ r ∈ rs, r.length ≤ c) → secSum rs ≤ secN c * rs.length
  | [], _ => Nat.le_refl _
  | r :: rs, h => by
    have h1 := secSum_leq c rs fun x hx => h x (List.mem_cons_of_mem _ hx)
    have h2 : secN r.length ≤ secN c := by have := h r (by simp); unfold secN; omega
    have h3 : secSum (r :: rs) = secN r.length + secSum rs := by simp [secSum]
    rw [h3, List.length_cons, Nat.mul_succ]
    omega
set_option maxRecDepth 100000 in
set_option maxHeartbeats 6400000 in
theorem lawWalSame (v0 v1 v2 : Value) (ls : List (List UInt8)) (ss : List Bool) (cs : List Int) (w : World) (h0 : RSl rBs (fun b => b < w.heap.size) w v0 ls) (h1 : RSl rBool (fun b => b < w.heap.size) w v1 ss) (h2 : RSl rInt (fun b => b < w.heap.size) w v2 cs) :
    Calls Try.prog 5 #[v0, v1, v2] w fun e w' => e = .returned (.bool true) ∧ Below w.heap.size w w' := by
  obtain ⟨A0, c0, rfl, hc0, hsl0⟩ := h0.form
  obtain ⟨A1, c1, rfl, hc1, hsl1⟩ := h1.form
  obtain ⟨A2, c2, rfl, hc2, hsl2⟩ := h2.form
  obtain ⟨n0, hn0⟩ : ∃ n, n = ls.length := ⟨_, rfl⟩
  obtain ⟨n1, hn1⟩ : ∃ n, n = ss.length := ⟨_, rfl⟩
  obtain ⟨n2, hn2⟩ : ∃ n, n = cs.length := ⟨_, rfl⟩
  rw [show rBs.wt = 24 from rfl, ← hn0] at hsl0
  rw [show rBool.wt = 1 from rfl, ← hn1] at hsl1
  rw [show rInt.wt = 8 from rfl, ← hn2] at hsl2
  rw [← hn0] at hc0
  rw [← hn1] at hc1
  rw [← hn2] at hc2
  rw [← hn0, ← hn1, ← hn2]
  have HN0 := Lib.hid hn0
  have HN1 := Lib.hid hn1
  have HN2 := Lib.hid hn2
  clear hn0 hn1 hn2
  go_enter Try.func5, Try.ntmps5
  go_wp2_with fail
  refine (dNew_any 3000 (by omega) (by omega) w).mono ?_
  rintro e w1 ⟨⟨gd, rfl, hgd, hD1⟩, hb1⟩
  have HOP := Lib.hid (open_newU (n := 3000) (by omega) (by omega) (hD1.mono (ft' := fun x => w.heap.size ≤ x ∧ x < w1.heap.size) fun x hx hlt => ⟨hx, hlt⟩) (fun x hx => hx.2))
  clear hD1
  go_wp2_with fail
  refine HOP.out.mono ?_
  rintro e w2 ⟨⟨gl, rfl, hL2⟩, hK2⟩
  have hb2 : Below w.heap.size w w2 := hb1.trans (hK2.below hb1.size fun x hx h => by omega)
  clear HOP hK2
  have hz1 := hb1.size
  have hL2' : LogU (fun x => w.heap.size ≤ x ∧ x < w2.heap.size) w2 gl gd 3000 1 0 [] := hL2.mono fun x hx hlt => ⟨by omega, hlt⟩
  clear hL2
  go_wp2_with fail
  refine (awake_any w2).mono ?_
  rintro e w3 ⟨rfl, hb3⟩
  have hL3 := hL2'.below hb3
  have hB3 := hb2.trans (hb3.mono hb2.size)
  have hz3 := hb3.size
  clear hL2'
  go_upto_region 8 with fail
  go_loopw [11, 12, 13] (fun va vf j wr => ∃ (i : Nat) (al : List (List UInt8)) (first T : Nat) (f : Nat → Prop), i ≤ 40 ∧ Hid (al.length = i) ∧ first ≤ i ∧ T ≤ 1 + i ∧ vf = .int .i64 (first : Int) ∧ j = .int .i64 (i : Int) ∧ Hid (LogU f wr gl gd 3000 T first (al.drop first)) ∧ Hid (OwnL rBs (fun b => b < w.heap.size) w.heap.size 33 wr va al) ∧ Hid (∀ x, f x → w.heap.size ≤ x ∧ x < wr.heap.size) ∧ Hid (∀ b, va.ownBlock = some b → ¬ f b) ∧ Below w.heap.size w wr ∧ Hid (∀ r ∈ al, r.length ≤ 300)) (fun _ _ j _ => 200 - (intOf j).toNat)
  case atStart => exact ⟨0, [], 0, 1, _, by omega, Lib.hid rfl, Nat.le_refl _, Nat.le_refl _, rfl, rfl, Lib.hid hL3, Lib.hid (OwnL.nil_ _ _ _ _ _), Lib.hid (fun x hx => ⟨hx.1, by omega⟩), Lib.hid (fun b hb => by cases hb), hB3, Lib.hid (fun r hr => by cases hr)⟩
  clear hL3
  case round =>
    obtain ⟨i, al, first, T, f, hi, HAL, hfi, hTi, rfl, rfl, HL, HO, HFB, HFO, hB, HA3⟩ := hrel
    obtain ⟨go, hgo⟩ : ∃ go : Bool, go = decide (i < n0 ∧ i < 40) := ⟨_, rfl⟩
    have HGO := Lib.hid hgo
    clear hgo
    go_upto_region 8 with fail
    go_cut [43] (fun v wx => v = .bool go ∧ wx = wr)
    case first =>
      by_cases h1 : i < n0
      · have z1 : decide ((i : Int) < (n0 : Int)) = true := decide_eq_true (by omega)
        have z2 : decide (i < n0) = true := decide_eq_true h1
        have hg : go = decide ((i : Int) < 40) := by rw [HGO.out]; exact decide_eq_decide.2 (by omega)
        clear h1
        go_wp2
        go_meet
        exact ⟨by first | (rw [hg]; done) | (rw [hg]; congr 1; exact decide_eq_decide.2 (by omega)), rfl⟩
      · have z1 : decide ((i : Int) < (n0 : Int)) = false := decide_eq_false (by omega)
        have z2 : decide (i < n0) = false := decide_eq_false h1
        have hg : go = false := by rw [HGO.out]; exact decide_eq_false (by omega)
        clear h1
        go_wp2
        go_meet
        exact ⟨by rw [hg], rfl⟩
    obtain ⟨rfl, hwx⟩ := hcut
    rw [hwx]
    clear hwx
    cases go
    case false =>
      have hO := HO.out
      obtain ⟨A7, d7, rfl, hd7⟩ := hO.form
      rw [HAL.out] at hO hd7
      rw [HAL.out]
      have HS := Lib.hid (sync_opU HL.out)
      clear HL
      have HO' := Lib.hid hO
      clear hO HO
      go_wp2_with fail
      refine HS.out.mono ?_
      rintro e w6 ⟨rfl, hL6, hK6⟩
      have hzr := hB.size
      have hz6 := hK6.size
      have hB6 : Below w.heap.size w w6 := hB.trans (hK6.below hzr fun y hy hfy => by have := (HFB.out y hfy).1; omega)
      have hO6 := HO'.out.kp hK6 (fun y hy hfy => by have := (HFB.out y hfy).1; omega) (fun y hy => by rw [← HAL.out] at hy; exact HFO.out y hy)
      have HOP := Lib.hid (open_opU hL6 (by omega) (fun y hy => by have := (HFB.out y hy).2; omega))
      clear hL6 hK6 HS
      go_wp2_with fail
      refine HOP.out.mono ?_
      rintro e w7 ⟨⟨g2, rfl, hL7⟩, hK7⟩
      have hz37 := hB6.size
      have hB7 : Below w.heap.size w w7 := hB6.trans (hK7.below hz37 fun y hy hfy => by have := (HFB.out y hfy).1; omega)
      have hO7 := hO6.kp hK7 (fun y hy hfy => by have := (HFB.out y hfy).1; omega) (fun y hy => by rw [← HAL.out] at hy; exact HFO.out y hy)
      have HF1 := Lib.hid (fun (w' : World) (hb : Below w7.heap.size w7 w') => first_opU (hL7.below hb))
      have HF2 := Lib.hid (fun (w' : World) (hb : Below w7.heap.size w7 w') => next_opU (hL7.below hb))
      have HF3 := Lib.hid (fun (w' : World) (hb : Below w7.heap.size w7 w') => records_opU (hL7.below hb))
      have hln : first + (al.drop first).length = i := by rw [List.length_drop, HAL.out]; omega
      rw [hln] at HF2
      have hra : RSl rBs (fun _ => True) w7 (.slice A7 i d7) al := hO7.rsl (by decide) (by rw [HAL.out]; show i * 24 ≤ _; omega) (fun _ _ => trivial) (fun _ _ => trivial)
      have hrd : RSl rBs (fun _ => True) w7 (.slice (if d7 = first then A7 else Option.map (fun x => x.add first) A7) (i - first) (d7 - first)) (al.drop first) := by
        have := hra.drop (k := first) hfi
        rwa [show first * rBs.sz = first from Nat.mul_one _] at this
      obtain ⟨AV, hAV⟩ : ∃ AV, AV = (if d7 = first then A7 else Option.map (fun x => x.add first) A7) := ⟨_, rfl⟩
      rw [← hAV] at hrd
      have HAV := Lib.hid hAV
      have HRD := Lib.hid hrd
      clear hAV hln hra hrd hL7 hK7 HOP hO7 hO6 HO'
      go_upto_region 27 with fail
      refine wp_seqL [8, 15, 23, 27] (by as_aux_lemma => kernel_rfl) (by as_aux_lemma => kernel_rfl) fun w10 hb10 => ?_
      refine seqL_pre 8 (by kernel_rfl) ?_
      simp only [List.take_succ_cons, List.take_zero, List.drop_succ_cons, List.drop_zero]
      repeat (go_big_quiet_step (fail))
      refine wpQuiet_nil ?_
      refine seqL_wild hb10 rfl rfl fun K hK => ?_
      unfold Gives
      go_simp
      refine (HF1.out _ hb10).mono ?_
      rintro e w11 ⟨rfl, rfl⟩
      refine ⟨_, rfl, hK _ _ ((Below.refl _ _)) fun hb11 => ?_⟩
      clear hK
      clear K
      simp only [Act.put, List.setIfInBounds_toArray, List.set_cons_succ, List.set_cons_zero]
      refine seqL_pre 6 (by kernel_rfl) ?_
      simp only [List.take_succ_cons, List.take_zero, List.drop_succ_cons, List.drop_zero]
      repeat (go_big_quiet_step (fail))
      refine wpQuiet_nil ?_
      refine seqL_wild hb11 rfl rfl fun K hK => ?_
      unfold Gives
      go_simp
      refine (HF2.out _ hb11).mono ?_
      rintro e w12 ⟨rfl, hbb12⟩
      refine ⟨_, rfl, hK _ _ (hbb12) fun hb12 => ?_⟩
      clear hK
      clear K
      simp only [Act.put, List.setIfInBounds_toArray, List.set_cons_succ, List.set_cons_zero]
      refine seqL_pre 7 (by kernel_rfl) ?_
      simp only [List.take_succ_cons, List.take_zero, List.drop_succ_cons, List.drop_zero]
      repeat (go_big_quiet_step (fail))
      refine wpQuiet_nil ?_
      refine seqL_wild hb12 rfl rfl fun K hK => ?_
      unfold Gives
      go_simp
      refine (HF3.out _ hb12).mono ?_
      rintro e w13 ⟨⟨vr, rfl, hR13⟩, hbb13⟩
      refine ⟨_, rfl, hK _ _ (hbb13) fun hb13 => ?_⟩
      clear hK
      clear K
      simp only [Act.put, List.setIfInBounds_toArray, List.set_cons_succ, List.set_cons_zero]
      refine seqL_pre 3 (by kernel_rfl) ?_
      simp only [List.take_succ_cons, List.take_zero, List.drop_succ_cons, List.drop_zero]
      repeat (go_big_quiet_step (fail))
      refine wpQuiet_nil ?_
      rw [← HAV.out]
      refine seqL_wild hb13 rfl rfl fun K hK => ?_
      unfold Gives
      go_simp
      refine (sameBs_any _ _ _ _ _ hR13 (HRD.out.below hb13)).mono ?_
      rw [decide_eq_true (rfl : al.drop first = al.drop first)]
      rintro e w14 ⟨rfl, hbb14⟩
      refine ⟨_, rfl, hK _ _ (hbb14) fun hb14 => ?_⟩
      clear hK
      clear K
      simp only [Act.put, List.setIfInBounds_toArray, List.set_cons_succ, List.set_cons_zero]
      refine seqL_pre 2 (by kernel_rfl) ?_
      simp only [List.take_succ_cons, List.take_zero, List.drop_succ_cons, List.drop_zero]
      repeat (go_big_quiet_step (fail))
      refine wpQuiet_nil ?_
      refine seqL_nil ?_
      go_wp2
      go_ret
      exact ⟨rfl, hB7.trans (hb14.mono hB7.size)⟩
    have hgo := of_decide_eq_true HGO.out.symm
    have hi1 : i < n0 := hgo.1
    have hi2 : i < 40 := hgo.2
    have hi3 : i < ls.length := by rw [← HN0.out]; exact hi1
    obtain ⟨b5, off5, c5, cs5, hv5, _, ⟨v5, rfl, hr5⟩, hcell5⟩ := (RSl.below h0 hB).at_ hi3
    rw [← HN0.out] at hv5
    simp only [Value.slice.injEq, true_and] at hv5
    obtain ⟨rfl, rfl⟩ := hv5
    obtain ⟨A5, d5, rfl, hd5, hw5⟩ := hr5.form
    obtain ⟨x, hx⟩ : ∃ x, x = ls[i] := ⟨_, rfl⟩
    rw [← hx] at hcell5 hd5 hw5 hr5
    obtain ⟨m, hm⟩ : ∃ m, m = x.length := ⟨_, rfl⟩
    rw [show rU8.wt = 1 from rfl] at hw5
    rw [← hm] at hcell5 hd5 hw5
    have q5 : wr.cell? ⟨b5, off5 + i * 1, none⟩ = some (.slice A5 m d5) := hcell5 0 _ rfl
    have q6 : wr.cell? ⟨b5, off5 + i, none⟩ = some (.slice A5 m d5) := by simpa using q5
    have HM := Lib.hid hm
    have hr6 : RB (fun b => b < w.heap.size) wr (.slice A5 (min 300 m) d5) (x.take 300) := by
      have hr5' : RB (fun b => b < w.heap.size) wr (.slice A5 m d5) x := by rw [hm]; exact hr5
      have := hr5'.take (k := min 300 m) (Nat.min_le_right _ _)
      rwa [show x.take (min 300 m) = x.take 300 by rw [hm, ← List.take_take, List.take_length]] at this
    obtain ⟨m', hm'⟩ : ∃ m', m' = min 300 m := ⟨_, rfl⟩
    rw [← hm'] at hr6
    have HM' := Lib.hid hm'
    have HR6 := Lib.hid hr6
    clear hx hm hm' hr5 hr6 hcell5
    go_upto_region 11 with fail
    clear q5 q6
    go_upto_if 52 with fail
    go_cut [14] (fun v wx => v = .slice A5 m' d5 ∧ wx = wr)
    case first =>
      by_cases hgt : 300 < m
      · have z1 : decide ((m : Int) > 300) = true := decide_eq_true (by omega)
        have z2 : decide (300 < m) = true := decide_eq_true hgt
        go_wp2
        go_meet
        exact ⟨by rw [HM'.out, Nat.min_eq_left (by omega)], rfl⟩
      · have z1 : decide ((m : Int) > 300) = false := decide_eq_false (by omega)
        have z2 : decide (300 < m) = false := decide_eq_false hgt
        go_wp2
        go_meet
        exact ⟨by rw [HM'.out, Nat.min_eq_right (by omega)], rfl⟩
    obtain ⟨rfl, hwx⟩ := hcut
    rw [hwx]
    clear hwx
    obtain ⟨b, hb⟩ : ∃ b, b = x.take 300 := ⟨_, rfl⟩
    have hbl : b.length = m' := by rw [hb, List.length_take, ← HM.out, HM'.out]
    have hb3 : b.length ≤ 300 := by rw [hbl, HM'.out]; exact Nat.min_le_left _ _
    have hrb := HR6.out
    rw [← hb] at hrb
    have hfit : secSum (al.drop first) + secN b.length ≤ 3000 - 2 := by
      have e1 := secSum_leq 300 (al.drop first) fun r hr => HA3.out r (List.mem_of_mem_drop hr)
      rw [List.length_drop, HAL.out, show secN 300 = 7 from rfl] at e1
      have e2 : secN b.length ≤ 7 := by unfold secN; omega
      omega
    have HAP := Lib.hid (append_opU HL.out (.slice A5 m' d5) b (hrb.mono (by decide) fun y hy _ hfy => by have := (HFB.out y hfy).1; omega) (by omega) hfit)
    have HB3 := Lib.hid hb3
    have HBL := Lib.hid hbl
    have HRB := Lib.hid hrb
    clear hb hbl hb3 hrb hfit HR6 HM HM'
    go_wp2_with fail
    refine HAP.out.mono ?_
    rintro e w6 ⟨rfl, hL6, hK6⟩
    have hzr := hB.size
    have hb6 : Below w.heap.size wr w6 := hK6.below hzr fun y hy hfy => by have := (HFB.out y hfy).1; omega
    have hB6 := hB.trans hb6
    have hO6 := HO.out.kp hK6 (fun y hy hfy => by have := (HFB.out y hfy).1; omega) (fun y hy => HFO.out y hy)
    have hrb6 : RB (fun b => b < w.heap.size) w6 (.slice A5 m' d5) b := HRB.out.kp (hK6.mono fun y hy hfy => by have := (HFB.out y hfy).1; omega)
    have hlt0 := HO.out.lt
    have HL6 := Lib.hid hL6
    have HLT := Lib.hid hlt0
    clear HAP hK6 hL6 HL HO HRB hlt0
    have hz6 := hb6.size
    obtain ⟨wa, hwa⟩ : ∃ wa, wa = wr := ⟨_, rfl⟩
    have hal1 := HAL.out
    have hown : (al.length + 1) * 24 ≤ 140737488355328 := by omega
    clear hal1
    go_upto_region 16 with (at_builtin; go_loud (refine wp_app1 (E := rBs) (okd := fun b => b < w.heap.size) Try.rowBs (by decide) rfl _ _ rfl u11 al w6 #[.slice A5 m' d5] b rfl hO6 rfl ⟨_, rfl, hrb6.mono (by decide) fun y hy _ => ⟨hy, fun e => by have := (HLT.out y e.symm).1; omega⟩⟩ hown (by omega) hB6.size ?_); intro v' w7 hown7 hk7 hv7; obtain ⟨A7, d7, rfl, hd7⟩ := hown7.form)
    have hle : (al ++ [b]).length = i + 1 := by simp [HAL.out]
    rw [hle] at hown7 hv7 hd7
    rw [show al.length + 1 = i + 1 from by rw [HAL.out]]
    have hz7 := hk7.size
    have hL7 := HL6.out.kp hk7 fun y hy e => by
      have h1 := HLT.out y e.symm
      rcases hy with hy | hy
      · exact HFO.out y e.symm hy
      · omega
    have hb7 : Below w.heap.size w6 w7 := hk7.below hB6.size fun y hy e => by have := HLT.out y e.symm; omega
    have hB7 := hB6.trans hb7
    have hfo7 : ∀ y, (Value.slice A7 (i + 1) d7).ownBlock = some y → ¬ (f y ∨ (wa.heap.size ≤ y ∧ y < w6.heap.size)) := fun y hy hf => by
      have hf6 : f y → y < wa.heap.size := fun h => by rw [hwa]; exact (HFB.out y h).2
      rcases hv7 with e | e
      · rw [e] at hy
        have h1 := HLT.out y hy
        rcases hf with hf | hf
        · exact HFO.out y hy hf
        · rw [hwa] at hf; omega
      · rw [e] at hy
        have := Option.some.inj hy
        rcases hf with hf | hf
        · have := hf6 hf; rw [hwa] at this; omega
        · omega
    rw [← hwa] at hL7
    obtain ⟨f', hf'⟩ : ∃ f' : Nat → Prop, f' = fun y => f y ∨ (wa.heap.size ≤ y ∧ y < w6.heap.size) := ⟨_, rfl⟩
    have hfb7 : ∀ y, f' y → w.heap.size ≤ y ∧ y < w7.heap.size := fun y hy => by
      rw [hf'] at hy
      have hf6 : f y → w.heap.size ≤ y ∧ y < wa.heap.size := fun h => by rw [hwa]; exact HFB.out y h
      rw [← hwa] at hz6 hzr
      rcases hy with hy | hy
      · have := hf6 hy; omega
      · omega
    have hfo7' : ∀ y, (Value.slice A7 (i + 1) d7).ownBlock = some y → ¬ f' y := fun y hy hf => hfo7 y hy (by rw [hf'] at hf; exact hf)
    have hL7' : LogU f' w7 gl gd 3000 T first ((al ++ [b]).drop first) := by
      rw [List.drop_append_of_le_length (by rw [HAL.out]; exact hfi), hf']
      exact hL7
    have HA7 : Hid (∀ r ∈ al ++ [b], r.length ≤ 300) := Lib.hid fun r hr => (List.mem_append.1 hr).elim (HA3.out r) fun e => by rw [List.mem_singleton.1 e]; exact HB3.out
    obtain ⟨al', hal'⟩ : ∃ al', al' = al ++ [b] := ⟨_, rfl⟩
    rw [← hal'] at HA7 hL7' hown7 hle
    have HL7 := Lib.hid hL7'
    have HO7 := Lib.hid hown7
    have HFB7 := Lib.hid hfb7
    have HFO7 := Lib.hid hfo7'
    have HAL7 := Lib.hid hle
    clear hL7 hL7' hfo7 hfo7' hfb7 hown7 hk7 hv7 hle hal' hf' HL6 HLT HFB HFO HAL HA3 HB3 HBL hown hb7 hb6 hz6 hz7 hzr hO6 hrb6 hwa hB6 hB
    go_cut [77] (fun v wx => v = .bool false ∧ Hid (LogU f' wx gl gd 3000 T first (al'.drop first)) ∧ Hid (Kp (fun y => ¬ f' y) w7 wx))
    case first =>
      by_cases hs1 : i < n1
      · have z1 : decide ((i : Int) < (n1 : Int)) = true := decide_eq_true (by omega)
        have z2 : decide (i < n1) = true := decide_eq_true hs1
        have hs2 : i < ss.length := by rw [← HN1.out]; exact hs1
        obtain ⟨b6, off6, c6, cs6, hv6, _, hcs6, hcell6⟩ := (RSl.below h1 hB7).at_ hs2
        rw [← HN1.out] at hv6
        simp only [Value.slice.injEq, true_and] at hv6
        obtain ⟨rfl, rfl⟩ := hv6
        have q5 : w7.cell? ⟨b6, off6 + i * 1, none⟩ = some (.bool ss[i]) := hcell6 0 _ (by rw [show cs6 = [.bool ss[i]] from hcs6]; rfl)
        have q6 : w7.cell? ⟨b6, off6 + i, none⟩ = some (.bool ss[i]) := by simpa using q5
        obtain ⟨sv, hsv⟩ : ∃ sv, sv = ss[i] := ⟨_, rfl⟩
        rw [← hsv] at q5 q6
        clear hcell6 hcs6 hsv hs2
        cases sv
        · go_wp2
          go_meet
          exact ⟨rfl, HL7, Lib.hid (Kp.refl _ _)⟩
        · have HS := Lib.hid (sync_opU HL7.out)
          go_wp2_with fail
          refine HS.out.mono ?_
          rintro e w8 ⟨rfl, hL8, hK8⟩
          have HL8 := Lib.hid hL8
          have HK8 := Lib.hid hK8
          clear hL8 hK8 HS
          go_wp2
          go_meet
          exact ⟨rfl, HL8, HK8⟩
      · have z1 : decide ((i : Int) < (n1 : Int)) = false := decide_eq_false (by omega)
        have z2 : decide (i < n1) = false := decide_eq_false hs1
        go_wp2
        go_meet
        exact ⟨rfl, HL7, Lib.hid (Kp.refl _ _)⟩
    obtain ⟨rfl, HL8, HK8⟩ := hcut
    have hz8 := HK8.out.size
    have hO8 := HO7.out.kp HK8.out (fun y hy hfy => by have := (HFB7.out y hfy).1; omega) (fun y hy => HFO7.out y hy)
    have hz37 := hB7.size
    have hB8 : Below w.heap.size w wc := hB7.trans (HK8.out.below hz37 fun y hy hfy => by have := (HFB7.out y hfy).1; omega)
    have hfb8 : ∀ y, f' y → w.heap.size ≤ y ∧ y < wc.heap.size := fun y hy => by have := HFB7.out y hy; omega
    have HO8 := Lib.hid hO8
    have HFB8 := Lib.hid hfb8
    clear hO8 hfb8 HO7 HFB7 HL7 HK8 hz8 hz37 hB7
    obtain ⟨fl, hfl⟩ : ∃ fl : Bool, fl = decide (∃ h : i < cs.length, 0 < cs[i]) := ⟨_, rfl⟩
    have HFL := Lib.hid hfl
    clear hfl
    obtain ⟨w8, rfl⟩ : ∃ w8, w8 = wc := ⟨_, rfl⟩
    go_upto_region 18 with fail
    go_cut [88] (fun v wx => v = .bool fl ∧ wx = w8)
    case first =>
      by_cases hs1 : i < n2
      · have z1 : decide ((i : Int) < (n2 : Int)) = true := decide_eq_true (by omega)
        have z2 : decide (i < n2) = true := decide_eq_true hs1
        have hs2 : i < cs.length := by rw [← HN2.out]; exact hs1
        obtain ⟨b6, off6, c6, cs6, hv6, _, ⟨hcs6, _⟩, hcell6⟩ := (RSl.below h2 hB8).at_ hs2
        rw [← HN2.out] at hv6
        simp only [Value.slice.injEq, true_and] at hv6
        obtain ⟨rfl, rfl⟩ := hv6
        have q5 : w8.cell? ⟨b6, off6 + i * 1, none⟩ = some (.int .i64 cs[i]) := hcell6 0 _ (by subst hcs6; rfl)
        have q6 : w8.cell? ⟨b6, off6 + i, none⟩ = some (.int .i64 cs[i]) := by simpa using q5
        have hfv : fl = decide (0 < cs[i]) := by rw [HFL.out]; exact decide_eq_decide.2 ⟨fun h => h.2, fun h => ⟨hs2, h⟩⟩
        obtain ⟨sv, hsv⟩ : ∃ sv, sv = cs[i] := ⟨_, rfl⟩
        rw [← hsv] at q5 q6 hfv
        have HFV := Lib.hid hfv
        clear hcell6 hcs6 hsv hfv
        go_wp2
        go_meet
        exact ⟨by rw [HFV.out], rfl⟩
      · have z1 : decide ((i : Int) < (n2 : Int)) = false := decide_eq_false (by omega)
        have z2 : decide (i < n2) = false := decide_eq_false hs1
        have hfv : fl = false := by rw [HFL.out]; exact decide_eq_false (fun h => hs1 (by rw [HN2.out]; exact h.1))
        go_wp2
        go_meet
        exact ⟨by rw [hfv], rfl⟩
    obtain ⟨rfl, hwx⟩ := hcut
    rw [hwx]
    clear hwx
    go_upto_if 88 with fail
    go_cut [12] (fun vf wx => ∃ (first' T' : Nat) (f2 : Nat → Prop), first' ≤ i + 1 ∧ T' ≤ 1 + (i + 1) ∧ vf = .int .i64 (first' : Int) ∧ Hid (LogU f2 wx gl gd 3000 T' first' (al'.drop first')) ∧ Hid (∀ y, f2 y → w.heap.size ≤ y ∧ y < wx.heap.size) ∧ Hid (∀ y, (Value.slice A7 (i + 1) d7).ownBlock = some y → ¬ f2 y) ∧ Hid (OwnL rBs (fun b => b < w.heap.size) w.heap.size 33 wx (.slice A7 (i + 1) d7) al') ∧ Below w.heap.size w wx)
    case first =>
      cases fl
      · go_wp2
        go_meet
        exact ⟨first, T, f', by omega, by omega, rfl, HL8, HFB8, HFO7, HO8, hB8⟩
      · obtain ⟨hs2, _⟩ := of_decide_eq_true HFL.out.symm
        obtain ⟨b6, off6, c6, cs6, hv6, _, ⟨hcs6, _⟩, hcell6⟩ := (RSl.below h2 hB8).at_ hs2
        rw [← HN2.out] at hv6
        simp only [Value.slice.injEq, true_and] at hv6
        obtain ⟨rfl, rfl⟩ := hv6
        have q5 : w8.cell? ⟨b6, off6 + i * 1, none⟩ = some (.int .i64 cs[i]) := hcell6 0 _ (by subst hcs6; rfl)
        have q6 : w8.cell? ⟨b6, off6 + i, none⟩ = some (.int .i64 cs[i]) := by simpa using q5
        have z3 : decide (i < n2) = true := decide_eq_true (by rw [HN2.out]; exact hs2)
        have hs3 : i < n2 := by rw [HN2.out]; exact hs2
        have z4 : decide ((i : Int) < (n2 : Int)) = true := decide_eq_true (by omega)
        obtain ⟨sv, hsv⟩ : ∃ sv, sv = cs[i] := ⟨_, rfl⟩
        rw [← hsv] at q5 q6
        obtain ⟨jv, hj4, hje⟩ := uwrap_mod4 sv
        clear hcell6 hcs6 hsv
        go_upto_region 20 with fail
        obtain ⟨k, hk⟩ : ∃ k, k = min (i + 1) (first + jv) := ⟨_, rfl⟩
        rw [show min ((i : Int) + 1) ((first : Int) + (jv : Int)) = (k : Int) by omega]
        have hk1 : first ≤ k ∧ k ≤ i + 1 := by omega
        have hln : first + (al'.drop first).length = i + 1 := by rw [List.length_drop, HAL7.out]; omega
        have HC := Lib.hid (cut_opU HL8.out (by omega) k hk1.1 (by rw [hln]; exact hk1.2) (by omega))
        clear hk hje hln q5 q6
        go_wp2_with fail
        refine HC.out.mono ?_
        rintro e w9 ⟨rfl, ⟨T', hT', hL9⟩, hK9⟩
        rw [List.drop_drop, show first + (k - first) = k by omega] at hL9
        have hz39 := hB8.size
        have HL9 := Lib.hid hL9
        have hz9 := hK9.size
        have HO9 := Lib.hid (HO8.out.kp hK9 (fun y hy hfy => by have := (HFB8.out y hfy).1; omega) (fun y hy => HFO7.out y hy))
        have HOL := Lib.hid HO8.out.lt
        have hB9 : Below w.heap.size w w9 := hB8.trans (hK9.below hz39 fun y hy hfy => by have := (HFB8.out y hfy).1; omega)
        clear hL9 hK9 HC
        go_wp2
        go_meet
        exact ⟨k, T', _, by omega, by omega, rfl, HL9, Lib.hid fun y hy => by
          rcases hy with hy | hy
          · have := HFB8.out y hy; omega
          · omega, Lib.hid fun y hy hf => by
          have h1 := HOL.out y hy
          rcases hf with hf | hf
          · exact HFO7.out y hy hf
          · omega, HO9, hB9⟩
    obtain ⟨first', T', f2, hf2, hT2, rfl, HLc, HFBc, HFOc, HOc, hBc⟩ := hcut
    obtain ⟨w9, rfl⟩ : ∃ w9, w9 = wc := ⟨_, rfl⟩
    have HF1 := Lib.hid (fun (w' : World) (hb : Below w9.heap.size w9 w') => first_opU (HLc.out.below hb))
    have HF2 := Lib.hid (fun (w' : World) (hb : Below w9.heap.size w9 w') => next_opU (HLc.out.below hb))
    have HF3 := Lib.hid (fun (w' : World) (hb : Below w9.heap.size w9 w') => records_opU (HLc.out.below hb))
    have hln : first' + (al'.drop first').length = i + 1 := by rw [List.length_drop, HAL7.out]; omega
    rw [hln, show ((i + 1 : Nat) : Int) = (i : Int) + 1 by omega] at HF2
    have hra : RSl rBs (fun _ => True) w9 (.slice A7 (i + 1) d7) al' := HOc.out.rsl (by decide) (by rw [HAL7.out]; show (i + 1) * 24 ≤ _; omega) (fun _ _ => trivial) (fun _ _ => trivial)
    have hrd : RSl rBs (fun _ => True) w9 (.slice (if d7 = first' then A7 else Option.map (fun x => x.add first') A7) (i + 1 - first') (d7 - first')) (al'.drop first') := by
      have := hra.drop (k := first') hf2
      rwa [show first' * rBs.sz = first' from Nat.mul_one _] at this
    obtain ⟨AV, hAV⟩ : ∃ AV, AV = (if d7 = first' then A7 else Option.map (fun x => x.add first') A7) := ⟨_, rfl⟩
    rw [← hAV] at hrd
    have HAV := Lib.hid hAV
    have HRD := Lib.hid hrd
    clear hAV hln hra hrd
    go_upto_region 22 with fail
    go_cut [127] (fun v wx => v = .bool false ∧ Below w9.heap.size w9 wx)
    case first =>
      refine wp_seqL [1, 7, 15, 19] (by as_aux_lemma => kernel_rfl) (by as_aux_lemma => kernel_rfl) fun w10 hb10 => ?_
      refine seqL_pre 1 (by kernel_rfl) ?_
      simp only [List.take_succ_cons, List.take_zero, List.drop_succ_cons, List.drop_zero]
      repeat (go_big_quiet_step (fail))
      refine wpQuiet_nil ?_
      refine seqL_wild hb10 rfl rfl fun K hK => ?_
      unfold Gives
      go_simp
      refine (HF1.out _ hb10).mono ?_
      rintro e w11 ⟨rfl, rfl⟩
      refine ⟨_, rfl, hK _ _ ((Below.refl _ _)) fun hb11 => ?_⟩
      clear hK
      clear K
      simp only [Act.put, List.setIfInBounds_toArray, List.set_cons_succ, List.set_cons_zero]
      refine seqL_pre 5 (by kernel_rfl) ?_
      simp only [List.take_succ_cons, List.take_zero, List.drop_succ_cons, List.drop_zero]
      repeat (go_big_quiet_step (fail))
      refine wpQuiet_nil ?_
      refine seqL_wild hb11 rfl rfl fun K hK => ?_
      unfold Gives
      go_simp
      refine (HF2.out _ hb11).mono ?_
      rintro e w12 ⟨rfl, hbb12⟩
      refine ⟨_, rfl, hK _ _ (hbb12) fun hb12 => ?_⟩
      clear hK
      clear K
      simp only [Act.put, List.setIfInBounds_toArray, List.set_cons_succ, List.set_cons_zero]
      refine seqL_pre 7 (by kernel_rfl) ?_
      simp only [List.take_succ_cons, List.take_zero, List.drop_succ_cons, List.drop_zero]
      repeat (go_big_quiet_step (fail))
      refine wpQuiet_nil ?_
      refine seqL_wild hb12 rfl rfl fun K hK => ?_
      unfold Gives
      go_simp
      refine (HF3.out _ hb12).mono ?_
      rintro e w13 ⟨⟨vr, rfl, hR13⟩, hbb13⟩
      refine ⟨_, rfl, hK _ _ (hbb13) fun hb13 => ?_⟩
      clear hK
      clear K
      simp only [Act.put, List.setIfInBounds_toArray, List.set_cons_succ, List.set_cons_zero]
      refine seqL_pre 3 (by kernel_rfl) ?_
      simp only [List.take_succ_cons, List.take_zero, List.drop_succ_cons, List.drop_zero]
      repeat (go_big_quiet_step (fail))
      refine wpQuiet_nil ?_
      rw [← HAV.out]
      refine seqL_wild hb13 rfl rfl fun K hK => ?_
      unfold Gives
      go_simp
      refine (sameBs_any _ _ _ _ _ hR13 (HRD.out.below hb13)).mono ?_
      rw [decide_eq_true (rfl : al'.drop first' = al'.drop first')]
      rintro e w14 ⟨rfl, hbb14⟩
      refine ⟨_, rfl, hK _ _ (hbb14) fun hb14 => ?_⟩
      clear hK
      clear K
      simp only [Act.put, List.setIfInBounds_toArray, List.set_cons_succ, List.set_cons_zero]
      refine seqL_pre 2 (by kernel_rfl) ?_
      simp only [List.take_succ_cons, List.take_zero, List.drop_succ_cons, List.drop_zero]
      repeat (go_big_quiet_step (fail))
      refine wpQuiet_nil ?_
      refine seqL_nil ?_
      go_wp2
      go_meet
      exact ⟨rfl, hb14⟩
    obtain ⟨rfl, hb10⟩ := hcut
    have hL10 := HLc.out.below hb10
    have hO10 := HOc.out.below hb10
    have hB10 := hBc.trans (hb10.mono hBc.size)
    have hz10 := hb10.size
    go_wp2
    go_roundw
    case rel => exact ⟨i + 1, al', first', T', f2, by omega, HAL7, hf2, by omega, rfl, by go_num, Lib.hid hL10, Lib.hid hO10, Lib.hid fun y hy => by (have := HFBc.out y hy; omega), HFOc, hB10, HA7⟩
    case measure => simp [intOf]; omega
end Go.Proofs.Ytlnnfdjhejdgdaa
