/- WalPlays: (*truth).open. -/
import Derived.Test.YtlnnfdjhejdgdaaV21
namespace Go.Proofs.Ytlnnfdjhejdgdaa
open Go.RowKit

/-- a chain whose links are edges: the check that looks at no other edge -/
def direct1 (ops : Array Oper) (j d : Nat) : Bool := match ops[j]? with
  | some o => o.after.any fun e => Region.binds .any e && e.on == d
  | none => false
def chain1 (ops : Array Oper) : List Nat → Bool
  | i :: j :: r => decide (i < j) && (direct1 ops j i && chain1 ops (j :: r))
  | _ => true
theorem direct1_waits {ops : Array Oper} {j d : Nat} (h : direct1 ops j d = true) : waitsB .any ops ops.size j d = true := by
  unfold direct1 at h
  split at h
  · rename_i o ho
    obtain ⟨k, hk⟩ : ∃ k, ops.size = k + 1 := ⟨ops.size - 1, by have := (Array.getElem?_eq_some_iff.1 ho).1; omega⟩
    rw [hk]
    unfold waitsB
    rw [ho]
    obtain ⟨e, he, hb⟩ := Array.any_eq_true'.1 h
    simp only [Bool.and_eq_true, beq_iff_eq] at hb
    refine Array.any_eq_true'.2 ⟨e, he, ?_⟩
    simp [hb.1, hb.2]
  · cases h
theorem chain1_chain {ops : Array Oper} : ∀ {l : List Nat}, chain1 ops l = true → chainW ops l = true
  | [], _ => rfl
  | [_], _ => rfl
  | i :: j :: r, h => by
    simp only [chain1, Bool.and_eq_true] at h
    simp only [chainW, Bool.and_eq_true]
    exact ⟨h.1, direct1_waits h.2.1, chain1_chain h.2.2⟩
theorem wp_seqB1 {P : Program} {w : World} {id : Nat} {Q : Exit → Act → World → Prop} {a : Act} {l : List Oper} (bad : Nat → Prop) (f : Nat) (wild : List Nat) (hmx : P.follows .mixedOrders = true)
    (hB : (manyB .any l.toArray l.toArray.size (wildAll l.toArray) && (chain1 l.toArray wild && ((wild.contains f || f == l.toArray.size) && wild.all fun j => decide (j < l.toArray.size)))) = true)
    (h : ∀ w0, Below w.heap.size w w0 → wpSeqB P w bad l.toArray f wild (fun a' w' => Q .normal a' w') 0 l a w0) : (Code.region id l.toArray true).wp P Q a w := by
  refine wp_seqB bad f wild hmx ?_ h
  simp only [Bool.and_eq_true] at hB
  simp only [seqB, Bool.and_eq_true]
  exact ⟨hB.1, chain1_chain hB.2.1, hB.2.2⟩
theorem OwnL.take_ {α : Type} {E : Rel α} {okd : Nat → Prop} {base : Nat} {T : TypeId} {w : World} {A : Option Addr} {n c : Nat} {l : List α} (h : OwnL E okd base T w (.slice A n c) l) {k : Nat} (hk : k ≤ n) : OwnL E okd base T w (.slice A k c) (l.take k) := by
  obtain ⟨A', c', hv, hc'⟩ := h.form
  obtain ⟨rfl, rfl, rfl⟩ : A = A' ∧ n = l.length ∧ c = c' := by simpa using hv
  obtain ⟨css, ho, hch⟩ := h
  obtain ⟨h1, h2⟩ := hch.take k
  have hl : (l.take k).length = k := by rw [List.length_take]; omega
  have he : (Value.slice A l.length c).ownBlock = (Value.slice A k c).ownBlock := by cases A <;> rfl
  rw [he] at h1
  refine ⟨css.take k, ⟨?_, ?_⟩, h1⟩
  · rw [h1.flat]
  · rcases ho.2 with ⟨h3, h4⟩ | ⟨g, cap, cur, h3, h4, h5, h6, h7, h8, h9⟩
    · obtain ⟨rfl, _, rfl⟩ : A = none ∧ l.length = 0 ∧ c = 0 := by simpa using h3
      obtain rfl : k = 0 := by omega
      exact .inl ⟨rfl, by rw [hl]⟩
    · obtain ⟨rfl, rfl⟩ : A = some ⟨g, 0, none⟩ ∧ c = cap := by simpa using h3
      refine .inr ⟨g, c, cur, by rw [hl], h4, h5, by omega, h7, h8, ?_⟩
      rw [← h2, ← h9, List.take_take, hl, Nat.min_eq_left (Nat.mul_le_mul_right _ hk)]
set_option maxRecDepth 100000 in
set_option maxHeartbeats 6400000 in
theorem topen_any {B gt gd gl n T first cut safe : Nat} {f : Nat → Prop} {w : World} {al sf us : List (List UInt8)} {dn fell dd : Bool} (h : TrM B gt gd gl n f w al first cut safe dn fell) (hP : Pre f w gl gd n T first cut sf us dd) (hT : T + 2 < 256) (hl : al.length ≤ 1000) (hfi : first ≤ al.length) (hal : al.drop first = sf ++ us) (hc : cut ≤ al.length) (hs : safe ≤ first + sf.length)
    (hfl : (fell || dd || dn) = false → us = [] ∧ cut = first) :
    Calls Try.prog 27 #[.pointer (some ⟨gt, 0, none⟩)] w fun e w' => e = .returned (.bool true) ∧ (∃ gl' T' a R f', T' ≤ T + 2 ∧ Finds first cut sf us a R ∧ TrM B gt gd gl' n f' w' (al.take (a + R.length)) a a (min safe (a + R.length)) false false ∧ LogX f' w' gl' gd n T' a a R [] false) ∧ Below B w w' := by
  obtain ⟨va, g0, hb, hO0, hg0, hva⟩ := h.mem
  have hvs : ∀ x, va.ownBlock = some x → x < w.heap.size := fun x hx => (hO0.lt x hx).2
  have hO := hO0.monoW (okd' := fun x => g0 x ∧ x < w.heap.size) fun b h1 h2 => ⟨h1, h2⟩
  obtain ⟨g, hge⟩ : ∃ g : Nat → Prop, g = fun x => g0 x ∧ x < w.heap.size := ⟨_, rfl⟩
  rw [← hge] at hO
  have hg : ∀ x, g x → ¬ f x ∧ x ≠ gt := fun x hx => by rw [hge] at hx; exact hg0 x hx.1
  have hgs : ∀ x, g x → x < w.heap.size := fun x hx => by rw [hge] at hx; exact hx.2
  clear hge hO0 hg0
  have hfb := h.fb
  have hgtl := hb.lt
  have hfgt := h.fgt
  have hbase := h.base
  obtain ⟨A7, d7, rfl, hd7⟩ := hO.form
  have hln : first + (sf ++ us).length = al.length := by rw [← hal, List.length_drop]; omega
  have c0 : w.cell? ⟨gt, 0, none⟩ = some (.pointer (some ⟨gd, 0, none⟩)) := hb.cell 0
  have c8 : w.cell? ⟨gt, 8, none⟩ = some (.bool dn) := hb.cell 8
  have c9 : w.cell? ⟨gt, 9, none⟩ = some (.bool fell) := hb.cell 9
  have fg := fun i => hb.frozen i
  have HD := Lib.hid (fun (w' : World) (hb : Below w.heap.size w w') => (hP.below hb).down)
  obtain ⟨fe, hfe⟩ : ∃ fe : Bool, fe = (fell || dd || dn) := ⟨_, rfl⟩
  have HFE := Lib.hid hfe
  clear hfe
  go_enter Try.func27, Try.ntmps27
  go_upto_region 1 with fail
  have hset : ∀ x : Bool, Blk (w.setCell ⟨gt, 9, none⟩ (.bool x)) gt 53 (trCs gd gl n (.slice A7 al.length d7) first first cut safe dn x) ∧ Kp (fun y => y ≠ gt) w (w.setCell ⟨gt, 9, none⟩ (.bool x)) := fun x => ⟨hb.set_ 9 (.bool x), (Kp.refl _ _).setCell (fun _ h => h rfl) _⟩
  have HSET := Lib.hid hset
  clear hset
  go_cut [25] (fun v wx => Hid (Blk wx gt 53 (trCs gd gl n (.slice A7 al.length d7) first first cut safe dn fe) ∧ Kp (fun y => y ≠ gt) w wx))
  case first =>
    as_aux_lemma =>
      cases fell
      · cases dn
        · go_wp2_with fail
          refine (HD.out _ (Below.refl _ _)).mono ?_
          rintro e w1 ⟨rfl, rfl⟩
          cases dd
          · go_wp2
            go_meet
            exact Lib.hid (by rw [HFE.out]; exact HSET.out false)
          · go_wp2
            go_meet
            exact Lib.hid (by rw [HFE.out]; exact HSET.out true)
        · go_wp2_with fail
          refine (HD.out _ (Below.refl _ _)).mono ?_
          rintro e w1 ⟨rfl, rfl⟩
          cases dd
          · go_wp2
            go_meet
            exact Lib.hid (by rw [HFE.out]; exact HSET.out true)
          · go_wp2
            go_meet
            exact Lib.hid (by rw [HFE.out]; exact HSET.out true)
      · go_wp2
        go_meet
        exact Lib.hid (by rw [HFE.out]; exact HSET.out true)
  obtain ⟨hb1, hk1⟩ := hcut.out
  obtain ⟨w1, rfl⟩ : ∃ w1, w1 = wc := ⟨_, rfl⟩
  have hP1 := hP.kp hk1 (fun y hy e => hfgt (e ▸ hy))
  have hz1 := hk1.size
  have hO1 := hO.kp hk1 (fun y hy => (hg y hy).2) (fun y hy => (hva y hy).2)
  have d0 : w1.cell? ⟨gt, 0, none⟩ = some (.pointer (some ⟨gd, 0, none⟩)) := hb1.cell 0
  have hslen : sf.length ≤ 1000 := by rw [List.length_append] at hln; omega
  have HST := Lib.hid (hP1.start (by omega))
  have HO1 := Lib.hid hO1
  have HB1 := Lib.hid hb1
  have HK1 := Lib.hid hk1
  clear c0 c8 c9 fg hP hP1 hO hb HD HSET hO1 hb1 hk1 hcut
  go_wp2_with fail
  refine HST.out.mono ?_
  rintro e w2 ⟨rfl, hD2, hK2⟩
  have hb2 := HB1.out.kp hK2 hfgt
  have hO2 := HO1.out.kp hK2 (fun y hy => (hg y hy).1) (fun y hy => (hva y hy).1)
  have e0 : w2.cell? ⟨gt, 0, none⟩ = some (.pointer (some ⟨gd, 0, none⟩)) := hb2.cell 0
  have hz2 := hK2.size
  have HOP := Lib.hid (open_F hD2 (by omega) (fun y hy => by have := (hfb y hy).2; omega))
  have HO2 := Lib.hid hO2
  have HB2 := Lib.hid hb2
  have HK2 := Lib.hid hK2
  clear d0 hO2 hb2 hK2 HST hD2 HO1 HB1
  go_wp2_with fail
  refine HOP.out.mono ?_
  rintro e w3 ⟨⟨g2, T', a, R, hT', hfd, rfl, hL3⟩, hK3⟩
  have hb3 := HB2.out.kp hK3 hfgt
  have hO3 := HO2.out.kp hK3 (fun y hy => (hg y hy).1) (fun y hy => (hva y hy).1)
  obtain ⟨hpt, hq1, hq2, hac, hfull⟩ := hfd.part hfi hal hc
  obtain ⟨q, hq⟩ : ∃ q, q = a + R.length := ⟨_, rfl⟩
  rw [← hq] at hpt hq1 hq2 hfull
  obtain ⟨N, hN⟩ : ∃ N, N = al.length := ⟨_, rfl⟩
  have haq : a ≤ q := by omega
  have hN3 : N ≤ 1000 := by omega
  have hqN : q ≤ N := by omega
  have hsq : safe ≤ q := by omega
  have HF1 := Lib.hid (fun (w' : World) (hb : Below w3.heap.size w3 w') => first_liveX (hL3.below hb))
  have HF2 := Lib.hid (fun (w' : World) (hb : Below w3.heap.size w3 w') => next_liveX (hL3.below hb))
  have HF3 := Lib.hid (fun (w' : World) (hb : Below w3.heap.size w3 w') => records_liveX (hL3.below hb))
  rw [List.append_nil, ← hq] at HF2
  rw [List.append_nil] at HF3
  have HL3 := Lib.hid hL3
  have HK3 := Lib.hid hK3
  have HB3 := Lib.hid hb3
  have HO3 := Lib.hid hO3
  have HQ := Lib.hid hq
  have HN := Lib.hid hN
  have HPT := Lib.hid hpt
  have HFD := Lib.hid hfd
  have HFULL := Lib.hid hfull
  have HAL := Lib.hid hal
  clear hL3 hK3 hb3 hO3 hq hN hpt hfd hfull hal HOP HO2 HB2 hln
  go_upto_region 5 with fail
  go_loopw [3, 4, 5] (fun v3 v4 j wr => v3 = .pointer (some ⟨g2, 0, none⟩) ∧ v4 = .int .i64 0 ∧ j = .int .i64 0 ∧ wr = w3) (fun _ _ _ _ => 0)
  case atStart => exact ⟨rfl, rfl, rfl, rfl⟩
  case round =>
    obtain ⟨rfl, rfl, rfl, hwr⟩ := hrel
    rw [hwr]
    clear hwr
    go_wp2_with fail
    refine (HF1.out _ (Below.refl _ _)).mono ?_
    rintro e w4 ⟨rfl, rfl⟩
    go_wp2_with fail
    refine (HF2.out _ (Below.refl _ _)).mono ?_
    rintro e w5 ⟨rfl, hb5⟩
    have hb5' : Blk w5 gt 53 (trCs gd gl n (.slice A7 N d7) first first cut safe dn fe) := by
      have := HB3.out.below hb5 HB3.out.lt
      rw [← HN.out] at this
      exact this
    have l3 : ∀ s : Later w5, s.val.cell? ⟨gt, 3, none⟩ = some (.slice A7 N d7) := Later.cell (hb5'.cell 3)
    have l4 : ∀ s : Later w5, s.val.cell? ⟨gt, 4, none⟩ = some (.int .u64 (first : Int)) := Later.cell (hb5'.cell 4)
    have l5 : ∀ s : Later w5, s.val.cell? ⟨gt, 5, none⟩ = some (.int .u64 (first : Int)) := Later.cell (hb5'.cell 5)
    have l6 : ∀ s : Later w5, s.val.cell? ⟨gt, 6, none⟩ = some (.int .u64 (cut : Int)) := Later.cell (hb5'.cell 6)
    have l7 : ∀ s : Later w5, s.val.cell? ⟨gt, 7, none⟩ = some (.int .i64 (safe : Int)) := Later.cell (hb5'.cell 7)
    obtain ⟨AV, hAV⟩ : ∃ AV, AV = (if d7 = a then A7 else Option.map (fun x => x.add a) A7) := ⟨_, rfl⟩
    have hrd : RSl rBs (fun _ => True) w5 (.slice AV (q - a) (d7 - a)) R := by
      have h1 : RSl rBs (fun _ => True) w5 (.slice A7 N d7) al := by
        have := (HO3.out.below hb5).rsl (ok := fun _ => True) (by decide) (by show al.length * 24 ≤ _; rw [← HN.out]; omega) (fun _ _ => trivial) (fun _ _ => trivial)
        rw [← HN.out] at this
        exact this
      have := (h1.take hqN).drop (k := a) haq
      rw [show a * rBs.sz = a from Nat.mul_one _, HPT.out] at this
      rw [hAV]
      exact this
    have HAV := Lib.hid hAV
    have HRD := Lib.hid hrd
    clear hAV hrd hb5'
    go_upto_region 13 with fail
    go_cut [133] (fun v wx => v = .bool false ∧ Below w5.heap.size w5 wx)
    case first =>
      as_aux_lemma =>
        have z1 : decide ((q : Int) > (N : Int)) = false := decide_eq_false (by omega)
        have z2 : decide ((N : Int) < (q : Int)) = false := decide_eq_false (by omega)
        have z3 : decide ((q : Int) < (safe : Int)) = false := decide_eq_false (by omega)
        have z4 : decide ((a : Int) > (q : Int)) = false := decide_eq_false (by omega)
        have z5 : decide ((q : Int) < (a : Int)) = false := decide_eq_false (by omega)
        have y1 : decide (N < q) = false := decide_eq_false (by omega)
        have y2 : decide (q < safe) = false := decide_eq_false (by omega)
        have y3 : decide (q < a) = false := decide_eq_false (by omega)
        refine wp_seqL [48, 56] (by as_aux_lemma => kernel_rfl) (by as_aux_lemma => kernel_rfl) fun w6 hb6 => ?_
        rcases hac with rfl | ⟨rfl, hlt⟩
        · skip
          refine seqL_pre 48 (by kernel_rfl) ?_
          simp only [List.take_succ_cons, List.take_zero, List.drop_succ_cons, List.drop_zero]
          repeat (go_big_quiet_step (fail))
          refine wpQuiet_nil ?_
          refine seqL_wild hb6 rfl rfl fun K hK => ?_
          unfold Gives
          go_simp
          refine (HF3.out _ (hb5.trans (hb6.mono hb5.size))).mono ?_
          rintro e w7 ⟨⟨vr, rfl, hR7⟩, hbb7⟩
          refine ⟨_, rfl, hK _ _ (hbb7) fun hb7 => ?_⟩
          clear hK
          clear K
          simp only [Act.put, List.setIfInBounds_toArray, List.set_cons_succ, List.set_cons_zero]
          refine seqL_pre 7 (by kernel_rfl) ?_
          simp only [List.take_succ_cons, List.take_zero, List.drop_succ_cons, List.drop_zero]
          repeat (go_big_quiet_step (fail))
          refine wpQuiet_nil ?_
          rw [← HAV.out]
          refine seqL_wild hb7 rfl rfl fun K hK => ?_
          unfold Gives
          go_simp
          refine (sameBs_any _ _ _ _ _ hR7 (HRD.out.below hb7)).mono ?_
          rw [decide_eq_true (rfl : R = R)]
          rintro e w8 ⟨rfl, hbb9⟩
          refine ⟨_, rfl, hK _ _ (hbb9) fun hb8 => ?_⟩
          clear hK
          clear K
          simp only [Act.put, List.setIfInBounds_toArray, List.set_cons_succ, List.set_cons_zero]
          refine seqL_pre 2 (by kernel_rfl) ?_
          simp only [List.take_succ_cons, List.take_zero, List.drop_succ_cons, List.drop_zero]
          repeat (go_big_quiet_step (fail))
          refine wpQuiet_nil ?_
          refine seqL_nil ?_
          go_wp2
          go_meet
          exact ⟨rfl, hb8⟩
        · have z6 : ((a : Int) != (first : Int)) = true := by rw [bne_iff_ne]; omega
          refine seqL_pre 48 (by kernel_rfl) ?_
          simp only [List.take_succ_cons, List.take_zero, List.drop_succ_cons, List.drop_zero]
          repeat (go_big_quiet_step (fail))
          refine wpQuiet_nil ?_
          refine seqL_wild hb6 rfl rfl fun K hK => ?_
          unfold Gives
          go_simp
          refine (HF3.out _ (hb5.trans (hb6.mono hb5.size))).mono ?_
          rintro e w7 ⟨⟨vr, rfl, hR7⟩, hbb7⟩
          refine ⟨_, rfl, hK _ _ (hbb7) fun hb7 => ?_⟩
          clear hK
          clear K
          simp only [Act.put, List.setIfInBounds_toArray, List.set_cons_succ, List.set_cons_zero]
          refine seqL_pre 7 (by kernel_rfl) ?_
          simp only [List.take_succ_cons, List.take_zero, List.drop_succ_cons, List.drop_zero]
          repeat (go_big_quiet_step (fail))
          refine wpQuiet_nil ?_
          rw [← HAV.out]
          refine seqL_wild hb7 rfl rfl fun K hK => ?_
          unfold Gives
          go_simp
          refine (sameBs_any _ _ _ _ _ hR7 (HRD.out.below hb7)).mono ?_
          rw [decide_eq_true (rfl : R = R)]
          rintro e w8 ⟨rfl, hbb9⟩
          refine ⟨_, rfl, hK _ _ (hbb9) fun hb8 => ?_⟩
          clear hK
          clear K
          simp only [Act.put, List.setIfInBounds_toArray, List.set_cons_succ, List.set_cons_zero]
          refine seqL_pre 2 (by kernel_rfl) ?_
          simp only [List.take_succ_cons, List.take_zero, List.drop_succ_cons, List.drop_zero]
          repeat (go_big_quiet_step (fail))
          refine wpQuiet_nil ?_
          refine seqL_nil ?_
          go_wp2
          go_meet
          exact ⟨rfl, hb8⟩
    obtain ⟨rfl, hbc⟩ := hcut
    have hbE : Below w4.heap.size w4 wc := hb5.trans (hbc.mono hb5.size)
    have hbl : Blk wc gt 53 (trCs gd gl n (.slice A7 N d7) first first cut safe dn fe) := by
      have := HB3.out.below hbE HB3.out.lt
      rw [← HN.out] at this
      exact this
    have c3 : wc.cell? ⟨gt, 3, none⟩ = some (.slice A7 N d7) := hbl.cell 3
    have c4 : wc.cell? ⟨gt, 4, none⟩ = some (.int .u64 (first : Int)) := hbl.cell 4
    have c6 : wc.cell? ⟨gt, 6, none⟩ = some (.int .u64 (cut : Int)) := hbl.cell 6
    have c9 : wc.cell? ⟨gt, 9, none⟩ = some (.bool fe) := hbl.cell 9
    have HBL := Lib.hid hbl
    clear hbl l3 l4 l5 l6 l7 hb5 hbc
    go_upto_region 15 with fail
    go_cut [156] (fun v wx => v = .bool false ∧ wx = wc)
    case first =>
      as_aux_lemma =>
        cases hfe : fe
        · obtain ⟨h1, h2⟩ := HFULL.out (hfl (by rw [← HFE.out]; exact hfe)).1 (hfl (by rw [← HFE.out]; exact hfe)).2
          rw [hfe] at c9
          subst h1
          rw [← HN.out] at h2
          subst h2
          go_wp2
          go_meet
          exact ⟨rfl, rfl⟩
        · rw [hfe] at c9
          go_wp2
          go_meet
          exact ⟨rfl, rfl⟩
    obtain ⟨rfl, rfl⟩ := hcut
    obtain ⟨w9, rfl⟩ : ∃ w9, w9 = wc := ⟨_, rfl⟩
    have l4 : ∀ s : Later w9, s.val.cell? ⟨gt, 4, none⟩ = some (.int .u64 (first : Int)) := Later.cell c4
    have l6 : ∀ s : Later w9, s.val.cell? ⟨gt, 6, none⟩ = some (.int .u64 (cut : Int)) := Later.cell c6
    go_upto_region 17 with fail
    go_cut [181] (fun v wx => v = .bool false ∧ Below w9.heap.size w9 wx)
    case first =>
      as_aux_lemma =>
        refine wp_seqL [] (by as_aux_lemma => kernel_rfl) (by as_aux_lemma => kernel_rfl) fun w6 hb6 => ?_
        by_cases hfc : first < cut
        · have v2 : decide (first < cut) = true := decide_eq_true hfc
          have v3 : decide ((first : Int) < (cut : Int)) = true := decide_eq_true (by omega)
          by_cases hac2 : a = cut
          · have v1 : decide (q < cut) = false := decide_eq_false (by omega)
            have v4 : ((a : Int) == (cut : Int)) = true := by rw [beq_iff_eq]; omega
            have v5 : decide (a = cut) = true := decide_eq_true hac2
            have v6 : decide ((a : Int) = (cut : Int)) = true := decide_eq_true (by omega)
            clear hac2
            refine seqL_pre 25 (by kernel_rfl) ?_
            simp only [List.take_succ_cons, List.take_zero, List.drop_succ_cons, List.drop_zero]
            repeat (go_big_quiet_step (fail))
            refine wpQuiet_nil ?_
            refine seqL_nil ?_
            go_wp2
            go_meet
            exact ⟨rfl, hb6⟩
          · have v4 : ((a : Int) == (cut : Int)) = false := by rw [beq_eq_false_iff_ne]; omega
            have v5 : decide (a = cut) = false := decide_eq_false hac2
            have v6 : decide ((a : Int) = (cut : Int)) = false := decide_eq_false (by omega)
            clear hac2
            refine seqL_pre 25 (by kernel_rfl) ?_
            simp only [List.take_succ_cons, List.take_zero, List.drop_succ_cons, List.drop_zero]
            repeat (go_big_quiet_step (fail))
            refine wpQuiet_nil ?_
            refine seqL_nil ?_
            go_wp2
            go_meet
            exact ⟨rfl, hb6⟩
        · have v2 : decide (first < cut) = false := decide_eq_false hfc
          have v3 : decide ((first : Int) < (cut : Int)) = false := decide_eq_false (by omega)
          refine seqL_pre 25 (by kernel_rfl) ?_
          simp only [List.take_succ_cons, List.take_zero, List.drop_succ_cons, List.drop_zero]
          repeat (go_big_quiet_step (fail))
          refine wpQuiet_nil ?_
          refine seqL_nil ?_
          go_wp2
          go_meet
          exact ⟨rfl, hb6⟩
    obtain ⟨rfl, hbA⟩ := hcut
    have hblA := HBL.out.below hbA HBL.out.lt
    have hbB := hbE.trans (hbA.mono hbE.size)
    obtain ⟨wA, rfl⟩ : ∃ wA, wA = wc := ⟨_, rfl⟩
    clear c3 c4 c6 c9 l4 l6 HBL hbE hbA
    have fg := fun i => hblA.frozen i
    have l3 : ∀ s : Later wA, s.val.cell? ⟨gt, 3, none⟩ = some (.slice A7 N d7) := Later.cell (hblA.cell 3)
    have c3 : wA.cell? ⟨gt, 3, none⟩ = some (.slice A7 N d7) := hblA.cell 3
    go_upto_region 19 with fail
    refine wp_seqB1 (fun b => b = gt) 17 [17, 20, 23, 26, 29] (by as_aux_lemma => kernel_rfl) (by as_aux_lemma => kernel_rfl) fun w19 hb19 => ?_
    have hbl4 := hblA.below hb19 hblA.lt
    have fg4 := fun i => hbl4.frozen i
    have c41 : w19.cell? ⟨gt, 1, none⟩ = some (.pointer (some ⟨gl, 0, none⟩)) := hbl4.cell 1
    have c43 : w19.cell? ⟨gt, 3, none⟩ = some (.slice A7 N d7) := hbl4.cell 3
    have c44 : w19.cell? ⟨gt, 4, none⟩ = some (.int .u64 (first : Int)) := hbl4.cell 4
    have c45 : w19.cell? ⟨gt, 5, none⟩ = some (.int .u64 (first : Int)) := hbl4.cell 5
    have c46 : w19.cell? ⟨gt, 6, none⟩ = some (.int .u64 (cut : Int)) := hbl4.cell 6
    have hkp : ∀ (w : World) o u, Kp (fun b => ¬ b = gt) w (w.setCell ⟨gt, o, none⟩ u) := fun w o u => (Kp.refl _ _).setCell (fun _ h => h rfl) _
    refine seqB_pre 9 (by kernel_rfl) ?_
    simp only [List.take_succ_cons, List.take_zero, List.drop_succ_cons, List.drop_zero]
    repeat (go_big_quiet_step (fail))
    refine wpQuiet_nil ?_
    refine seqB_pre0 1 (by kernel_rfl) (by kernel_rfl) ?_
    simp only [List.take_succ_cons, List.take_zero, List.drop_succ_cons, List.drop_zero]
    repeat (go_big_quiet_step (fail))
    refine wpQuiet_nil ?_
    refine seqB_pre 7 (by kernel_rfl) ?_
    simp only [List.take_succ_cons, List.take_zero, List.drop_succ_cons, List.drop_zero]
    repeat (go_big_quiet_step (fail))
    refine wpQuiet_nil ?_
    refine seqB_wild (Kp.of_below hb19) rfl rfl fun K hK => ?_
    unfold Gives
    go_simp
    refine hK _ _ (hkp _ _ _) fun hK5 => ?_
    clear hK
    clear K
    simp only [Act.put, List.setIfInBounds_toArray, List.set_cons_succ, List.set_cons_zero]
    refine seqB_pre 2 (by kernel_rfl) ?_
    simp only [List.take_succ_cons, List.take_zero, List.drop_succ_cons, List.drop_zero]
    repeat (go_big_quiet_step (fail))
    refine wpQuiet_nil ?_
    refine seqB_wild hK5 rfl rfl fun K hK => ?_
    unfold Gives
    go_simp
    refine hK _ _ (hkp _ _ _) fun hK6 => ?_
    clear hK
    clear K
    simp only [Act.put, List.setIfInBounds_toArray, List.set_cons_succ, List.set_cons_zero]
    refine seqB_pre 2 (by kernel_rfl) ?_
    simp only [List.take_succ_cons, List.take_zero, List.drop_succ_cons, List.drop_zero]
    repeat (go_big_quiet_step (fail))
    refine wpQuiet_nil ?_
    refine seqB_wild hK6 rfl rfl fun K hK => ?_
    unfold Gives
    go_simp
    refine hK _ _ (hkp _ _ _) fun hK7 => ?_
    clear hK
    clear K
    simp only [Act.put, List.setIfInBounds_toArray, List.set_cons_succ, List.set_cons_zero]
    refine seqB_pre 2 (by kernel_rfl) ?_
    simp only [List.take_succ_cons, List.take_zero, List.drop_succ_cons, List.drop_zero]
    repeat (go_big_quiet_step (fail))
    refine wpQuiet_nil ?_
    refine seqB_wild hK7 rfl rfl fun K hK => ?_
    unfold Gives
    go_simp
    refine hK _ _ (hkp _ _ _) fun hK8 => ?_
    clear hK
    clear K
    simp only [Act.put, List.setIfInBounds_toArray, List.set_cons_succ, List.set_cons_zero]
    refine seqB_pre 2 (by kernel_rfl) ?_
    simp only [List.take_succ_cons, List.take_zero, List.drop_succ_cons, List.drop_zero]
    repeat (go_big_quiet_step (fail))
    refine wpQuiet_nil ?_
    refine seqB_wild hK8 rfl rfl fun K hK => ?_
    unfold Gives
    go_simp
    refine hK _ _ (hkp _ _ _) fun hK9 => ?_
    clear hK
    clear K
    simp only [Act.put, List.setIfInBounds_toArray, List.set_cons_succ, List.set_cons_zero]
    refine seqB_nil ?_
    have hblz : Blk (((((w19.setCell ⟨gt, 1, none⟩ (.pointer (some ⟨g2, 0, none⟩))).setCell ⟨gt, 3, none⟩ (.slice A7 q d7)).setCell ⟨gt, 4, none⟩ (.int .u64 (a : Int))).setCell ⟨gt, 5, none⟩ (.int .u64 (a : Int))).setCell ⟨gt, 6, none⟩ (.int .u64 (a : Int))) gt 53 (trCs gd g2 n (.slice A7 q d7) a a a safe dn fe) :=
      ((((hbl4.set_ 1 _).set_ 3 _).set_ 4 _).set_ 5 _).set_ 6 _
    generalize hwz : ((((w19.setCell ⟨gt, 1, none⟩ (.pointer (some ⟨g2, 0, none⟩))).setCell ⟨gt, 3, none⟩ (.slice A7 q d7)).setCell ⟨gt, 4, none⟩ (.int .u64 (a : Int))).setCell ⟨gt, 5, none⟩ (.int .u64 (a : Int))).setCell ⟨gt, 6, none⟩ (.int .u64 (a : Int)) = wz at hblz hK9 ⊢
    clear hwz
    clear hK5 hK6 hK7 hK8 hkp c41 c43 c44 c45 c46 fg4 fg c3 l3
    have fg := fun i => hblz.frozen i
    have c7 : wz.cell? ⟨gt, 7, none⟩ = some (.int .i64 (safe : Int)) := hblz.cell 7
    have c8 : wz.cell? ⟨gt, 8, none⟩ = some (.bool dn) := hblz.cell 8
    have c9 : wz.cell? ⟨gt, 9, none⟩ = some (.bool fe) := hblz.cell 9
    have HBLZ := Lib.hid hblz
    have HK9 := Lib.hid hK9
    clear hblz hK9
    go_upto_region 20 with fail
    go_wp2
    go_ret
    have hmin : min (safe : Int) (q : Int) = ((min safe q : Nat) : Int) := by omega
    rw [hmin]
    have hq' := HQ.out
    have hz3 := HK3.out.size
    have hkz : Kp (fun b => ¬ b = gt) w4 (((wz.setCell ⟨gt, 7, none⟩ (.int .i64 ((min safe q : Nat) : Int))).setCell ⟨gt, 8, none⟩ (.bool false)).setCell ⟨gt, 9, none⟩ (.bool false)) :=
      (((((Kp.of_below hbB).trans HK9.out)).setCell (fun _ h => h rfl) _).setCell (fun _ h => h rfl) _).setCell (fun _ h => h rfl) _
    have hB3 : Below B w w4 := ((HK1.out.below (by omega) fun b hb e => by omega).trans (HK2.out.below (by omega) fun b hb hf => by have := (hfb b hf).1; omega)).trans (HK3.out.below (by omega) fun b hb hf => by have := (hfb b hf).1; omega)
    have hBZ := hB3.trans (hkz.below (by omega) fun b hb e => by omega)
    have hblz := ((HBLZ.out.set_ 7 (.int .i64 ((min safe q : Nat) : Int))).set_ 8 (.bool false)).set_ 9 (.bool false)
    have hOz := (HO3.out.take_ (k := q) (by rw [← HN.out]; exact hqN)).kp hkz (fun x hx => (hg x hx).2) (fun x hx => (hva x (by rw [← hx]; cases A7 <;> rfl)).2)
    have hLz := HL3.out.kp hkz fun x hx e => by
      rcases hx with hx | hx
      · exact hfgt (e ▸ hx)
      · omega
    have hsz := hkz.size
    refine ⟨rfl, ⟨g2, T', a, R, _, hT', HFD.out, ?_, hLz⟩, hBZ⟩
    rw [← hq']
    refine ⟨⟨_, g, hblz, hOz, fun x hx => ⟨?_, (hg x hx).2⟩, fun x hx => ?_⟩, hbase, fun x hx => ?_, fun hx => ?_⟩
    · rintro (h1 | h1)
      · exact (hg x hx).1 h1
      · have := hgs x hx; omega
    · have hx' : (Value.slice A7 al.length d7).ownBlock = some x := by rw [← hx]; cases A7 <;> rfl
      refine ⟨?_, (hva x hx').2⟩
      rintro (h1 | h1)
      · exact (hva x hx').1 h1
      · have := hvs x hx'; omega
    · rcases hx with h1 | h1
      · have := hfb x h1; omega
      · omega
    · rcases hx with h1 | h1
      · exact hfgt h1
      · omega
end Go.Proofs.Ytlnnfdjhejdgdaa
