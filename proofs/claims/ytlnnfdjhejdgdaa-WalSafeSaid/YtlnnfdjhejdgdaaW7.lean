/- Contract: (*Disk).Flush. -/
import Derived.Test.YtlnnfdjhejdgdaaW6
namespace Go.Proofs.Ytlnnfdjhejdgdaa
open Go.RowKit

theorem gives_st {P : Program} {o : Oper} {a : Act} {w : World} {g k : Nat} {T : TypeId} {C : Array Value} {Φ : Value → World → Prop} {ty : TypeId} {x y : Operand} (ho : o.op = .store ty x y) (cs : Array Value) (hx : a.eval x = .pointer (some ⟨g, k, none⟩)) (hy : a.eval y = .agg cs) (hk : Blk w g T C) (hs : k + cs.size ≤ C.size) (hi : (P.info? ty).map (·.size) = some cs.size) (h1 : cs.all (·.oneCell') = true)
    (h : Φ undef (w.setCells g k cs.toList)) : Gives P o a w Φ := by
  unfold Gives execOp
  simp only [ho, hx, hy, Sem.run_bind, Sem.run_pure, run_storeAt_mid w g k ty cs (hk.there_at k cs.size hs) hi h1, Result.andThen_ok, giv]
  exact h
/-- a sector stored among the kept ones -/
theorem sec_store {w : World} {kb : Nat} {T : TypeId} {k : List (List UInt8)} (h : Blk w kb T (secCells k).toArray) (hk : ∀ s ∈ k, s.length = 64) {i : Nat} (hi : i < k.length) {s : List UInt8} (hs : s.length = 64) : Blk (w.setCells kb (i * 64) (bs s).toArray.toList) kb T (secCells (k.set i s)).toArray := by
  have e0 : secCells k = secCells (k.take i) ++ bs k[i] ++ secCells (k.drop (i + 1)) := by
    have := secCells_split k i hi k[i]
    rwa [List.set_getElem_self] at this
  have hl : (secCells (k.take i)).toArray.size = i * 64 := by
    rw [List.size_toArray, secCells_len _ fun s hs => hk s (List.mem_of_mem_take hs), List.length_take, Nat.min_eq_left (by omega)]
  have h2 : Blk w kb T ((secCells (k.take i)).toArray ++ (bs k[i]).toArray ++ (secCells (k.drop (i + 1))).toArray) := by
    have e : (secCells k).toArray = (secCells (k.take i)).toArray ++ (bs k[i]).toArray ++ (secCells (k.drop (i + 1))).toArray := by
      apply Array.ext'
      simp [e0]
    rwa [e] at h
  have h3 := h2.setCells_mid (bs s).toArray (by rw [List.size_toArray, List.size_toArray, bs_len, bs_len, hs, hk _ (List.getElem_mem _)])
  rw [hl] at h3
  have e : (secCells (k.set i s)).toArray = (secCells (k.take i)).toArray ++ (bs s).toArray ++ (secCells (k.drop (i + 1))).toArray := by
    apply Array.ext'
    rw [secCells_split k i hi s]
    simp
  rw [e]
  exact h3
theorem keepW_take (k : List (List UInt8)) (l : List (Nat × List UInt8)) {i : Nat} (hi : i < l.length) : keepW k (l.take (i + 1)) = (keepW k (l.take i)).set l[i].1 l[i].2 := by
  unfold keepW
  rw [List.take_succ_eq_append_getElem hi, List.foldl_append]
  rfl
theorem OwnL.rslP {α : Type} {E : Rel α} {okd ok : Nat → Prop} {base : Nat} {T : TypeId} {w : World} {v : Value} {l : List α} (h : OwnL E okd base T w v l) (hb : l.length * E.wt ≤ 140737488351232) (hrow : ∀ b, base ≤ b → some b = v.ownBlock → ok b) (hd : ∀ b, okd b → ok b) : RSl E ok w v l := by
  have hlt := h.lt
  obtain ⟨css, ho, hch⟩ := h
  obtain ⟨A, c, rfl, hc, _⟩ := own_slice w ho
  refine ⟨A, l.length, c, css, rfl, hc, rfl, hb, Rd.of_own ho, hch.mono fun b hb _ => hd b hb.1, fun _ a ha => ?_⟩
  subst ha
  exact hrow _ (hlt _ rfl).1 rfl
set_option maxRecDepth 100000 in
set_option maxHeartbeats 6400000 in
theorem dFlush_any {ft : Nat → Prop} {g : Nat} {d : DskD} {w : World} (h : DiskR ft w g d) :
    Calls Try.prog 43 #[.pointer (some ⟨g, 0, none⟩)] w fun e w' => e = .returned (.int .i64 d.flush.2) ∧ DiskR ft w' g d.flush.1 ∧ Kp (fun b => ¬ ft b) w w' := by
  have hR := h
  have hft := h.ft
  by_cases hd : d.down = true
  · have hw : d.flush = (d, 3) := by unfold DskD.flush; rw [if_pos hd]
    rw [hw]
    go_enter Try.func43, Try.ntmps43
    go_wp2_with fail
    refine (up_any hR).mono ?_
    rw [if_pos hd]
    rintro e w1 ⟨rfl, rfl⟩
    go_wp2_with fail
    refine (fine_any 3 _).mono ?_
    rintro e w1 ⟨rfl, rfl⟩
    go_wp2
    go_ret
    exact ⟨rfl, hR, Kp.refl _ _⟩
  have HD := Lib.hid hd
  obtain ⟨d1, hd1⟩ : ∃ d1, d1 = d.hit.1 := ⟨_, rfl⟩
  have hkw : d1.kept = d.kept ∧ d1.wait = d.wait := by
    rw [hd1]
    unfold DskD.hit
    split <;> exact ⟨rfl, rfl⟩
  have HH := Lib.hid (hit_any (w := w) hR)
  rw [← hd1] at HH
  by_cases hh : d.hit.2 = true
  · have hw : d.flush = (d1, 3) := by unfold DskD.flush; rw [if_neg hd, if_pos hh, hd1]
    rw [hw]
    rw [hh] at HH
    clear hd hd1 hw hh hkw
    go_enter Try.func43, Try.ntmps43
    go_wp2_with fail
    refine (up_any hR).mono ?_
    rw [if_neg HD.out]
    rintro e w1 ⟨rfl, rfl⟩
    go_wp2_with fail
    refine (fine_any 0 _).mono ?_
    rintro e w1 ⟨rfl, rfl⟩
    go_wp2_with fail
    refine HH.out.mono ?_
    rintro e w2 ⟨rfl, hR2, hK2⟩
    go_wp2
    go_ret
    exact ⟨rfl, hR2, hK2.mono fun b hb e => hb (e ▸ hft)⟩
  have hhf : d.hit.2 = false := by simpa using hh
  have hw : d.flush = ({ d1 with kept := keepW d1.kept d1.wait, wait := [] }, 0) := by
    unfold DskD.flush
    rw [if_neg hd, if_neg hh, hkw.1, hkw.2, hd1]
  rw [hw]
  rw [hhf] at HH
  clear hd hd1 hw hh hkw hhf
  go_enter Try.func43, Try.ntmps43
  go_wp2_with fail
  refine (up_any hR).mono ?_
  rw [if_neg HD.out]
  rintro e w1 ⟨rfl, rfl⟩
  go_wp2_with fail
  refine (fine_any 0 _).mono ?_
  rintro e w1 ⟨rfl, rfl⟩
  go_wp2_with fail
  refine HH.out.mono ?_
  rintro e w2 ⟨rfl, hR2, hK2⟩
  have hK2' : Kp (fun b => ¬ ft b) w1 w2 := hK2.mono fun b hb e => hb (e ▸ hft)
  obtain ⟨kb, vw, h1, h2, h3, h4, h5, h6, h7, h8, h9, h10, h11, h12, h13, h14⟩ := hR2
  obtain ⟨c0, c1, c2, c3⟩ := dk_cells h1
  have hwl : RSl rWt (fun b => some b = vw.ownBlock) w2 vw d1.wait := h3.rslP (show d1.wait.length * 72 ≤ _ by omega) (fun b _ e => e) (fun _ h => h.elim)
  obtain ⟨A5, c5, rfl, _, _⟩ := hwl.form
  have H10k := Lib.hid h10.kept
  have H10w := Lib.hid h10.wait
  clear HH HD hR h3
  go_upto_region 6 with fail
  go_wp2
  go_loopw [20] (fun j wr => ∃ i : Nat, i ≤ d1.wait.length ∧ j = .int .i64 (i : Int) ∧ Kp (fun b => b ≠ kb) w2 wr ∧ Blk wr kb 84 (secCells (keepW d1.kept (d1.wait.take i))).toArray) (fun j _ => d1.wait.length - (intOf j).toNat)
  case atStart => exact ⟨0, by omega, rfl, Kp.refl _ _, by simpa [keepW] using h2⟩
  case round =>
    obtain ⟨i, hi, rfl, hk, ks⟩ := hrel
    have kg := h1.kp hk (Ne.symm h4)
    obtain ⟨r0, r1, r2, r3⟩ := dk_cells kg
    by_cases hlt : i < d1.wait.length
    · have u0 : decide ((i : Int) < (d1.wait.length : Int)) = true := decide_eq_true (by omega)
      have hKlen : (keepW d1.kept (d1.wait.take i)).length = d1.kept.length := keepW_len _ _
      have hK64 : ∀ s ∈ keepW d1.kept (d1.wait.take i), s.length = 64 := keepW_64 _ _ H10k.out fun p hp => (H10w.out p (List.mem_of_mem_take hp)).2
      have hwt := H10w.out _ (List.getElem_mem hlt)
      have hstep := keepW_take d1.kept d1.wait hlt
      obtain ⟨b9, off9, c9, cs9, hv9, hb9, ⟨rfl, hp64⟩, hcell9⟩ := hwl.at_ hlt
      simp only [Value.slice.injEq, true_and] at hv9
      obtain ⟨rfl, rfl⟩ := hv9
      obtain ⟨pw, hpw⟩ : ∃ pw, pw = d1.wait[i] := ⟨_, rfl⟩
      rw [← hpw] at hcell9 hp64 hstep hwt
      obtain ⟨K, hKd⟩ : ∃ K, K = keepW d1.kept (d1.wait.take i) := ⟨_, rfl⟩
      rw [← hKd] at ks hKlen hK64 hstep
      have HST := Lib.hid hstep
      have hq : pw.1 < d1.kept.length := hwt.1
      have hb9k : b9 ≠ kb := fun e => h6 (by rw [← hb9, e])
      have hcell : ∀ j u, (#[Value.int .i64 (pw.1 : Int)] ++ (bs pw.2).toArray).toList[j]? = some u → wr.cell? ⟨b9, off9 + i * 65 + j, none⟩ = some u := fun j u hu => hk.cell (p := ⟨b9, off9 + i * 65 + j, none⟩) hb9k (hcell9 j u (by simpa using hu))
      have hpsz : (bs pw.2).toArray.size = 64 := by rw [List.size_toArray, bs_len, hp64]
      have hwsz : (#[Value.int .i64 (pw.1 : Int)] ++ (bs pw.2).toArray).size = 65 := by rw [Array.size_append, hpsz]; rfl
      have HP64 := Lib.hid hp64
      have HK64 := Lib.hid hK64
      have HKL := Lib.hid hKlen
      clear hp64 hstep hpw hKd hwt hcell9 hK64 hKlen
      go_upto_region 8 with fail
      refine wp_region_split 1 ?_
      simp only [List.take_succ_cons, List.take_zero, List.drop_succ_cons, List.drop_zero]
      go_wp2
      show wpList _ _ _ _ _ _
      refine wpList_ld (g := b9) (k := off9 + i * 65) (cs := #[Value.int .i64 (pw.1 : Int)] ++ (bs pw.2).toArray) rfl rfl rfl (fun j u hu => hcell j u hu) Try.underlying86 rfl (by rw [hwsz]; exact Try.infoWt2) ?_
      simp only [Act.put, List.setIfInBounds_toArray, List.set_cons_succ, List.set_cons_zero]
      refine wpList_split 1 ?_
      simp only [List.take_succ_cons, List.take_zero, List.drop_succ_cons, List.drop_zero]
      go_wp2
      show wpList _ _ _ _ _ _
      refine wpList_st rfl rfl (#[Value.int .i64 (pw.1 : Int)] ++ (bs pw.2).toArray) rfl rfl (Blk.new_ rfl) (by rw [hwsz]; simp) (by rw [hwsz]; exact Try.infoWt2) (wt_all _ _) ?_ rfl
      intro kw
      have hBw := fun zs => below_setCells (B := wr.heap.size) (a := wr) (b := wr.heap.size) (Nat.le_refl _) (#[Value.int .i64 (pw.1 : Int)] ++ (bs pw.2).toArray).toList 0 ((Below.refl _ _).alloc (Nat.le_refl _) (.cells zs 86))
      go_upto_region 9 with fail
      refine name_world (fun w3 => Below wr.heap.size wr w3 ∧ Blk w3 wr.heap.size 86 (#[Value.int .i64 (pw.1 : Int)] ++ (bs pw.2).toArray)) ⟨hBw _, kw⟩ ?_
      clear hBw kw
      rintro w3 ⟨hB3, kw⟩
      have ks3 := ks.below hB3 ks.lt
      have kg3 := kg.below hB3 kg.lt
      have hk3 : Kp (fun b => b ≠ kb) w2 w3 := hk.trans (.of_below hB3)
      have hwk : wr.heap.size ≠ kb := by have := ks.lt; omega
      obtain ⟨wb, hwb⟩ : ∃ wb, wb = wr.heap.size := ⟨_, rfl⟩
      rw [← hwb] at kw hwk
      rw [← hwb]
      have lg : ∀ s : LaterB w3 (fun b => b = kb), s.val.cell? ⟨g, 0, none⟩ = some (.slice (some ⟨kb, 0, none⟩) d1.kept.length d1.kept.length) := LaterB.cell (kg3.cell 0) (Ne.symm h4)
      have lq : ∀ s : LaterB w3 (fun b => b = kb), s.val.cell? ⟨wb, 0, none⟩ = some (.int .i64 (pw.1 : Int)) := LaterB.cell ((kw.cell 0).trans (by rw [← Array.getElem?_toList, Array.toList_append]; rfl)) hwk
      clear hwb hcell hk ks kg r0 r1 r2 r3
      refine wp_seqB (fun b => b = kb) 9 [9] (by as_aux_lemma => kernel_rfl) (by as_aux_lemma => kernel_rfl) fun w4 hb4 => ?_
      refine seqB_pre 7 (by kernel_rfl) ?_
      simp only [List.take_succ_cons, List.take_zero, List.drop_succ_cons, List.drop_zero]
      repeat (go_big_quiet_step (fail))
      refine wpQuiet_nil ?_
      refine seqB_still (.agg (bs pw.2).toArray) rfl rfl (fun s => still_ld (g := wb) (k := 1) rfl rfl ((kw.kp s.kp hwk).rangeW 1 _ (by simpa using wt_range (pw.1 : Int) pw.2)) Try.underlying84 rfl (by rw [hpsz]; exact Try.infoSec2)) ?_
      simp only [Act.put, List.setIfInBounds_toArray, List.set_cons_succ, List.set_cons_zero]
      refine seqB_pre 1 (by kernel_rfl) ?_
      simp only [List.take_succ_cons, List.take_zero, List.drop_succ_cons, List.drop_zero]
      repeat (go_big_quiet_step (fail))
      refine wpQuiet_nil ?_
      have ks4 := ks3.below hb4 ks3.lt
      have kss := sec_store ks4 HK64.out (i := pw.1) (by rw [HKL.out]; exact hq) HP64.out
      refine seqB_wild (Kp.of_below hb4) rfl rfl fun K hK => ?_
      refine gives_st (k := pw.1 * 64) rfl (bs pw.2).toArray (by simp [Act.eval]) rfl ks4 (by rw [hpsz, List.size_toArray, secCells_len _ HK64.out, HKL.out]; omega) (by rw [hpsz]; exact Try.infoSec2) (bs_all _) ?_
      have hst := Kp.setCells (ok := fun b => ¬ b = kb) (a := w4) (b := kb) (fun _ hh => hh rfl) (bs pw.2).toArray.toList (pw.1 * 64) (Kp.refl _ _)
      generalize hwr : World.setCells w4 kb (pw.1 * 64) (bs pw.2).toArray.toList = w5 at kss hst ⊢
      clear hwr
      refine hK _ _ (hst) fun hK5 => ?_
      clear hK
      clear K
      simp only [Act.put, List.setIfInBounds_toArray, List.set_cons_succ, List.set_cons_zero]
      refine seqB_nil ?_
      have hk5 : Kp (fun b => b ≠ kb) w2 w5 := hk3.trans hK5
      clear lg lq
      go_wp2
      go_roundw
      case rel => exact ⟨i + 1, by omega, by go_num, hk5, by rw [HST.out]; exact kss⟩
      case measure => simp [intOf]; omega
    · have u0 : decide ((i : Int) < (d1.wait.length : Int)) = false := decide_eq_false (by omega)
      have hti : d1.wait.take i = d1.wait := List.take_of_length_le (by omega)
      rw [hti] at ks
      have fg := fun i => kg.frozen i
      have hkp : Kp (fun b => b ≠ g) wr (wr.setCell ⟨g, 1, none⟩ (.slice none 0 0)) := (Kp.refl _ _).setCell (fun _ h => h rfl) _
      have kgz := kg.set_ 1 (.slice none 0 0)
      have ksz := ks.far (p := ⟨g, 1, none⟩) h4 (.slice none 0 0)
      have hfin : DiskR ft (wr.setCell ⟨g, 1, none⟩ (.slice none 0 0)) g { d1 with kept := keepW d1.kept d1.wait, wait := [] } := by
        refine ⟨kb, .slice none 0 0, ?_, ksz, OwnL.nil_ _ _ _ _ _, h4, by simp [Value.ownBlock], by simp [Value.ownBlock], h7, h8, (fun b hb => by cases hb), ⟨keepW_64 _ _ H10k.out fun p hp => (H10w.out p hp).2, (fun p hp => by cases hp)⟩, ?_⟩
        · have e := keepW_len d1.wait d1.kept
          simp only [e]
          simpa using kgz
        · refine ⟨by simp only [keepW_len]; omega, by simp only [keepW_len]; omega, h13, by simp⟩
      have hKf : Kp (fun b => ¬ ft b) w1 (wr.setCell ⟨g, 1, none⟩ (.slice none 0 0)) := (hK2'.trans (hk.mono fun b hb e => hb (e ▸ h8))).trans (hkp.mono fun b hb e => hb (e ▸ h7))
      have HF := Lib.hid hfin
      clear hfin kgz ksz hkp hti hwl
      go_wp2
      go_ret
      exact ⟨rfl, HF.out, hKf⟩
end Go.Proofs.Ytlnnfdjhejdgdaa
