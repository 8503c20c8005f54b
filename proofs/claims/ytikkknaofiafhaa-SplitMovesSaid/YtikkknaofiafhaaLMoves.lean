/- SplitMoves' walk. -/
import Derived.Test.YtikkknaofiafhaaMt
import Derived.Test.YtikkknaofiafhaaS12
import Derived.Test.YtikkknaofiafhaaP12
namespace Go.Proofs.Ytikkknaofiafhaa
open Go.RowKit

theorem spare_of (s : Int) : ∃ sp : Int, wrap64 (1 + wrap64 ((IntKind.u64.wrap s).tmod 4)) = sp ∧ 1 ≤ sp ∧ sp ≤ 4 := by
  have h1 : IntKind.u64.wrap s = s % 18446744073709551616 := IntKind.wrap_u64 s
  have h2 : (IntKind.u64.wrap s).tmod 4 = s % 18446744073709551616 % 4 := by rw [h1, Int.tmod_eq_emod_of_nonneg (by omega)]
  have h3 : wrap64 ((IntKind.u64.wrap s).tmod 4) = s % 18446744073709551616 % 4 := by
    rw [h2]; unfold wrap64; omega
  have h4 : wrap64 (1 + wrap64 ((IntKind.u64.wrap s).tmod 4)) = 1 + s % 18446744073709551616 % 4 := by
    rw [h3]; unfold wrap64; omega
  exact ⟨_, rfl, by rw [h4]; omega, by rw [h4]; omega⟩
set_option maxRecDepth 100000 in
set_option maxHeartbeats 40000000 in
theorem lawMoves (v0 v1 v2 : Value) (l0 : List PairD) (kA kL : List UInt8) (sp0 : Int) (w : World) (h0 : RSl rPair (fun _ => True) w v0 l0) (h1 : RB (fun _ => True) w v1 kA) (h2 : RB (fun _ => True) w v2 kL) (hs : I64 sp0) :
    Calls Try.prog 7 #[v0, v1, v2, .int .i64 sp0] w fun e w' => e = .returned (.bool true) ∧ Below w.heap.size w w' := by
  have hl := h0.mono (ok' := fun b => b < w.heap.size) (by decide) fun b _ h => h
  have hA := h1.mono (ok' := fun b => b < w.heap.size) (by decide) fun b _ h => h
  have hL := h2.mono (ok' := fun b => b < w.heap.size) (by decide) fun b _ h => h
  clear h0 h1 h2
  obtain ⟨A0, c0, rfl, hc0, hbd0⟩ := hl.form
  obtain ⟨A1, c1, rfl, hc1, hbd1⟩ := hA.form
  obtain ⟨A2, c2, rfl, hc2, hbd2⟩ := hL.form
  obtain ⟨sp, hsp, hsp1, hsp4⟩ := spare_of sp0
  have HSP := Lib.hid hsp
  clear hsp
  go_enter Try.func7, Try.ntmps7
  go_wp2_with fail
  rw [HSP.out]
  refine (rootNew_any sp hsp1 hsp4 _).mono ?_
  rintro e w1 ⟨⟨gr, rfl, hgr, hroot⟩, hb1⟩
  go_upto_region 3 with fail
  have hz1 : w.heap.size ≤ w1.heap.size := hb1.size
  have hx1 := RSl.one_new (ok := fun b => w1.heap.size ≤ b) (E := rU8) (w := w1) (cs := #[.int .u8 120]) (d := 120) 5 rfl (by simp) (by decide)
  have hx2 := RSl.one_new (ok := fun b => w1.heap.size ≤ b) (E := rU8) (w := w1.alloc (.cells #[.int .u8 120] 5)) (cs := #[.int .u8 121]) (d := 121) 5 rfl (by simp) (by decide)
  have hbb : Below w1.heap.size w1 (((w1.alloc (.cells #[.int .u8 120] 5)).alloc (.cells #[.int .u8 121] 5)).alloc (.cells #[.slice (some ⟨w1.heap.size, 0, none⟩) 1 1, .slice (some ⟨w1.heap.size + 1, 0, none⟩) 1 1] 50)) :=
    (((Below.refl _ _).alloc (Nat.le_refl _) _).alloc (by simp) _).alloc (by simp; omega) _
  refine name_world (fun w2 => Below w1.heap.size w1 w2 ∧ w1.heap.size + 3 ≤ w2.heap.size ∧ Blk w2 (w1.heap.size + 1 + 1) 50 #[.slice (some ⟨w1.heap.size, 0, none⟩) 1 1, .slice (some ⟨w1.heap.size + 1, 0, none⟩) 1 1] ∧ RB (fun b => w1.heap.size ≤ b ∧ b < w1.heap.size + 2) w2 (.slice (some ⟨w1.heap.size, 0, none⟩) 1 1) [120] ∧ RB (fun b => w1.heap.size ≤ b ∧ b < w1.heap.size + 2) w2 (.slice (some ⟨w1.heap.size + 1, 0, none⟩) 1 1) [121]) ⟨hbb, by simp, Blk.new_ (by simp), ?_, ?_⟩ ?_
  · exact (((hx1.mono (ok' := fun b => w1.heap.size ≤ b ∧ b < w1.heap.size + 2) (by decide) fun b h h2 => ⟨h, by simp at h2; omega⟩).below ((Below.refl _ _).alloc (Nat.le_refl _) _)).below ((Below.refl _ _).alloc (Nat.le_refl _) _))
  · have := (hx2.mono (ok' := fun b => w1.heap.size ≤ b ∧ b < w1.heap.size + 2) (by decide) fun b h h2 => ⟨h, by simp at h2; omega⟩).below ((Below.refl _ _).alloc (Nat.le_refl _) (.cells #[.slice (some ⟨w1.heap.size, 0, none⟩) 1 1, .slice (some ⟨w1.heap.size + 1, 0, none⟩) 1 1] 50))
    simpa using this
  clear hx1 hx2 hbb
  rintro w2 ⟨hb2, hz2, ks2, rx1, rx2⟩
  have hroot2 := (hroot.mono (ok2 := fun b => b < w1.heap.size ∧ b ≠ gr) fun b h h2 => ⟨h2, h.2⟩).kp (.of_below hb2 (ok := fun _ => True)) trivial (fun _ _ => trivial)
  have hgr1 : gr < w1.heap.size := hroot.lt
  have hB2 := hb1.trans (hb2.mono hz1)
  obtain ⟨gs, hgs⟩ : ∃ gs, gs = w1.heap.size + 1 + 1 := ⟨_, rfl⟩
  rw [← hgs] at ks2 ⊢
  have hgs2 : w1.heap.size + 2 ≤ gs ∧ gs < w2.heap.size := by omega
  clear hgs hroot hb1 hb2
  go_wp2
  go_loopw [12, 13] (fun v j wr => ∃ (i : Nat) (hs : List Nat), i ≤ 6 ∧ hs.length = i ∧ j = .int .i64 (i : Int) ∧ Below w2.heap.size w2 wr ∧ OwnL rPtr (fun _ => False) w2.heap.size 83 wr v hs ∧ hs.Nodup ∧ ∀ h ∈ hs, w2.heap.size ≤ h ∧ some h ≠ v.ownBlock ∧ Blk wr h 90 (shCs nl nl nl nl 0 nl nl nl nl)) (fun _ j _ => 6 - (intOf j).toNat)
  case atStart => exact ⟨0, [], by omega, rfl, rfl, Below.refl _ _, OwnL.nil_ _ _ _ _ _, List.nodup_nil, fun h hh => by cases hh⟩
  case round =>
    obtain ⟨i, hsl, hi, hlen, rfl, hb, hown, hnd, hall⟩ := hrel
    by_cases hlt : i < 6
    · have HALL := Lib.hid hall
      have HLEN := Lib.hid hlen
      have HND := Lib.hid hnd
      clear hall hlen hnd
      go_wp2_with fail
      refine (shNew_nil _).mono ?_
      rintro e w4 ⟨⟨g, rfl, hg, kg⟩, hb4⟩
      have own4 := hown.below hb4
      have hbs := hb.trans (hb4.mono hb.size)
      have hzs : w2.heap.size ≤ w4.heap.size := hbs.size
      have hlt12 := hown.lt
      have hL12 := Lib.hid hlt12
      clear hlt12 hown
      go_wp2_with (at_builtin; go_loud (refine wp_app1 (E := rPtr) (okd := fun _ => False) Try.rowPtr (by decide) rfl _ _ rfl u12 hsl w4 #[.pointer (some ⟨g, 0, none⟩)] g rfl own4 rfl rfl (by rw [HLEN.out]; show (i + 1) * 8 ≤ _; omega) (by rw [HLEN.out]; omega) hzs ?_); intro v' w5 hown5 hk5 hv5)
      have hbel := own4.bel hk5 hzs
      go_wp2
      go_roundw
      case rel =>
        refine ⟨i + 1, hsl ++ [g], by omega, by rw [List.length_append, HLEN.out]; rfl, by go_num, hbs.trans (hbel.mono (Nat.le_refl _)), hown5, ?_, fun h hh => ?_⟩
        · refine List.nodup_append.2 ⟨HND.out, by simp, fun a ha b hb' => ?_⟩
          rw [List.mem_singleton.1 hb']
          have := (HALL.out a ha).2.2.lt
          omega
        · have hgo : some g ≠ u12.ownBlock := fun e => by have := (hL12.out g e.symm).2; omega
          rcases List.mem_append.1 hh with hh | hh
          · obtain ⟨q1, q2, q3⟩ := HALL.out h hh
            refine ⟨q1, fun e => ?_, (q3.below hb4 q3.lt).kp hk5 q2⟩
            rcases hv5 with h5 | h5
            · rw [h5] at e; exact q2 e
            · rw [h5] at e; cases e; have := q3.lt; have := hb4.size; omega
          · rw [List.mem_singleton.1 hh]
            refine ⟨by have := hb.size; omega, fun e => ?_, kg.kp hk5 hgo⟩
            rcases hv5 with h5 | h5
            · rw [h5] at e; exact hgo e
            · rw [h5] at e; cases e; have := kg.lt; omega
      case measure => simp [intOf]; omega
    · obtain rfl : i = 6 := by omega
      match hsl, hlen, hown, hnd, hall with
      | [h0, h1, h2, h3, h4, h5], _, hown, hnd, hall =>
        simp only [List.nodup_cons, List.mem_cons, List.not_mem_nil, not_or, or_false, List.nodup_nil, and_true] at hnd
        obtain ⟨⟨n01, n02, n03, n04, n05⟩, ⟨n12, n13, n14, n15⟩, ⟨n23, n24, n25⟩, ⟨n34, n35⟩, n45⟩ := hnd
        obtain ⟨p2, o2, k2⟩ := hall h2 (by simp)
        obtain ⟨p3, o3, k3⟩ := hall h3 (by simp)
        obtain ⟨p4, o4, k4⟩ := hall h4 (by simp)
        obtain ⟨p5, o5, k5⟩ := hall h5 (by simp)
        obtain ⟨v12, c12, rfl, _⟩ := hown.form
        obtain ⟨c, hc⟩ : ∃ c : Who, c = ⟨gr, gs, h0, h1, h2, h3, h4, h5, gr⟩ := ⟨_, rfl⟩
        have ap : c.Apart w.heap.size := by
          rw [hc]
          exact ⟨by show gr ≠ gs; omega, by show gr ≠ h2; omega, by show gr ≠ h3; omega, by show gr ≠ h4; omega, by show gr ≠ h5; omega, by show gs ≠ h2; omega, by show gs ≠ h3; omega, by show gs ≠ h4; omega, by show gs ≠ h5; omega, n23, n24, n25, n34, n35, n45.1, fun b hb => by
            rcases hb with hb | hb | hb | hb | hb | hb <;> (simp only at hb; omega)⟩
        have hsp : ∀ b, c.sp b ↔ (b = gr ∨ b = gs ∨ b = h2 ∨ b = h3 ∨ b = h4 ∨ b = h5) := by rw [hc]; exact fun b => Iff.rfl
        have hcgr : c.gr = gr := by rw [hc]
        have hcrb : c.rb = c.gr := by rw [hc]
        have hch : c.h0 = h0 ∧ c.h1 = h1 ∧ c.h2 = h2 ∧ c.h3 = h3 ∧ c.h4 = h4 ∧ c.h5 = h5 := by rw [hc]; exact ⟨rfl, rfl, rfl, rfl, rfl, rfl⟩
        have hcgj : c.gj = gs := by rw [hc]
        obtain ⟨e0, e1, e2, e3, e4, e5⟩ := hch
        clear hc
        have hlow : ∀ b, b < w.heap.size → okW c b := fun b hb => .of hcrb fun hs => by have := ap.low b hs; omega
        have zsh : ∀ h, Blk wr h 90 (shCs nl nl nl nl 0 nl nl nl nl) → ShR (okW c) wr h zS := fun h k => ⟨nl, nl, nl, nl, 0, nl, nl, nl, nl, k, RSl.nil_ _ _ _, RSl.nil_ _ _ _, RSl.nil_ _ _ _, RSl.nil_ _ _ _, fun _ => rfl, fun _ => rfl⟩
        have hlst : RSl rPtr (fun b => w2.heap.size ≤ b ∧ some b = (Value.slice v12 6 c12).ownBlock) wr (.slice v12 6 c12) [h0, h1, h2, h3, h4, h5] := hown.rslO (by show 6 * 8 ≤ _; omega) (fun b h e => ⟨h, e⟩) (fun b h => h.elim)
        have m3 : MSt w c (.slice v12 6 c12) (.slice A0 l0.length c0) sp l0 none rd0 zS zS wr := by
          refine ⟨hB2.trans (hb.mono hB2.size), ?_, (fun x hx => by cases hx), ?_, ?_, ?_, ?_, ?_, ?_, ?_, by rw [hcrb, hcgr]; have := hb.size; omega⟩
          · rw [hcgr]
            exact (hroot2.kp (.of_below hb (ok := fun _ => True)) trivial fun _ _ => trivial).mono fun b h _ => .of hcrb fun hs => by
              rcases (hsp b).1 hs with h' | h' | h' | h' | h' | h' <;> omega
          · rw [hcgj]; have := hb.size; omega
          · rw [e2]; exact zsh _ k2
          · rw [e3]; exact zsh _ k3
          · rw [e4]; exact zsh _ k4
          · rw [e5]; exact zsh _ k5
          · rw [e0, e1, e2, e3, e4, e5]
            exact hlst.mono (by decide) fun b h _ => .of hcrb fun hs => by
              rcases (hsp b).1 hs with h' | h' | h' | h' | h' | h'
              · omega
              · omega
              · exact o2 (by rw [← h']; exact h.2)
              · exact o3 (by rw [← h']; exact h.2)
              · exact o4 (by rw [← h']; exact h.2)
              · exact o5 (by rw [← h']; exact h.2)
          · exact (hl.mono (by decide) fun b h _ => hlow b h).below (hB2.trans (hb.mono hB2.size))
        have ks3 := ks2.below hb ks2.lt
        have hb3 := hB2.trans (hb.mono hB2.size)
        have rx13 := (rx1.below hb).mono (ok' := okW c) (by decide) fun b h _ => .of hcrb fun hs => by
          rcases (hsp b).1 hs with h' | h' | h' | h' | h' | h' <;> omega
        have rx23 := (rx2.below hb).mono (ok' := okW c) (by decide) fun b h _ => .of hcrb fun hs => by
          rcases (hsp b).1 hs with h' | h' | h' | h' | h' | h' <;> omega
        have HCRB := Lib.hid hcrb
        clear hcrb hsp
        subst e0 e1 e2 e3 e4 e5 hcgr hcgj
        have hgsne : c.gj ≠ c.h2 := ap.a6
        obtain ⟨bl, offl, cl, csl, hvl, hbl, hcsl, hcelll⟩ := m3.lst.at_ (i := 2) (by simp)
        have hcsl' : csl = [.pointer (some ⟨c.h2, 0, none⟩)] := hcsl
        subst hcsl'
        simp only [Value.slice.injEq, List.length_cons, List.length_nil] at hvl
        obtain ⟨rfl, _, rfl⟩ := hvl
        have hp2 := hcelll 0 _ rfl
        simp only [Nat.add_zero, show rPtr.sz = 1 from rfl] at hp2
        have hblne : bl ≠ c.h2 := hbl.ne (.inr (.inr (.inl rfl)))
        have l2 : ∀ s : LaterB wr (fun b => b = c.h2), s.val.cell? ⟨bl, offl + 2 * 1, none⟩ = some (.pointer (some ⟨c.h2, 0, none⟩)) := LaterB.cell hp2 hblne
        have ls0 : ∀ s : LaterB wr (fun b => b = c.h2), s.val.cell? ⟨c.gj, 0, none⟩ = some (.slice (some ⟨w1.heap.size, 0, none⟩) 1 1) := LaterB.cell (ks3.cell 0) hgsne
        have ls1 : ∀ s : LaterB wr (fun b => b = c.h2), s.val.cell? ⟨c.gj, 1, none⟩ = some (.slice (some ⟨w1.heap.size + 1, 0, none⟩) 1 1) := LaterB.cell (ks3.cell 1) hgsne
        clear hcsl hcelll hown hall hnd hlst zsh hB2 ks2 rx1 rx2 hroot2 k2 k3 k4 k5
        by_cases h60 : 60 < l0.length
        · have t60 : decide ((60 : Int) < (l0.length : Int)) = true := decide_eq_true (by omega)
          go_wp2
          refine wp_seqB (fun b => b = c.h2) 14 [0, 14] (by as_aux_lemma => kernel_rfl) (by as_aux_lemma => kernel_rfl) fun w4 hb4 => ?_
          refine seqB_wild0 hb4 rfl rfl fun K hK => ?_
          unfold Gives
          go_simp
          refine (awakeSplit_any _).mono ?_
          rintro e w5 ⟨rfl, hb5⟩
          refine ⟨_, rfl, hK _ _ (hb5) fun hb5x => ?_⟩
          clear hK
          clear K
          simp only [Act.put, List.setIfInBounds_toArray, List.set_cons_succ, List.set_cons_zero]
          refine seqB_pre 13 (by kernel_rfl) ?_
          simp only [List.take_succ_cons, List.take_zero, List.drop_succ_cons, List.drop_zero]
          repeat (go_big_quiet_step (fail))
          refine wpQuiet_nil ?_
          refine seqB_skip rfl ?_
          simp only [Act.put, List.setIfInBounds_toArray, List.set_cons_succ, List.set_cons_zero]
          refine seqB_pre 3 (by kernel_rfl) ?_
          simp only [List.take_succ_cons, List.take_zero, List.drop_succ_cons, List.drop_zero]
          repeat (go_big_quiet_step (fail))
          refine wpQuiet_nil ?_
          refine seqB_nil ?_
          go_wp2_with fail
          refine (awakeSplit_any _).mono ?_
          rintro e w6 ⟨rfl, hb6⟩
          go_wp2
          go_ret
          exact ⟨rfl, ((m3.below hb5x).below hb6).bel⟩
        have t60 : decide ((60 : Int) < (l0.length : Int)) = false := decide_eq_false (by omega)
        go_wp2
        refine wp_seqB (fun b => b = c.h2) 14 [0, 14] (by as_aux_lemma => kernel_rfl) (by as_aux_lemma => kernel_rfl) fun w4 hb4 => ?_
        refine seqB_wild0 hb4 rfl rfl fun K hK => ?_
        unfold Gives
        go_simp
        refine (awakeSplit_any _).mono ?_
        rintro e w5 ⟨rfl, hb5⟩
        refine ⟨_, rfl, hK _ _ (hb5) fun hb5x => ?_⟩
        clear hK
        clear K
        simp only [Act.put, List.setIfInBounds_toArray, List.set_cons_succ, List.set_cons_zero]
        refine seqB_pre 13 (by kernel_rfl) ?_
        simp only [List.take_succ_cons, List.take_zero, List.drop_succ_cons, List.drop_zero]
        repeat (go_big_quiet_step (fail))
        refine wpQuiet_nil ?_
        have m5 := m3.below hb5x
        refine seqB_wild (Kp.of_below hb5x) rfl rfl fun K hK => ?_
        unfold Gives
        go_simp
        have hq : CmdV (okW c) w5 (cmdCs 6 0 false nl (.slice (some ⟨w1.heap.size, 0, none⟩) 1 1) (.slice (some ⟨w1.heap.size + 1, 0, none⟩) 1 1) (.slice A0 l0.length c0)) ⟨6, 0, false, [], [120], [121], l0⟩ := CmdV.of (d := ⟨6, 0, false, [], [120], [121], l0⟩) ⟨RSl.nil_ _ _ _, rx13.below hb5x, rx23.below hb5x, m5.all⟩
        unfold cmdCs at hq
        refine (sTake (okc := okW c) m5.s2 hq rfl (show l0.length ≤ 1000 by omega) (fun b h => h.ne (.inr (.inr (.inl rfl)))) (fun b h => h.ne (.inr (.inr (.inl rfl)))) m5.new).mono ?_
        rintro e w6 ⟨rfl, hk6, hT6⟩
        simp only [zS] at hT6
        obtain ⟨E, hE⟩ : ∃ E, E = takeE [] [] [120] [121] l0 := ⟨_, rfl⟩
        have HEE := Lib.hid hE
        simp only [zS, ← hE]
        rw [← hE] at hT6
        clear hE hq
        have HT6 := Lib.hid hT6
        clear hT6
        refine ⟨_, rfl, hK _ _ (hk6) fun hK6 => ?_⟩
        clear hK
        clear K
        simp only [Act.put, List.setIfInBounds_toArray, List.set_cons_succ, List.set_cons_zero]
        have hfd : ∀ w : World, (Instr.field 70 (.agg (repCs E nl)) 0).run Try.prog w = .ok (.int .i64 E) w := fun _ => by kernel_rfl
        by_cases hE0 : E ≠ 0
        · have t1 : (E == 0) = false := by simpa using hE0
          have t2 : (E != 0) = true := by simpa using hE0
          have t3 : decide (E = 0) = false := decide_eq_false hE0
          refine seqB_pre 3 (by kernel_rfl) ?_
          simp only [List.take_succ_cons, List.take_zero, List.drop_succ_cons, List.drop_zero]
          repeat (go_big_quiet_step (fail))
          refine wpQuiet_nil ?_
          refine seqB_nil ?_
          clear hfd t1 t2 t3
          go_wp2_with fail
          refine (awakeSplit_any _).mono ?_
          rintro e w7 ⟨rfl, hb7⟩
          go_wp2
          go_ret
          exact ⟨rfl, (m5.bel' hk6 (ap.low _ (.inr (.inr (.inl rfl))))).trans (hb7.mono (m5.bel' hk6 (ap.low _ (.inr (.inr (.inl rfl))))).size)⟩
        obtain rfl : E = 0 := by omega
        clear hE0
        obtain ⟨L, mm, hTF, hS6⟩ := HT6.out rfl
        have m6 := m5.sh2 ap hk6 hS6
        refine seqB_pre 3 (by kernel_rfl) ?_
        simp only [List.take_succ_cons, List.take_zero, List.drop_succ_cons, List.drop_zero]
        repeat (go_big_quiet_step (fail))
        refine wpQuiet_nil ?_
        refine seqB_nil ?_
        obtain ⟨hasc, hgood, hLlen⟩ := takeF_spec l0 [] 0 L mm List.Pairwise.nil (fun _ h => by cases h) hTF
        have hL60 : L.length ≤ 60 := by simp at hLlen; omega
        have HG := Lib.hid hgood
        have HA := Lib.hid hasc
        clear hfd hTF hgood hasc hLlen l2 ls0 ls1 HT6 HEE m5 hS6 m3
        obtain ⟨o1, o2', vl, vT, n0', over, f1, f2, gone, kb6, rr1, rr2, rr3, rr4, rr5, rr6⟩ := m6.s2
        have m7 : MSt w c (.slice (some ⟨bl, offl, none⟩) 6 c12) vl sp L none rd0 ⟨[120], [121], L, none, true, true⟩ zS w6 := { m6 with all := rr3 }
        have q2 : w6.cell? ⟨c.h2, 2, none⟩ = some vl := kb6.cell 2
        have p2 : w6.cell? ⟨bl, offl + 2 * 1, none⟩ = some (.pointer (some ⟨c.h2, 0, none⟩)) := (hK6.cell (p := ⟨bl, offl + 2 * 1, none⟩) hblne hp2)
        go_upto_region 11 with fail
        clear q2
        go_cut [15] (fun v15 wx => ∃ (hd : Bool) (hT : Option (List UInt8)) (tn : Bool), v15 = .bool hd ∧ MSt w c (.slice (some ⟨bl, offl, none⟩) 6 c12) vl sp L none rd0 ⟨[120], [121], L, hT, true, tn⟩ zS wx ∧ wx.cell? ⟨bl, offl + 2 * 1, none⟩ = some (.pointer (some ⟨c.h2, 0, none⟩)) ∧ hT = (if hd = true then some kL else none) ∧ (hd = true → withinB [120] [121] kL = true))
        case first =>
          by_cases hk0 : kL.length = 0
          · have t1 : decide ((0 : Int) < (kL.length : Int)) = false := decide_eq_false (by omega)
            have t2 : decide (0 < kL.length) = false := decide_eq_false (by omega)
            have HK := Lib.hid hk0
            clear hk0
            go_wp2
            go_meet
            case rel => exact ⟨false, none, true, rfl, m7, p2, rfl, fun h => by cases h⟩
          · have t1 : decide ((0 : Int) < (kL.length : Int)) = true := decide_eq_true (by omega)
            have t2 : decide (0 < kL.length) = true := decide_eq_true (by omega)
            have HK := Lib.hid hk0
            clear hk0
            go_wp2_with fail
            have hal : Below w6.heap.size w6 (w6.alloc (.cells #[.slice A2 kL.length c2, nl, .bool false] 92)) := (Below.refl _ _).alloc (Nat.le_refl _) _
            have m8 := m7.below hal
            have hL6 : RB (okW c) w6 (.slice A2 kL.length c2) kL := (hL.mono (by decide) fun b h _ => hlow b h).below m7.bel
            have hw8 := RSl.one_new (E := rWr) (ok := okW c) (w := w6) (cs := #[.slice A2 kL.length c2, nl, .bool false]) (d := kL) 92 ⟨_, _, rfl, hL6, RSl.nil_ _ _ _⟩ (m7.new _ (Nat.le_refl _)) (by decide)
            refine (sPrep (okc := okW c) (k := kL) m8.s2 rfl rfl rfl rfl rfl rfl rfl rfl hw8 (fun b h => h.ne (.inr (.inr (.inl rfl)))) m8.new rfl).mono ?_
            rintro e w7 ⟨rfl, hk7, hS7⟩
            have m9 := m8.sh2 ap hk7 hS7
            have p7 : w7.cell? ⟨bl, offl + 2 * 1, none⟩ = some (.pointer (some ⟨c.h2, 0, none⟩)) := hk7.cell (p := ⟨bl, offl + 2 * 1, none⟩) hblne ((hal.cell (p := ⟨bl, offl + 2 * 1, none⟩) (World.block_lt_of_cell? w6 _ p2)).trans p2)
            simp only at hS7 m9
            simp only
            obtain ⟨E, hE⟩ : ∃ E, E = preE [120] [121] kL := ⟨_, rfl⟩
            have HE := Lib.hid hE
            rw [← hE] at m9 ⊢
            clear hE hS7
            have hfd : ∀ w : World, (Instr.field 70 (.agg (repCs E nl)) 0).run Try.prog w = .ok (.int .i64 E) w := fun _ => by kernel_rfl
            by_cases hE0 : E = 0
            · subst hE0
              have HW : Hid (withinB [120] [121] kL = true) := by
                have h1 := HE.out
                have : withinB [120] [121] kL = true := by
                  unfold preE at h1
                  by_cases hb : (someB [120] [121] && withinB [120] [121] kL) = true
                  · exact (Bool.and_eq_true_iff.1 hb).2
                  · rw [if_neg hb] at h1; cases h1
                exact Lib.hid this
              go_wp2
              go_meet
              case rel => exact ⟨true, some kL, false, rfl, m9, p7, rfl, fun _ => HW.out⟩
            · have t3 : (E == 0) = false := by simpa using hE0
              have t4 : decide (E = 0) = false := decide_eq_false hE0
              rw [if_neg hE0] at m9
              go_wp2
              go_meet
              case rel => exact ⟨false, none, false, rfl, m9, p7, rfl, fun h => by cases h⟩
        case rest =>
          obtain ⟨hd, hT, tn, rfl, ma, pa, hhT, hhW⟩ := hcut
          have HHT := Lib.hid hhT
          have HHW := Lib.hid hhW
          have hA7 : RB (fun b => b < w.heap.size) wc (.slice A1 kA.length c1) kA := hA.below ma.bel
          clear hhT hhW m7 m6 p2 kb6 rr1 rr2 rr3 rr4 rr5 rr6 hk6 hK6
          go_wp2_with fail
          refine (runRoute_any c.gr sp hsp1 hsp4 _ kA _ wc ma.rt rfl rfl rfl rfl hA7).mono ?_
          unfold RtPost
          rintro e w7 ⟨⟨R, rfl, hRs, hRf⟩, hk7, hr7⟩
          obtain ⟨E, hE⟩ : ∃ E, E = routeE sp kA := ⟨_, rfl⟩
          have HE := Lib.hid hE
          rw [← hE] at hRf hr7
          clear hE
          have hbel7 := ma.bel' hk7 (ap.low _ (.inl rfl))
          have HR7 := Lib.hid hr7
          clear hr7
          by_cases hE0 : E ≠ 0
          · have t3 : (E == 0) = false := by simpa using hE0
            have t4 : decide (E = 0) = false := decide_eq_false hE0
            have t5 : (E != 0) = true := by simpa using hE0
            go_wp2
            go_ret
            exact ⟨rfl, hbel7⟩
          obtain rfl : E = 0 := by omega
          clear hE0
          have mb := ma.root ap hk7 ((HR7.out rfl).mono (ok2 := okW c) fun b h _ => ma.new b h.1)
          have pb : w7.cell? ⟨bl, offl + 2 * 1, none⟩ = some (.pointer (some ⟨c.h2, 0, none⟩)) := hk7.cell (p := ⟨bl, offl + 2 * 1, none⟩) (hbl.ne (.inl rfl)) pa
          have hcut : cutE kA = 0 ∧ 2 ≤ sp := by
            have h1 := HE.out
            unfold routeE at h1
            split at h1
            · cases h1
            · exact ⟨h1.symm, by omega⟩
          have HCUT := Lib.hid hcut
          clear hcut HR7 HE pa
          go_wp2_with fail
          refine (splitNew_any _).mono ?_
          rintro e w8 ⟨rfl, kj, hb8⟩
          have pc := (hb8.cell (p := ⟨bl, offl + 2 * 1, none⟩) (World.block_lt_of_cell? w7 _ pb)).trans pb
          obtain ⟨ap2, mc⟩ := mb.begin ap hb8 ⟨zC, nl, kj, CmdV.of (d := zCmd) (k := nl) (f := nl) (u := nl) (p := nl) ⟨RSl.nil_ _ _ _, RSl.nil_ _ _ _, RSl.nil_ _ _ _, RSl.nil_ _ _ _⟩, RSl.nil_ _ _ _⟩
          go_upto_region 17 with fail
          obtain ⟨q, hq⟩ : ∃ q : Who, q = { c with gj := w7.heap.size } := ⟨_, rfl⟩
          rw [← hq] at ap2 mc
          have g1 : c.gr = q.gr := by rw [hq]
          have HQR : Hid (q.rb = q.gr) := Lib.hid (by rw [hq]; exact HCRB.out)
          have g2 : w7.heap.size = q.gj := by rw [hq]
          have g3 : c.h2 = q.h2 := by rw [hq]
          rw [g1, g2]
          rw [g3] at pc
          clear g1 g2 g3 hq hRf
          clear mb pb ap ma
          have hokbl : okW q bl := by
            obtain ⟨b', off', c', cs', hv', hb', _⟩ := mc.lst.at_ (i := 0) (by simp)
            simp only [Value.slice.injEq, Option.some.injEq, Addr.mk.injEq] at hv'
            rw [hv'.1.1]; exact hb'
          go_wp2
          go_loopw [17] (fun j wr => ∃ (n : Nat) (jb : JobD) (d : RouteD) (s2 s3 : ShD), j = .int .i64 (n : Int) ∧ MSt w q (.slice (some ⟨bl, offl, none⟩) 6 c12) vl sp L (some jb) d s2 s3 wr ∧ wr.cell? ⟨bl, offl + 2 * 1, none⟩ = some (.pointer (some ⟨q.h2, 0, none⟩)) ∧ PhX kA L hT n jb d s2 s3) (fun j _ => 12 - (intOf j).toNat)
          case atStart => exact ⟨0, zJob, rdc kA, _, _, rfl, mc, pc, .inl ⟨rfl, rfl, .inl ⟨rfl, by omega, .inl rfl, rfl, rfl, rfl, rfl, rfl, rfl⟩⟩⟩
          case round =>
            obtain ⟨n, jb, d, s2, s3, rfl, md, pd, hph⟩ := hrel
            have hn9 := hph.le
            have tn12 : decide ((n : Int) < 12) = true := decide_eq_true (by omega)
            have HPH := Lib.hid hph
            clear hph
            go_upto_if 100 with (fail)
            go_cut [] (fun wx => ∃ s2', MSt w q (.slice (some ⟨bl, offl, none⟩) 6 c12) vl sp L (some jb) d s2' s3 wx ∧ wx.cell? ⟨bl, offl + 2 * 1, none⟩ = some (.pointer (some ⟨q.h2, 0, none⟩)) ∧ PhY kA L hT n jb d s2' s3)
            case first =>
              by_cases hn6 : n = 6
              · subst hn6
                obtain ⟨hov, hY⟩ := HPH.out.at6
                have HOV := Lib.hid hov
                have HY := Lib.hid hY
                clear hov hY
                go_wp2_with fail
                refine (sRes md.s2 HOV.out rfl rfl rfl rfl (fun b h => h.ne (.inr (.inr (.inl rfl))))).mono ?_
                rintro e wz ⟨⟨R, rfl⟩, hkz, hsz⟩
                have hblq : bl ≠ q.h2 := hokbl.ne (.inr (.inr (.inl rfl)))
                have mz := md.sh2 ap2 hkz hsz
                have pz := hkz.cell (p := ⟨bl, offl + 2 * 1, none⟩) hblq pd
                go_wp2
                go_meet
                case rel => exact ⟨_, mz, pz, HY.out⟩
              · have t6 : ((n : Int) == 6) = false := by simpa using (show ¬ (n : Int) = 6 by omega)
                have t6' : decide ((n : Int) = 6) = false := decide_eq_false (by omega)
                go_wp2
                go_meet
                case rel => exact ⟨s2, md, pd, HPH.out.no6 hn6⟩
            case rest =>
              obtain ⟨s2', me, pe, hY⟩ := hcut
              have HY := Lib.hid hY
              clear hY
              have hd1 : d.b = 1 := by
                rcases HY.out with ⟨h, _⟩ | ⟨_, _, ⟨h, _⟩ | ⟨h, _⟩⟩ <;> rw [h] <;> rfl
              have HD1 := Lib.hid hd1
              clear hd1
              obtain ⟨all, av, cv, kr, hrr⟩ := me.rt
              obtain ⟨y1, y2, y3, y4, y5, y6⟩ := rt_cells kr
              go_upto_region 22 with fail
              refine wp_region_split 17 ?_
              simp only [List.take_succ_cons, List.take_zero, List.drop_succ_cons, List.drop_zero]
              go_wp2_with fail
              rw [HSP.out]
              refine (jobNext_any (ok := okW q) (okr := okW q) jb d av cv sp q.gj wc (hrr) ⟨by rw [HD1.out]; decide, by rw [HD1.out]; decide⟩ (me.jb jb rfl) (fun b h => h.ne (.inr (.inl rfl))) (fun b h => h.ne (.inr (.inl rfl))) me.new).mono ?_
              unfold AskPost
              rintro e wn ⟨⟨C, rfl, hC⟩, hj, hk⟩
              have mf := me.job ap2 hk hj
              have pf := hk.cell (p := ⟨bl, offl + 2 * 1, none⟩) (hokbl.ne (.inr (.inl rfl))) pe
              have hCs := hC.size
              clear y1 y2 y3 y4 y5 y6 hrr kr
              obtain ⟨jx, hjx⟩ : ∃ x : JobD × Bool, x = stepJ d sp jb := ⟨_, rfl⟩
              obtain ⟨js, bq⟩ := jx
              have HSJ := Lib.hid hjx
              rw [← hjx] at hC hj mf ⊢
              clear hjx hj
              simp only at hC mf ⊢
              go_wp2
              show wpList _ _ _ _ _ _
              refine wpList_storeB' (C := zC) rfl rfl C rfl rfl (Blk.new_ rfl) (by rw [hCs]; rfl) (by rw [hCs]; exact Try.infoCmd) hC.one ?_ rfl
              intro m9
              have hB9 := fun zs => below_setCells (B := wn.heap.size) (a := wn) (b := wn.heap.size) (Nat.le_refl _) C.toList 0 ((Below.refl _ _).alloc (Nat.le_refl _) (.cells zs 60))
              go_upto_region 23 with fail
              refine name_world (fun wo => Below wn.heap.size wn wo ∧ Blk wo wn.heap.size 60 C) ⟨hB9 _, m9⟩ ?_
              clear m9 hB9
              rintro wo ⟨hB9, m9⟩
              have mg := mf.below hB9
              have hCg := hC.below hB9
              have pg := (hB9.cell (p := ⟨bl, offl + 2 * 1, none⟩) (World.block_lt_of_cell? _ _ pf)).trans pf
              obtain ⟨gv, hgv⟩ : ∃ gv, gv = js.gr := ⟨_, rfl⟩
              rw [← hgv]
              have HGV := Lib.hid hgv
              clear hgv hk hC hB9 pf pe me
              rcases HY.out with ⟨hdc, hja, hph⟩ | ⟨hn, hja, hD⟩
              · subst hdc
                have hs := HSJ.out
                rw [stepJ_on kA sp jb HCUT.out.2 hsp4 hja] at hs
                obtain ⟨hjs, rfl⟩ := Prod.mk.inj hs
                have HJS := Lib.hid hjs
                have HP2 := Lib.hid hph
                clear hs hjs hph hja
                go_upto_region 25 with fail
                refine name_world (fun w1 => Below wo.heap.size wo w1 ∧ wo.heap.size < w1.heap.size ∧ Blk w1 wo.heap.size 70 (repCs 0 nl)) ⟨(Below.refl _ _).alloc (Nat.le_refl _) _, by simp, Blk.new _ _ _⟩ ?_
                rintro w10 ⟨hB10, hz10, k10⟩
                have ph := (hB10.cell (p := ⟨bl, offl + 2 * 1, none⟩) (World.block_lt_of_cell? _ _ pg)).trans pg
                have k9 := m9.below hB10 m9.lt
                have hCh := hCg.below hB10
                obtain ⟨rb, hrbe⟩ : ∃ rb, rb = wo.heap.size := ⟨_, rfl⟩
                have mh := mg.box hB10 rb (by omega) (by omega)
                have ap3 := ap2.box rb
                have hnrb : ¬ q.sp rb := fun hs => by
                  have := (mg.new rb (by omega)).1
                  exact this hs
                have hlrb : w.heap.size ≤ rb := by have := mg.bel.size; omega
                have hblrb : bl ≠ rb := by have := World.block_lt_of_cell? _ _ pg; simp only at this; omega
                obtain ⟨cb, hcbe⟩ : ∃ cb, cb = wn.heap.size := ⟨_, rfl⟩
                rw [← hrbe] at k10 ⊢
                rw [← hcbe] at k9 ⊢
                have hcb : cb ≠ rb := by
                  have := m9.lt
                  omega
                have hcq : ¬ q.sp cb := fun hs => (mf.new cb (by omega)).1 hs
                clear hrbe hcbe m9 hCg pg mg hB10 hz10
                go_upto_if 124 with (fail)
                go_cut [] (fun wx => ∃ R err ps d' s2n s3n, Blk wx rb 70 R ∧ RepR (okW { q with rb := rb }) wx R err ps ∧ MSt w { q with rb := rb } (.slice (some ⟨bl, offl, none⟩) 6 c12) vl sp L (some js) d' s2n s3n wx ∧ wx.cell? ⟨bl, offl + 2 * 1, none⟩ = some (.pointer (some ⟨q.h2, 0, none⟩)) ∧ (hd = true → n < 6 → Op.bytesLess kL kA = false → gv = 2 ∧ err = 12) ∧ PhX kA L hT (n + 1) (gotJ js err ps).1 d' s2n s3n)
                case first =>
                  by_cases hAB : jb.ph = 0 ∨ jb.ph = 1
                  · have key : ∃ (h g : Nat), gv = (g : Int) ∧ 0 < g ∧ g < 6 ∧ q.sp h ∧ w10.cell? ⟨bl, offl + g * 1, none⟩ = some (.pointer (some ⟨h, 0, none⟩)) ∧ ∀ w4, Below w10.heap.size w10 w4 → Calls Try.prog 37 #[.pointer (some ⟨h, 0, none⟩), .agg C] w4 fun e w' => ∃ R err ps s2n s3n, e = .returned (.agg R) ∧ R.all (·.oneCell') = true ∧ RepR (okW { q with rb := rb }) w' R err ps ∧ Kp (fun b => b ≠ h) w4 w' ∧ MSt w { q with rb := rb } (.slice (some ⟨bl, offl, none⟩) 6 c12) vl sp L (some js) (rdc kA) s2n s3n w' ∧ (hd = true → n < 6 → Op.bytesLess kL kA = false → gv = 2 ∧ err = 12) ∧ PhX kA L hT (n + 1) (gotJ js err ps).1 (rdc kA) s2n s3n := by
                      rcases HP2.out with hA | hB | hC | hE
                      · have hask : askJ (rdc kA) 3 jb = (2, ⟨5, 0, false, kA, [], [], []⟩) := by unfold askJ; rw [if_pos hA.1]; rfl
                        have hjs := HJS.out
                        rw [hask] at hjs
                        have hgv : gv = 2 := by rw [HGV.out, hjs]
                        have hq5 : CmdV (okW q) w10 C ⟨5, 0, false, kA, [], [], []⟩ := by have := hCh; rw [hjs] at this; exact this
                        refine ⟨q.h2, 2, hgv, by omega, by omega, .inr (.inr (.inl rfl)), ph, fun w4 hb4 => ?_⟩
                        have m4 := mh.below hb4
                        have hA2 := hA
                        obtain ⟨a1, a2, a3, a4, a5, a6, a7, a8, a9⟩ := hA
                        refine (sGive (okc := okW q) m4.s2 (hq5.below hb4) rfl (by rw [a6]; omega) (fun b h => h.ne (.inr (.inr (.inl rfl)))) (fun b h => h.ne (.inr (.inr (.inl rfl)))) m4.new).mono ?_
                        rintro e w' ⟨⟨R, rfl, hR1, hR⟩, hk', hS⟩
                        obtain ⟨E, hE⟩ : ∃ E, E = giveE s2'.lf s2'.lu kA s2'.T s2'.L := ⟨_, rfl⟩
                        simp only [← hE] at hR hS
                        obtain ⟨g1, g2⟩ := giveNext HCUT.out.1 hA2 ⟨5, 0, false, kA, [], [], []⟩ 2 E hE
                        exact ⟨R, E, _, _, s3, rfl, hR1, ⟨hR.size, hR.err, hR.ps.imp fun v hv => ⟨hv.1, hv.2.mono (by decide) fun b hb _ => m4.new b hb⟩⟩, hk', m4.sh2 ap3 hk' hS, fun h1 h2 h3 => ⟨hgv, g2 h2 (touch_conf HHT.out HHW.out h1 h3)⟩, by rw [hjs]; exact g1⟩
                      · have hask : askJ (rdc kA) 3 jb = (3, ⟨6, 0, false, [], kA, [121], jb.given⟩) := by unfold askJ; rw [if_neg (by omega), if_pos hB.1]; rfl
                        have hjs := HJS.out
                        rw [hask] at hjs
                        have hgv : gv = 3 := by rw [HGV.out, hjs]
                        have hq6 : CmdV (okW q) w10 C ⟨6, 0, false, [], kA, [121], jb.given⟩ := by have := hCh; rw [hjs] at this; exact this
                        refine ⟨q.h3, 3, hgv, by omega, by omega, .inr (.inr (.inr (.inl rfl))), mh.cellAt 3 _ (by omega) rfl, fun w4 hb4 => ?_⟩
                        have m4 := mh.below hb4
                        have hB2 := hB
                        obtain ⟨b1, b2, b3, b4, b5, b6⟩ := hB
                        obtain ⟨t1, t2⟩ := take_part HCUT.out.1 HA.out HG.out
                        have hgl : jb.given.length ≤ 1000 := by rw [b4]; have := partL_len L kA [121]; omega
                        refine (sTake (okc := okW q) m4.s3 (hq6.below hb4) rfl hgl (fun b h => h.ne (.inr (.inr (.inr (.inl rfl))))) (fun b h => h.ne (.inr (.inr (.inr (.inl rfl))))) m4.new).mono ?_
                        rintro e w' ⟨rfl, hk', hT⟩
                        have hE0 : takeE s3.lf s3.lu kA [121] jb.given = 0 := by rw [b6, b4]; exact t1
                        obtain ⟨L', m', hF, hS⟩ := hT hE0
                        refine ⟨repCs 0 nl, 0, [], s2', _, by rw [hE0], repCs_one rfl, ⟨rfl, rfl, nl, rfl, RSl.nil_ _ _ _⟩, hk', m4.sh3 ap3 hk' hS, fun h1 h2 h3 => ?_, by rw [hjs]; exact takeNext hB2 _ _ _ (t2 _ _ (by rw [← b4]; exact hF))⟩
                        rcases b3 with b3 | b3
                        · omega
                        · rw [touch_conf HHT.out HHW.out h1 h3] at b3; cases b3
                      · have := hC.1; omega
                      · have := hE.1; omega
                    obtain ⟨h, g, rfl, hg0, hg6, hsp27, pc, hcall⟩ := key
                    have HCALL := Lib.hid hcall
                    clear hcall
                    have t25 : ((g : Int) == 0) = false := by simp; omega
                    have t26 : decide ((g : Int) = 0) = false := decide_eq_false (by omega)
                    have hblh : bl ≠ h := hokbl.ne hsp27
                    have hcbh : cb ≠ h := fun e => hcq (by rw [e]; exact hsp27)
                    have hhrb : h ≠ rb := fun e => hnrb (by rw [← e]; exact hsp27)
                    have l27 : ∀ s : LaterB w10 (fun b => b = h ∨ b = rb), s.val.cell? ⟨bl, offl + g * 1, none⟩ = some (.pointer (some ⟨h, 0, none⟩)) := LaterB.cell pc (fun e => e.elim hblh hblrb)
                    have l27b : ∀ s : LaterB w10 (fun b => b = h ∨ b = rb), s.val.cell? ⟨bl, offl + g, none⟩ = some (.pointer (some ⟨h, 0, none⟩)) := fun s => by simpa using l27 s
                    go_upto_region 27 with fail
                    refine wp_seqB (fun b => b = h ∨ b = rb) 5 [5, 6] (by as_aux_lemma => kernel_rfl) (by as_aux_lemma => kernel_rfl) fun w4 hb4 => ?_
                    refine seqB_pre 4 (by kernel_rfl) ?_
                    simp only [List.take_succ_cons, List.take_zero, List.drop_succ_cons, List.drop_zero]
                    repeat (go_big_quiet_step (fail))
                    refine wpQuiet_nil ?_
                    refine seqB_still (.agg C) rfl rfl (fun s => still_loadB (g := cb) (T := 60) (C := C) rfl rfl (k9.kp s.kp (fun e => e.elim hcbh hcb)) Try.underlying60 rfl (by rw [hCs]; exact Try.infoCmd)) ?_
                    simp only [Act.put, List.setIfInBounds_toArray, List.set_cons_succ, List.set_cons_zero]
                    refine seqB_wild (Kp.of_below hb4) rfl rfl fun K hK => ?_
                    unfold Gives
                    go_simp
                    refine (HCALL.out _ hb4).mono ?_
                    rintro e w5 ⟨R, err, ps, s2n, s3n, rfl, hR1, hR, hk5, m5, hcf, hPX⟩
                    have hK45 : Kp (fun b => ¬ (b = h ∨ b = rb)) w4 w5 := hk5.mono fun b hb e => hb (.inl e)
                    have k105 := (k10.below hb4 k10.lt).kp hk5 (Ne.symm hhrb)
                    refine ⟨_, rfl, hK _ _ (hK45) fun hK5 => ?_⟩
                    clear hK
                    clear K
                    simp only [Act.put, List.setIfInBounds_toArray, List.set_cons_succ, List.set_cons_zero]
                    refine seqB_wild hK5 rfl rfl fun K hK => ?_
                    refine gives_storeB rfl R rfl rfl k105 (by rw [hR.size]; rfl) (by rw [hR.size]; exact Try.infoRep) hR1 ?_
                    have kr6 := k105.setCells R (by rw [hR.size]; rfl)
                    have hst := Kp.setCells (ok := fun b => b ≠ rb) (a := w5) (b := rb) (fun _ hh => hh rfl) R.toList 0 (Kp.refl _ _)
                    generalize hwr : World.setCells w5 rb 0 R.toList = w6 at kr6 hst ⊢
                    clear hwr
                    refine hK _ _ ((hst.mono fun b hb e => hb (.inr e))) fun hK6 => ?_
                    clear hK
                    clear K
                    simp only [Act.put, List.setIfInBounds_toArray, List.set_cons_succ, List.set_cons_zero]
                    refine seqB_nil ?_
                    have m6 := m5.sto hlrb hnrb hst
                    have hR6 := hR.kp (hst.mono fun b hb => hb.2)
                    have p6 := hK6.cell (p := ⟨bl, offl + 2 * 1, none⟩) (fun e => e.elim hblh hblrb) ph
                    go_wp2
                    go_meet
                    case rel => exact ⟨R, err, ps, _, s2n, s3n, kr6, hR6, m6, p6, hcf, hPX⟩
                  · have key : gv = 0 ∧ ∀ w4, Below w10.heap.size w10 w4 → Calls Try.prog 38 #[.pointer (some ⟨q.gr, 0, none⟩), .agg C] w4 fun e w' => ∃ R d', e = .returned (.agg R) ∧ R.all (·.oneCell') = true ∧ RepR (fun _ => False) w' R 0 [] ∧ Kp (fun b => b ≠ q.gr) w4 w' ∧ MSt w { q with rb := rb } (.slice (some ⟨bl, offl, none⟩) 6 c12) vl sp L (some js) d' s2' s3 w' ∧ (hd = true → n < 6 → Op.bytesLess kL kA = false → False) ∧ PhX kA L hT (n + 1) (gotJ js 0 []).1 d' s2' s3 := by
                      rcases HP2.out with hA | hB | hC | hE
                      · have := hA.1; omega
                      · have := hB.1; omega
                      · have hask : askJ (rdc kA) 3 jb = (0, ⟨19, 3, false, [], [], [], []⟩) := by unfold askJ; rw [if_neg (by omega), if_neg (by omega), if_pos hC.1]
                        have hjs := HJS.out
                        rw [hask] at hjs
                        have hq19 : CmdV (okW q) w10 C ⟨19, 3, false, [], [], [], []⟩ := by have := hCh; rw [hjs] at this; exact this
                        obtain ⟨A1, c1, A2, c2, A3, c3, A4, c4, hCe, _⟩ := hq19
                        refine ⟨by rw [HGV.out, hjs], fun w4 hb4 => ?_⟩
                        have m4 := mh.below hb4
                        refine (runMoved_any (ok := okW { q with rb := rb }) q.gr sp (rdm kA) C w4 m4.rt.lt (fun w1 hb1 => movedOn_any q.gr sp HCUT.out.2 hsp4 kA C w1 ((m4.rt.mono (ok2 := fun b => okW { q with rb := rb } b ∧ b < w4.heap.size) fun b h h2 => ⟨h, h2⟩).kp (.of_below hb1 (ok := fun _ => True)) trivial fun _ _ => trivial) (fun b hb => hb.1.ne (.inl rfl)) hCs (by rw [hCe]; rfl) (by rw [hCe]; rfl)) hCs (by rw [hCe]; rfl)).mono ?_
                        rintro e w' ⟨⟨R, rfl, hR1, hR⟩, hk', hroot⟩
                        refine ⟨R, rdm kA, rfl, hR1, hR, hk', m4.root ap3 hk' (hroot.mono fun b h _ => h.elim id (m4.new b)), fun h1 h2 h3 => ?_, by rw [hjs]; exact moveNext hC _ _⟩
                        rcases hC.2.2.1 with b3 | b3
                        · omega
                        · rw [touch_conf HHT.out HHW.out h1 h3] at b3; cases b3
                      · have hask : askJ (rdc kA) 3 jb = (0, ⟨19, 0, true, [], [], [], []⟩) := by unfold askJ; rw [if_neg (by omega), if_neg (by omega), if_neg (by have := hE.1; omega)]
                        have hjs := HJS.out
                        rw [hask] at hjs
                        have hq19 : CmdV (okW q) w10 C ⟨19, 0, true, [], [], [], []⟩ := by have := hCh; rw [hjs] at this; exact this
                        obtain ⟨A1, c1, A2, c2, A3, c3, A4, c4, hCe, _⟩ := hq19
                        refine ⟨by rw [HGV.out, hjs], fun w4 hb4 => ?_⟩
                        have m4 := mh.below hb4
                        refine (runMoved_any (ok := okW { q with rb := rb }) q.gr sp rdS C w4 m4.rt.lt (fun w1 hb1 => movedStop_any q.gr sp kA C w1 ((m4.rt.mono (ok2 := fun b => okW { q with rb := rb } b ∧ b < w4.heap.size) fun b h h2 => ⟨h, h2⟩).kp (.of_below hb1 (ok := fun _ => True)) trivial fun _ _ => trivial) (fun b hb => hb.1.ne (.inl rfl)) hCs (by rw [hCe]; rfl)) hCs (by rw [hCe]; rfl)).mono ?_
                        rintro e w' ⟨⟨R, rfl, hR1, hR⟩, hk', hroot⟩
                        refine ⟨R, rdS, rfl, hR1, hR, hk', m4.root ap3 hk' (hroot.mono fun b h _ => h.elim id (m4.new b)), fun h1 h2 h3 => ?_, by rw [hjs]; exact stopNext hE _ _⟩
                        rcases hE.2.2.1 with b3 | b3
                        · omega
                        · rw [touch_conf HHT.out HHW.out h1 h3] at b3; cases b3
                    obtain ⟨rfl, hcall⟩ := key
                    have HCALL := Lib.hid hcall
                    clear hcall
                    go_upto_region 26 with fail
                    refine wp_region_split 1 ?_
                    simp only [List.take_succ_cons, List.take_zero, List.drop_succ_cons, List.drop_zero]
                    go_wp2
                    show wpList _ _ _ _ _ _
                    refine wpList_loadG rfl rfl rfl k9 Try.underlying60 rfl (by rw [hCs]; exact Try.infoCmd) ?_
                    simp only [Act.put, List.setIfInBounds_toArray, List.set_cons_succ, List.set_cons_zero]
                    refine wpList_split 1 ?_
                    simp only [List.take_succ_cons, List.take_zero, List.drop_succ_cons, List.drop_zero]
                    go_wp2_with fail
                    refine (HCALL.out _ (Below.refl _ _)).mono ?_
                    rintro e w5 ⟨R, d', rfl, hR1, hR, hk5, m5, hcf, hPX⟩
                    have hgrb : rb ≠ q.gr := fun e => hnrb (by rw [e]; exact .inl rfl)
                    have k105 := k10.kp hk5 hgrb
                    have p5 := hk5.cell (p := ⟨bl, offl + 2 * 1, none⟩) (hokbl.ne (.inl rfl)) ph
                    go_wp2
                    show wpList _ _ _ _ _ _
                    refine wpList_storeB' rfl rfl R rfl rfl k105 (by rw [hR.size]; rfl) (by rw [hR.size]; exact Try.infoRep) hR1 ?_ rfl
                    intro kr6
                    have hst := Kp.setCells (ok := fun b => b ≠ rb) (a := w5) (b := rb) (fun _ hh => hh rfl) R.toList 0 (Kp.refl _ _)
                    generalize hwr : World.setCells w5 rb 0 R.toList = w6 at kr6 hst ⊢
                    clear hwr
                    have m6 := m5.sto hlrb hnrb hst
                    have hR6 : RepR (okW { q with rb := rb }) w6 R 0 [] := ⟨hR.size, hR.err, hR.ps.imp fun v hv => ⟨hv.1, (hv.2.kp (hst.mono fun b hb => hb.elim)).mono (by decide) fun b hb _ => hb.elim⟩⟩
                    have p6 := hst.cell (p := ⟨bl, offl + 2 * 1, none⟩) hblrb p5
                    go_wp2
                    go_meet
                    case rel => exact ⟨R, 0, [], _, s2', s3, kr6, hR6, m6, p6, fun h1 h2 h3 => (hcf h1 h2 h3).elim, hPX⟩
                case rest =>
                  obtain ⟨R, err, ps, d', s2n, s3n, kr, hR, mi, pi, hconf, hPX⟩ := hcut
                  have HCONF := Lib.hid hconf
                  have HPX := Lib.hid hPX
                  clear hconf hPX k10 ph mh hCh k9
                  have r0 : wc.cell? ⟨rb, 0, none⟩ = some (.int .i64 err) := (kr.cell 0).trans hR.err
                  have v1 := rb_str (hL.below mi.bel)
                  have v2 := rb_str (hA.below mi.bel)
                  have hg2 : (gotJ js err ps).2 = 0 := by rw [HJS.out]; rfl
                  have HGot := Lib.hid (got_any (ok := okW { q with rb := rb }) (okr := okW { q with rb := rb }) js R err ps q.gj wc hR (mi.jb js rfl) (fun b h => h.ne (.inr (.inl rfl))) (fun b h => h.ne (.inr (.inl rfl))) mi.new)
                  rw [hg2] at HGot
                  have HRS := Lib.hid hR.size
                  go_upto_region 28 with fail
                  have hbl : Op.bytesLess (str kL).toList (str kA).toList = Op.bytesLess kL kA := by rw [str_toList, str_toList]
                  by_cases hcf : hd = true ∧ n < 6 ∧ Op.bytesLess kL kA = false
                  · obtain ⟨h1, h2, h3⟩ := hcf
                    obtain ⟨rfl, rfl⟩ := HCONF.out h1 h2 h3
                    subst h1
                    have tn : decide ((n : Int) < 6) = true := decide_eq_true (by omega)
                    rw [h3] at hbl
                    refine wp_region_split 23 ?_
                    simp only [List.take_succ_cons, List.take_zero, List.drop_succ_cons, List.drop_zero]
                    go_wp2
                    show wpList _ _ _ _ _ _
                    refine wpList_loadG rfl rfl rfl kr Try.underlying70 rfl (by rw [HRS.out]; exact Try.infoRep) ?_
                    simp only [Act.put, List.setIfInBounds_toArray, List.set_cons_succ, List.set_cons_zero]
                    refine wpList_split 1 ?_
                    simp only [List.take_succ_cons, List.take_zero, List.drop_succ_cons, List.drop_zero]
                    go_wp2_with fail
                    refine HGot.out.mono ?_
                    rintro e wz ⟨rfl, hj', hk'⟩
                    have mz := (mi.job ap3 hk' hj').unbox HQR.out
                    have pz := hk'.cell (p := ⟨bl, offl + 2 * 1, none⟩) (hokbl.ne (.inr (.inl rfl))) pi
                    go_wp2
                    show wpList _ _ _ _ _ _
                    go_wp2
                    go_roundw
                    case rel => exact ⟨n + 1, _, d', s2n, s3n, by go_num, mz, pz, HPX.out⟩
                    case measure => simp [intOf]; omega
                  · have HCF := Lib.hid hcf
                    clear hcf
                    cases hd
                    · clear hbl v1 v2 r0
                      refine wp_region_split 23 ?_
                      simp only [List.take_succ_cons, List.take_zero, List.drop_succ_cons, List.drop_zero]
                      go_wp2
                      show wpList _ _ _ _ _ _
                      refine wpList_loadG rfl rfl rfl kr Try.underlying70 rfl (by rw [HRS.out]; exact Try.infoRep) ?_
                      simp only [Act.put, List.setIfInBounds_toArray, List.set_cons_succ, List.set_cons_zero]
                      refine wpList_split 1 ?_
                      simp only [List.take_succ_cons, List.take_zero, List.drop_succ_cons, List.drop_zero]
                      go_wp2_with fail
                      refine HGot.out.mono ?_
                      rintro e wz ⟨rfl, hj', hk'⟩
                      have mz := (mi.job ap3 hk' hj').unbox HQR.out
                      have pz := hk'.cell (p := ⟨bl, offl + 2 * 1, none⟩) (hokbl.ne (.inr (.inl rfl))) pi
                      go_wp2
                      show wpList _ _ _ _ _ _
                      go_wp2
                      go_roundw
                      case rel => exact ⟨n + 1, _, d', s2n, s3n, by go_num, mz, pz, HPX.out⟩
                      case measure => simp [intOf]; omega
                    · by_cases h2 : n < 6
                      · have tn : decide ((n : Int) < 6) = true := decide_eq_true (by omega)
                        have h3 : Op.bytesLess kL kA = true := by
                          cases h : Op.bytesLess kL kA with
                          | true => rfl
                          | false => exact absurd ⟨rfl, h2, h⟩ HCF.out
                        rw [h3] at hbl
                        clear r0
                        refine wp_region_split 23 ?_
                        simp only [List.take_succ_cons, List.take_zero, List.drop_succ_cons, List.drop_zero]
                        go_wp2
                        show wpList _ _ _ _ _ _
                        refine wpList_loadG rfl rfl rfl kr Try.underlying70 rfl (by rw [HRS.out]; exact Try.infoRep) ?_
                        simp only [Act.put, List.setIfInBounds_toArray, List.set_cons_succ, List.set_cons_zero]
                        refine wpList_split 1 ?_
                        simp only [List.take_succ_cons, List.take_zero, List.drop_succ_cons, List.drop_zero]
                        go_wp2_with fail
                        refine HGot.out.mono ?_
                        rintro e wz ⟨rfl, hj', hk'⟩
                        have mz := (mi.job ap3 hk' hj').unbox HQR.out
                        have pz := hk'.cell (p := ⟨bl, offl + 2 * 1, none⟩) (hokbl.ne (.inr (.inl rfl))) pi
                        go_wp2
                        show wpList _ _ _ _ _ _
                        go_wp2
                        go_roundw
                        case rel => exact ⟨n + 1, _, d', s2n, s3n, by go_num, mz, pz, HPX.out⟩
                        case measure => simp [intOf]; omega
                      · have tn : decide ((n : Int) < 6) = false := decide_eq_false (by omega)
                        clear r0 hbl v1 v2
                        refine wp_region_split 23 ?_
                        simp only [List.take_succ_cons, List.take_zero, List.drop_succ_cons, List.drop_zero]
                        go_wp2
                        show wpList _ _ _ _ _ _
                        refine wpList_loadG rfl rfl rfl kr Try.underlying70 rfl (by rw [HRS.out]; exact Try.infoRep) ?_
                        simp only [Act.put, List.setIfInBounds_toArray, List.set_cons_succ, List.set_cons_zero]
                        refine wpList_split 1 ?_
                        simp only [List.take_succ_cons, List.take_zero, List.drop_succ_cons, List.drop_zero]
                        go_wp2_with fail
                        refine HGot.out.mono ?_
                        rintro e wz ⟨rfl, hj', hk'⟩
                        have mz := (mi.job ap3 hk' hj').unbox HQR.out
                        have pz := hk'.cell (p := ⟨bl, offl + 2 * 1, none⟩) (hokbl.ne (.inr (.inl rfl))) pi
                        go_wp2
                        show wpList _ _ _ _ _ _
                        go_wp2
                        go_roundw
                        case rel => exact ⟨n + 1, _, d', s2n, s3n, by go_num, mz, pz, HPX.out⟩
                        case measure => simp [intOf]; omega
              · have hm : d.m = 0 := by rcases hD with ⟨h, _⟩ | ⟨h, _⟩ <;> rw [h] <;> rfl
                have hs := HSJ.out
                rw [stepJ_off d sp jb hja hm] at hs
                obtain ⟨hjs, rfl⟩ := Prod.mk.inj hs
                have HX := Lib.hid (show EndX kA L d s2'.L s3.L from hD)
                obtain ⟨all2, av2, cv2, kr2, hrr2⟩ := mg.rt
                obtain ⟨y1, y2, y3, y4, y5, y6⟩ := rt_cells kr2
                rw [hm] at y4
                clear hs hjs hja hn HSJ HPH hm hD y1 y2 y3 y5 y6 HGV hCg m9 HD1
                go_wp2
                clear y4
                obtain ⟨av2a, av2c, rfl, _, _⟩ := hrr2.s.form
                obtain ⟨cv2a, cv2c, rfl, _, _⟩ := hrr2.c.form
                go_loopw [22, 23] (fun hv gi wr => ∃ (g : Nat), 2 ≤ g ∧ g ≤ 6 ∧ gi = .int .i64 (g : Int) ∧ Below wo.heap.size wo wr ∧ RSl rPair (fun _ => True) wr hv (uTo s2'.L s3.L g)) (fun _ gi _ => 6 - (intOf gi).toNat)
                case atStart => exact ⟨2, by omega, by omega, rfl, Below.refl _ _, RSl.nil_ _ _ _⟩
                case round =>
                  obtain ⟨g, hg2, hg6, rfl, hbx, hvx⟩ := hrel
                  obtain ⟨A22, c22, rfl, _, _⟩ := hvx.form
                  by_cases hlt : g < 6
                  · have t0 : decide ((g : Int) < 6) = true := decide_eq_true (by omega)
                    obtain ⟨hx, sx, hsL, hsR, hpc⟩ := mg.pt hg2 hlt
                    obtain ⟨z1, z2, zl, zT, zn, zo, zf1, zf2, zg, kz, rz1, rz2, rz3, _, _, _⟩ := hsR
                    rw [hsL] at rz3
                    obtain ⟨P, hP⟩ : ∃ P, P = pAt s2'.L s3.L g := ⟨_, rfl⟩
                    rw [← hP] at rz3
                    have HP := Lib.hid hP
                    have hP60 : P.length ≤ 60 := by have := (HX.out.len HA.out HG.out g).2; rw [hP]; omega
                    obtain ⟨zA, zc, rfl, _, _⟩ := rz3.form
                    obtain ⟨U, hU⟩ : ∃ U, U = uTo s2'.L s3.L g := ⟨_, rfl⟩
                    rw [← hU] at hvx ⊢
                    have HU := Lib.hid hU
                    clear hsL hP hU
                    go_wp2
                    obtain ⟨w11, hw11⟩ : ∃ w11, w11 = wr := ⟨_, rfl⟩
                    rw [← hw11] at hbx hvx ⊢
                    clear hw11
                    go_loopw [22, 24] (fun hv iv wy => ∃ i : Nat, i ≤ P.length ∧ iv = .int .i64 (i : Int) ∧ Below wo.heap.size wo wy ∧ RSl rPair (fun _ => True) wy hv (U ++ P.take i)) (fun _ iv _ => P.length - (intOf iv).toNat)
                    case atStart => exact ⟨0, by omega, rfl, hbx, by simpa using hvx⟩
                    case round =>
                      obtain ⟨i, hi, rfl, hby, hvy⟩ := hrel
                      obtain ⟨T, hT2⟩ : ∃ T, T = U ++ P.take i := ⟨_, rfl⟩
                      rw [← hT2] at hvy
                      have HT := Lib.hid hT2
                      clear hT2
                      obtain ⟨A2y, c2y, rfl, _, _⟩ := hvy.form
                      have kzy := kz.below hby kz.lt
                      have pcy := (hby.cell (p := ⟨bl, offl + g * 1, none⟩) (World.block_lt_of_cell? _ _ hpc)).trans hpc
                      have pz2 : wr.cell? ⟨hx, 2, none⟩ = some (.slice zA P.length zc) := kzy.cell 2
                      have pcz : wr.cell? ⟨bl, offl + g, none⟩ = some (.pointer (some ⟨hx, 0, none⟩)) := by simpa using pcy
                      by_cases hil : i < P.length
                      · have t1 : decide ((i : Int) < (P.length : Int)) = true := decide_eq_true (by omega)
                        go_upto_region 39 with fail
                        obtain ⟨pb, poff, pc', pcs, hpv, _, ⟨ka, va, rfl, hka, hva, hi64⟩, hpcell⟩ := (rz3.below hby).at_ hil
                        simp only [Value.slice.injEq, true_and] at hpv
                        obtain ⟨rfl, rfl⟩ := hpv
                        have x0 := hpcell 0 _ rfl
                        have x1 := hpcell 1 _ rfl
                        have x2 := hpcell 2 _ rfl
                        simp only [Nat.add_zero, show rPair.sz = 3 from rfl] at x0 x1 x2
                        clear hpcell
                        obtain ⟨p, hp⟩ : ∃ p, p = P[i] := ⟨_, rfl⟩
                        rw [← hp] at x2 hka hva hi64
                        have HPi := Lib.hid hp
                        clear hp
                        obtain ⟨K1, kc1, rfl, _, _⟩ := hka.form
                        obtain ⟨V1, vc1, rfl, _, _⟩ := hva.form
                        obtain ⟨h0, hgr, h120⟩ := HX.out.group HG.out hg2 p (by rw [HPi.out, ← HP.out]; exact List.getElem_mem _)
                        have kry := kr2.below hby kr2.lt
                        obtain ⟨y1, y2, y3, y4, y5, y6⟩ := rt_cells kry
                        have l1 := Later.cell y1
                        have l2 := Later.cell y2
                        have l3 := Later.cell y3
                        have l4 := Later.cell y4
                        have l5 := Later.cell y5
                        have lp := Later.cell pcy
                        have lq := Later.cell pcz
                        have lz := Later.cell pz2
                        have lx := Later.cell x0
                        clear y1 y2 y3 y4 y5 y6
                        refine wp_seqL [15] (by as_aux_lemma => kernel_rfl) (by as_aux_lemma => kernel_rfl) fun w4 hb4 => ?_
                        refine seqL_pre 15 (by kernel_rfl) ?_
                        simp only [List.take_succ_cons, List.take_zero, List.drop_succ_cons, List.drop_zero]
                        repeat (go_big_quiet_step (fail))
                        refine wpQuiet_nil ?_
                        refine seqL_wild hb4 rfl rfl fun K hK => ?_
                        unfold Gives
                        go_simp
                        refine (group_any d _ _ _ p.k _ ((hrr2.below hby).below hb4) h0 (hka.below hb4) h120).mono ?_
                        rw [hgr]
                        rintro e w5 ⟨rfl, hb5⟩
                        refine ⟨_, rfl, hK _ _ (hb5) fun hb5' => ?_⟩
                        clear hK
                        clear K
                        simp only [Act.put, List.setIfInBounds_toArray, List.set_cons_succ, List.set_cons_zero]
                        refine seqL_pre 2 (by kernel_rfl) ?_
                        simp only [List.take_succ_cons, List.take_zero, List.drop_succ_cons, List.drop_zero]
                        repeat (go_big_quiet_step (fail))
                        refine wpQuiet_nil ?_
                        refine seqL_nil ?_
                        have pc5 := (hb5'.cell (p := ⟨bl, offl + g * 1, none⟩) (World.block_lt_of_cell? _ _ pcy)).trans pcy
                        have pz5 := (hb5'.cell (p := ⟨hx, 2, none⟩) (World.block_lt_of_cell? _ _ pz2)).trans pz2
                        have x05 := (hb5'.cell (World.block_lt_of_cell? _ _ x0)).trans x0
                        have x15 := (hb5'.cell (World.block_lt_of_cell? _ _ x1)).trans x1
                        have x25 := (hb5'.cell (World.block_lt_of_cell? _ _ x2)).trans x2
                        have pd5 := (hb5'.cell (World.block_lt_of_cell? _ _ pcz)).trans pcz
                        clear l1 l2 l3 l4 l5 lp lq lz lx x0 x1 x2 pcy pz2 hgr h120
                        go_wp2_with fail
                        refine (put_any (ok := fun _ => True) _ _ _ T p _ (hvy.below hb5') ((hka.below hb5').mono (by decide) fun _ _ _ => trivial) ((hva.below hb5').mono (by decide) fun _ _ _ => trivial) hi64 (by rw [HT.out, List.length_append, List.length_take]; have := (HX.out.len HA.out HG.out g).1; rw [← HU.out] at this; have := (HX.out.len HA.out HG.out g).2; rw [← HP.out] at this; omega)).mono ?_
                        rintro e w6 ⟨⟨v', rfl, hv'⟩, hb6⟩
                        go_wp2
                        go_roundw
                        case rel =>
                          refine ⟨i + 1, by omega, by go_num, (hby.trans (hb5'.mono hby.size)).trans (hb6.mono (Nat.le_trans hby.size hb5'.size)), ?_⟩
                          have hput := HX.out.put HA.out HG.out (g := g) (i := i) hg2 (by rw [← HP.out]; exact hil)
                          simp only [← HP.out, ← HU.out] at hput
                          rw [HT.out, HPi.out, hput] at hv'
                          exact hv'.mono (by decide) fun _ _ _ => trivial
                        case measure => simp [intOf]; omega
                      · have t1 : decide ((i : Int) < (P.length : Int)) = false := decide_eq_false (by omega)
                        go_wp2
                        go_roundw
                        case rel =>
                          refine ⟨g + 1, by omega, by omega, by go_num, hby, ?_⟩
                          have : T = uTo s2'.L s3.L (g + 1) := by rw [HT.out, List.take_of_length_le (by omega), HU.out, HP.out, uTo_step _ _ hg2]
                          rw [← this]; exact hvy
                        case measure => simp [intOf]; omega
                  · obtain rfl : g = 6 := by omega
                    have hv6 : RSl rPair (fun _ => True) wr (.slice A22 (uTo s2'.L s3.L 6).length c22) L := by rw [← HX.out.all HA.out HG.out]; exact hvx
                    obtain ⟨nU, hnU⟩ : ∃ n, n = (uTo s2'.L s3.L 6).length := ⟨_, rfl⟩
                    rw [← hnU] at hv6 ⊢
                    clear hnU hvx
                    have mfin := mg.below hbx
                    go_wp2_with fail
                    refine (samePair_any _ _ L _ hv6 mfin.all).mono ?_
                    rintro e w9 ⟨rfl, hb9⟩
                    go_wp2
                    go_ret
                    exact ⟨rfl, (mfin.below hb9).bel⟩
end Go.Proofs.Ytikkknaofiafhaa
