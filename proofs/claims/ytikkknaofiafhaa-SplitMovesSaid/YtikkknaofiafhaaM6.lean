/- Contracts: (*Table).Clear, Touches, Copy, Put, Drop at the locks of law 22. -/
import Derived.Test.YtikkknaofiafhaaM5
namespace Go.Proofs.Ytikkknaofiafhaa
open Go.RowKit

def touchB (h : Option (List UInt8)) (f t : List UInt8) : Bool := match h with | none => false | some k => withinB f t k
set_option maxRecDepth 100000 in
set_option maxHeartbeats 3200000 in
theorem tClear_any {ok ok2 : Nat → Prop} (g o : Nat) (vT fr ut : Value) (h : Option (List UInt8)) (f t : List UInt8) (w : World) (hc : w.cell? ⟨g, o, none⟩ = some vT) (hT : RSl rHe ok w vT h.toList) (h1 : RB ok2 w fr f) (h2 : RB ok2 w ut t) :
    Calls Try.prog 134 #[.pointer (some ⟨g, o, none⟩), .agg #[fr, ut]] w fun e w' => e = .returned (.bool (!touchB h f t)) ∧ Below w.heap.size w w' := by
  have hgl : g < w.heap.size := World.block_lt_of_cell? w ⟨g, o, none⟩ hc
  obtain ⟨A1, a1, rfl, _, _⟩ := h1.form
  obtain ⟨A2, a2, rfl, _, _⟩ := h2.form
  have hB : Below w.heap.size w (w.alloc (.cells #[.slice A1 f.length a1, .slice A2 t.length a2] 50)) := (Below.refl _ _).alloc (Nat.le_refl _) _
  cases h with
  | none =>
    obtain ⟨A, c, rfl⟩ := he_nil hT
    go_enter Try.func134, Try.ntmps134
    have c1 := alloc1 hc (.cells #[.slice A1 f.length a1, .slice A2 t.length a2] 50)
    go_wp2
    refine wp_loop_rounds 1 ?_
    rw [rounds_succ]
    go_wp2
    go_ret
    exact ⟨rfl, hB⟩
  | some k =>
    obtain ⟨b, off, c, ws, rfl, hc1, _, q0, q1, q2, q3, hw⟩ := he_open hT
    obtain ⟨b2, off2, c2, x1, x2, rfl, hc2, _, r0, r1, r2, hk, _⟩ := wr_open hw
    obtain ⟨A3, a3, rfl, _, _⟩ := hk.form
    go_enter Try.func134, Try.ntmps134
    go_upto_region 1 with fail
    refine name_world (fun w1 => Below w.heap.size w w1 ∧ Blk w1 w.heap.size 50 #[.slice A1 f.length a1, .slice A2 t.length a2]) ⟨hB, Blk.new _ _ _⟩ ?_
    rintro w1 ⟨hB1, k1⟩
    have c1 := (hB1.cell (p := ⟨g, o, none⟩) hgl).trans hc
    have p3 := (hB1.cell (p := ⟨b, off + 3, none⟩) (World.block_lt_of_cell? w _ q3)).trans q3
    have y0 := (hB1.cell (p := ⟨b2, off2, none⟩) (World.block_lt_of_cell? w _ r0)).trans r0
    have l1 := Later.cell c1
    have l2 := Later.cell p3
    have l3 := Later.cell y0
    have s0 : ∀ s : Later w1, s.val.cell? ⟨w.heap.size, 0, none⟩ = some (.slice A1 f.length a1) := k1.later rfl
    have s1 : ∀ s : Later w1, s.val.cell? ⟨w.heap.size, 1, none⟩ = some (.slice A2 t.length a2) := k1.later rfl
    obtain ⟨B, hB2⟩ : ∃ B, B = withinB f t k := ⟨_, rfl⟩
    have HB : Hid (B = withinB f t k) := hB2
    clear hB2 q0 q1 q2 q3 r0 r1 r2 hc
    go_wp2
    refine wp_loop_rounds 2 ?_
    rw [rounds_succ]
    go_wp2
    refine wp_loop_rounds 2 ?_
    rw [rounds_succ]
    go_wp2
    refine wp_later_many [(2, Sp.val (.pointer (some ⟨g, o, none⟩))), (13, Sp.val (.bool B))] [2, 13] (by as_aux_lemma => kernel_rfl) (by as_aux_lemma => kernel_rfl) ?_
    intro vv hv
    have e2 : vv 2 = .pointer (some ⟨g, o, none⟩) := hv 2 (by decide)
    have e13 : vv 13 = .bool B := hv 13 (by decide)
    clear hv
    refine many_pre 2 (by decide) ?_
    simp only [List.take_succ_cons, List.take_zero, List.drop_succ_cons, List.drop_zero]
    repeat (go_big_quiet_step (fail))
    refine wpQuiet_nil (many_wild (by decide) rfl ?_ ?_)
    · intro s _
      unfold Gives
      go_simp
      exact ⟨rfl, Below.refl _ _⟩
    intro a' ha'
    subst ha'
    simp only [Act.put, List.setIfInBounds_toArray, List.set_cons_succ, List.set_cons_zero]
    rw [e2]
    refine many_pre 10 (by decide) ?_
    simp only [List.take_succ_cons, List.take_zero, List.drop_succ_cons, List.drop_zero]
    repeat (go_big_quiet_step (fail))
    refine wpQuiet_nil (many_wild (by decide) rfl ?_ ?_)
    · intro s _
      unfold Gives
      go_simp
      refine (within_any _ _ _ f t k _ (h1.below (hB1.trans (s.below.mono hB1.size))) (h2.below (hB1.trans (s.below.mono hB1.size))) (hk.below (hB1.trans (s.below.mono hB1.size)))).mono ?_
      rintro e w4 ⟨rfl, hb4⟩
      exact ⟨_, rfl, by rw [HB.out]; rfl, hb4⟩
    intro a' ha'
    subst ha'
    simp only [Act.put, List.setIfInBounds_toArray, List.set_cons_succ, List.set_cons_zero]
    rw [e13]
    refine many_end ?_
    intro s _
    have hBs := hB1.trans (s.below.mono hB1.size)
    have m1 := l1 s
    have m2 := l2 s
    clear e2 e13 l1 l2 l3 s0 s1 c1 p3 y0
    cases B
    · go_wp2
      rw [rounds_succ]
      go_wp2
      rw [rounds_succ]
      go_wp2
      go_ret
      exact ⟨ret_bool (show _ = !(withinB f t k) by rw [← HB.out]; rfl), hBs⟩
    · go_wp2
      go_ret
      exact ⟨ret_bool (show _ = !(withinB f t k) by rw [← HB.out]; rfl), hBs⟩

set_option maxRecDepth 100000 in
set_option maxHeartbeats 3200000 in
theorem tTouches_any {ok ok2 : Nat → Prop} (g o : Nat) (vT fr ut : Value) (h : Option (List UInt8)) (f t : List UInt8) (w : World) (hc : w.cell? ⟨g, o, none⟩ = some vT) (hT : RSl rHe ok w vT h.toList) (h1 : RB ok2 w fr f) (h2 : RB ok2 w ut t) :
    Calls Try.prog 143 #[.pointer (some ⟨g, o, none⟩), .agg #[fr, ut]] w fun e w' => e = .returned (.bool (touchB h f t)) ∧ Below w.heap.size w w' := by
  have hgl : g < w.heap.size := World.block_lt_of_cell? w ⟨g, o, none⟩ hc
  obtain ⟨A1, a1, rfl, _, _⟩ := h1.form
  obtain ⟨A2, a2, rfl, _, _⟩ := h2.form
  have hB : Below w.heap.size w (w.alloc (.cells #[.slice A1 f.length a1, .slice A2 t.length a2] 50)) := (Below.refl _ _).alloc (Nat.le_refl _) _
  have HT := Lib.hid hT
  have HF : Hid ((!(!touchB h f t)) = touchB h f t) := by
    have : (!(!touchB h f t)) = touchB h f t := by simp
    exact Lib.hid this
  have fin : ∀ w1 : World, Below w.heap.size w w1 → Calls Try.prog 134 #[.pointer (some ⟨g, o, none⟩), .agg #[.slice A1 f.length a1, .slice A2 t.length a2]] w1 fun e w' => e = .returned (.bool (!touchB h f t)) ∧ Below w1.heap.size w1 w' := fun w1 hb =>
    tClear_any g o vT _ _ h f t w1 ((hb.cell (p := ⟨g, o, none⟩) hgl).trans hc) (HT.out.below hb) (h1.below hb) (h2.below hb)
  obtain ⟨TB, hTB⟩ : ∃ B, B = touchB h f t := ⟨_, rfl⟩
  rw [← hTB] at fin
  rw [← hTB]
  have FIN := Lib.hid fin
  clear fin hTB HF
  cases h with
  | none =>
    obtain ⟨A, c, rfl⟩ := he_nil hT
    go_enter Try.func143, Try.ntmps143
    have k1 := Blk.new w 50 #[.slice A1 f.length a1, .slice A2 t.length a2]
    have c1 := alloc1 hc (.cells #[.slice A1 f.length a1, .slice A2 t.length a2] 50)
    go_wp2
    refine wp_loop_rounds 1 ?_
    rw [rounds_succ]
    go_wp2_with fail
    refine (FIN.out _ hB).mono ?_
    rintro e w2 ⟨rfl, hb2⟩
    go_wp2
    go_ret
    exact ⟨ret_bool (by simp), hB.trans (hb2.mono hB.size)⟩
  | some k =>
    obtain ⟨b, off, c, ws, rfl, hc1, _, q0, q1, q2, q3, hw⟩ := he_open hT
    obtain ⟨Aw, cw, rfl, _, _⟩ := hw.form
    go_enter Try.func143, Try.ntmps143
    go_upto_region 1 with fail
    refine name_world (fun w1 => Below w.heap.size w w1 ∧ Blk w1 w.heap.size 50 #[.slice A1 f.length a1, .slice A2 t.length a2]) ⟨hB, Blk.new _ _ _⟩ ?_
    rintro w1 ⟨hB1, k1⟩
    have c1 := (hB1.cell (p := ⟨g, o, none⟩) hgl).trans hc
    have hbl := World.block_lt_of_cell? w _ q0
    have p0 := (hB1.cell (p := ⟨b, off, none⟩) hbl).trans q0
    have p1 := (hB1.cell (p := ⟨b, off + 1, none⟩) hbl).trans q1
    have p2 := (hB1.cell (p := ⟨b, off + 2, none⟩) hbl).trans q2
    have p3 := (hB1.cell (p := ⟨b, off + 3, none⟩) hbl).trans q3
    clear q0 q1 q2 q3 hc
    go_wp2
    refine wp_loop_rounds 2 ?_
    rw [rounds_succ]
    go_wp2
    refine wp_loop_rounds 1 ?_
    rw [rounds_succ]
    go_wp2
    refine wp_loop_rounds 1 ?_
    rw [rounds_succ]
    have hal := (Below.refl w1.heap.size w1).alloc (Nat.le_refl _) (.cells #[.int .u64 9, nl, nl, .slice Aw 1 cw] 191)
    have c2 := alloc1 c1 (.cells #[.int .u64 9, nl, nl, .slice Aw 1 cw] 191)
    have k2 := k1.alloc (.cells #[.int .u64 9, nl, nl, .slice Aw 1 cw] 191)
    obtain ⟨z0, z1⟩ := And.intro (k2.cell 0) (k2.cell 1)
    simp at z0 z1
    clear c1 p0 p1 p2 p3
    go_wp2
    rw [rounds_succ]
    go_wp2_with fail
    have hB3 := hB1.trans (hal.mono hB1.size)
    refine (FIN.out _ hB3).mono ?_
    rintro e w2 ⟨rfl, hb2⟩
    go_wp2
    go_ret
    exact ⟨ret_bool (by simp), hB3.trans (hb2.mono hB3.size)⟩
end Go.Proofs.Ytikkknaofiafhaa
