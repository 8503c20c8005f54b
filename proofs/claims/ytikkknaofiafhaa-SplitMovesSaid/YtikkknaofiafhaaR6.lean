/- Contracts: rows.Pair, rows.Entry. -/
import Derived.Test.YtikkknaofiafhaaR3
import Derived.Test.YtikkknaofiafhaaC8
import Derived.Test.YtikkknaofiafhaaReg
import Derived.Test.YtikkknaofiafhaaDat
import Derived.Outline
namespace Go.Proofs.Ytikkknaofiafhaa
open Go.RowKit

/-- a row's pair -/
def pairV (t : TabD) (row : List Val) : List UInt8 × List UInt8 := if mayAll t.cols row && (encSpec row).2 == 0 then (nameB t (keyV t row), (encSpec row).1) else ([], [])

set_option maxRecDepth 100000 in
set_option maxHeartbeats 3200000 in
theorem rowPair_any {ok ok2 : Nat → Prop} (t : TabD) (a b v : Value) (row : List Val) (w : World) (ht : TabR ok w a b t) (hr : RV ok2 w v row) (hn : t.key.length ≤ 1000000) :
    Calls Try.prog 58 #[.agg (tabCs t a b), v] w fun e w' => (∃ k x, e = .returned (.agg #[k, x, .int .i64 0]) ∧ RB (fun b => w.heap.size ≤ b) w' k (pairV t row).1 ∧ RB (fun b => w.heap.size ≤ b) w' x (pairV t row).2) ∧ Below w.heap.size w w' := by
  obtain ⟨A, c, rfl, _, _⟩ := ht.cols.form
  obtain ⟨A3, c3, rfl, _, _⟩ := ht.key.form
  obtain ⟨A2, c2, rfl, _, _⟩ := hr.form
  have hb0 : ∀ o, Below w.heap.size w ((w.alloc (.cells (tabCs t (.slice A t.cols.length c) (.slice A3 t.key.length c3)) 56)).alloc o) := fun o => ((Below.refl _ _).alloc (Nat.le_refl _) _).alloc (by simp) _
  go_enter Try.func58, Try.ntmps58
  unfold tabCs
  go_wp2_with fail
  refine (enc_rv _ row _ (hr.below (hb0 _))).mono ?_
  rintro e w1 ⟨⟨A5, n5, c5, rfl, o5⟩, hb1⟩
  have hbw := (hb0 _).trans (hb1.mono (by simp; omega))
  have k1 : Blk w1 w.heap.size 56 (tabCs t (.slice A t.cols.length c) (.slice A3 t.key.length c3)) := ((Blk.new w _ _).alloc _).below hb1 (by simp; omega)
  have k2 : Blk w1 (w.heap.size + 1) 98 #[.slice none 0 0, .slice none 0 0, .int .i64 0] := (Blk.new_ (by simp)).below hb1 (by simp)
  have h5 : n5 ≤ 688 := by have := o5.len; have := encSpec_len row; omega
  have x0 : w1.cell? ⟨w.heap.size, 0, none⟩ = some (.int .i64 t.id) := k1.cell 0
  have x1 : w1.cell? ⟨w.heap.size, 1, none⟩ = some (.string t.name) := k1.cell 1
  have x2 : w1.cell? ⟨w.heap.size, 2, none⟩ = some (.slice A t.cols.length c) := k1.cell 2
  have x3 : w1.cell? ⟨w.heap.size, 3, none⟩ = some (.slice A3 t.key.length c3) := k1.cell 3
  go_wp2_with fail
  refine (rowRight_any t _ _ _ row _ (ht.below hbw) (hr.below hbw)).mono ?_
  rintro e w2 ⟨rfl, hb2⟩
  have hbw2 := hbw.trans (hb2.mono hbw.size)
  have k1' := k1.below hb2 k1.lt
  have k2' := k2.below hb2 k2.lt
  have r5 := (o5.rb (by omega)).below hb2
  have z0 : w2.cell? ⟨w.heap.size + 1, 0, none⟩ = some (.slice none 0 0) := k2'.cell 0
  have z1 : w2.cell? ⟨w.heap.size + 1, 1, none⟩ = some (.slice none 0 0) := k2'.cell 1
  have z2 : w2.cell? ⟨w.heap.size + 1, 2, none⟩ = some (.int .i64 0) := k2'.cell 2
  have fz := fun i => k2'.frozen i
  clear x0 x1 x2 x3
  cases hM : mayAll t.cols row
  · have HM := Lib.hid hM
    clear hM
    go_wp2
    obtain ⟨d0, d1, d2⟩ := slot_set (.slice none 0 0) (.slice none 0 0) (.int .i64 0) z0 z1 z2
    refine bodyPost_ret (v := .agg #[.slice none 0 0, .slice none 0 0, .int .i64 0]) (by simp [results, Try.results58, go_sem, d0, d1, d2]) rfl ?_
    refine ⟨⟨_, _, rfl, ?_⟩, ((hbw2.setCell (by simp) _).setCell (by simp) _).setCell (by simp) _⟩
    unfold pairV
    rw [HM.out]
    exact ⟨RSl.nil_ _ _ _, RSl.nil_ _ _ _⟩
  · have HM := Lib.hid hM
    clear hM
    by_cases hE : (encSpec row).2 = 0
    · have ht1 : ((encSpec row).2 != 0) = false := by simp [hE]
      have HE := Lib.hid hE
      clear hE
      have y0 : ∀ s : Later w2, s.val.cell? ⟨w.heap.size, 0, none⟩ = some (.int .i64 t.id) := k1'.later rfl
      have y1 : ∀ s : Later w2, s.val.cell? ⟨w.heap.size, 1, none⟩ = some (.string t.name) := k1'.later rfl
      have y2 : ∀ s : Later w2, s.val.cell? ⟨w.heap.size, 2, none⟩ = some (.slice A t.cols.length c) := k1'.later rfl
      have y3 : ∀ s : Later w2, s.val.cell? ⟨w.heap.size, 3, none⟩ = some (.slice A3 t.key.length c3) := k1'.later rfl
      go_wp2
      refine wp_later_many_tail 7 [(3, Sp.rsl rVal (fun b => w.heap.size + 2 ≤ b) (keyV t row)), (4, Sp.rb (fun b => w.heap.size + 2 ≤ b) (nameB t (keyV t row)))] [3, 4] (by kernel_rfl) (by kernel_rfl) (by kernel_rfl) ?_
      intro vv hv
      obtain ⟨B3, d3, e3, _⟩ : ∃ A c, vv 3 = .slice A (keyV t row).length c ∧ (keyV t row).length ≤ c := hv 3 (by decide)
      obtain ⟨B4, d4, e4, _⟩ : ∃ A c, vv 4 = .slice A (nameB t (keyV t row)).length c ∧ (nameB t (keyV t row)).length ≤ c := hv 4 (by decide)
      simp only [List.take_succ_cons, List.take_zero, List.drop_succ_cons, List.drop_zero]
      refine many_pre 3 (by decide) ?_
      simp only [List.take_succ_cons, List.take_zero, List.drop_succ_cons, List.drop_zero]
      repeat (go_big_quiet_step (fail))
      refine wpQuiet_nil (many_wild (by decide) rfl ?_ ?_)
      · intro s _
        unfold Gives
        go_simp
        have hbs := hbw2.trans (s.below.mono hbw2.size)
        refine (key_any t _ _ _ row _ (ht.below hbs) (hr.below hbs) hn).mono ?_
        rintro e w3 ⟨⟨x, rfl, hx⟩, hb3⟩
        exact ⟨x, rfl, hx.mono (by decide) (fun b hb _ => by have h1 := s.below.size; have h2 := k2'.lt; omega), hb3⟩
      intro a' ha'
      subst ha'
      simp only [Act.put, List.setIfInBounds_toArray, List.set_cons_succ, List.set_cons_zero]
      rw [e3]
      refine many_wild (by decide) rfl ?_ ?_
      · intro s hf
        have f3 : RV _ s.val (vv 3) (keyV t row) := hf 3 (by decide) (by kernel_rfl)
        rw [e3] at f3
        unfold Gives
        go_simp
        have hbs := hbw2.trans (s.below.mono hbw2.size)
        refine (name_any t _ _ _ (keyV t row) _ (ht.below hbs) f3).mono ?_
        rintro e w3 ⟨⟨x, rfl, hx⟩, hb3⟩
        exact ⟨x, rfl, hx.mono (by decide) (fun b hb _ => by have h1 := s.below.size; have h2 := k2'.lt; omega), hb3⟩
      intro a' ha'
      subst ha'
      simp only [Act.put, List.setIfInBounds_toArray, List.set_cons_succ, List.set_cons_zero]
      rw [e4]
      refine many_pre 2 (by decide) ?_
      simp only [List.take_succ_cons, List.take_zero, List.drop_succ_cons, List.drop_zero]
      repeat (go_big_quiet_step (fail))
      refine wpQuiet_nil (many_end ?_)
      intro s hf
      have f4 : RB _ s.val (vv 4) (nameB t (keyV t row)) := hf 4 (by decide)
      rw [e4] at f4
      have hbs := hbw2.trans (s.below.mono hbw2.size)
      have k2s := k2'.below s.below k2'.lt
      have r5s := r5.below s.below
      have z0 : s.val.cell? ⟨w.heap.size + 1, 0, none⟩ = some (.slice none 0 0) := k2s.cell 0
      have z1 : s.val.cell? ⟨w.heap.size + 1, 1, none⟩ = some (.slice none 0 0) := k2s.cell 1
      have z2 : s.val.cell? ⟨w.heap.size + 1, 2, none⟩ = some (.int .i64 0) := k2s.cell 2
      have fz := fun i => k2s.frozen i
      go_wp2
      obtain ⟨d0, d1, d2⟩ := slot_set (.slice B4 (nameB t (keyV t row)).length d4) (.slice A5 n5 c5) (.int .i64 0) z0 z1 z2
      have hkx : Kp (fun b => w.heap.size + 2 ≤ b) s.val (((s.val.setCell ⟨w.heap.size + 1, 0, none⟩ (.slice B4 (nameB t (keyV t row)).length d4)).setCell ⟨w.heap.size + 1, 1, none⟩ (.slice A5 n5 c5)).setCell ⟨w.heap.size + 1, 2, none⟩ (.int .i64 0)) :=
        (((Kp.refl _ _).setCell (fun _ h => by have : w.heap.size + 2 ≤ w.heap.size + 1 := h; omega) _).setCell (fun _ h => by have : w.heap.size + 2 ≤ w.heap.size + 1 := h; omega) _).setCell (fun _ h => by have : w.heap.size + 2 ≤ w.heap.size + 1 := h; omega) _
      refine bodyPost_ret (v := .agg #[.slice B4 (nameB t (keyV t row)).length d4, .slice A5 n5 c5, .int .i64 0]) (by simp [results, Try.results58, go_sem, d0, d1, d2]) rfl ?_
      refine ⟨⟨_, _, rfl, ?_⟩, ((hbs.setCell (by simp) _).setCell (by simp) _).setCell (by simp) _⟩
      unfold pairV
      rw [HM.out, HE.out]
      exact ⟨(f4.kp hkx).mono (by decide) fun b hb _ => by omega, ((r5s.mono (by decide) (fun b hb _ => by simpa using hb)).kp hkx).mono (by decide) fun b hb _ => by omega⟩
    · have ht1 : ((encSpec row).2 != 0) = true := by simpa using hE
      have HE := Lib.hid hE
      clear hE
      go_wp2
      obtain ⟨d0, d1, d2⟩ := slot_set (.slice none 0 0) (.slice none 0 0) (.int .i64 0) z0 z1 z2
      refine bodyPost_ret (v := .agg #[.slice none 0 0, .slice none 0 0, .int .i64 0]) (by simp [results, Try.results58, go_sem, d0, d1, d2]) rfl ?_
      refine ⟨⟨_, _, rfl, ?_⟩, ((hbw2.setCell (by simp) _).setCell (by simp) _).setCell (by simp) _⟩
      unfold pairV
      rw [HM.out, beq_eq_false_iff_ne.2 HE.out]
      exact ⟨RSl.nil_ _ _ _, RSl.nil_ _ _ _⟩
end Go.Proofs.Ytikkknaofiafhaa
