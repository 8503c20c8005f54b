/- Contracts: ref15's Copy, (*Table).Put, Drop at the locks of law 22. -/
import Derived.Test.YtikkknaofiafhaaM6
namespace Go.Proofs.Ytikkknaofiafhaa
open Go.RowKit

theorem Try.rowWr : RowTy Try.prog 52 92 3 56 := rowTy_mk Try.underlying52 (by kernel_rfl)
theorem Try.rowHe : RowTy Try.prog 86 191 4 80 := rowTy_mk Try.underlying86 (by kernel_rfl)
/-- append of nothing -/
theorem gives_app_nil {α : Type} {E : Rel α} {okd : Nat → Prop} {base : Nat} {P : Program} {tS tE : TypeId} (hT : RowTy P tS tE E.sz E.wt) {o : Oper} {a : Act} {Φ : Value → World → Prop} (s x : Operand)
    (ho : o.op = .call { callee := .builtin .append, args := #[s, x], argTypes := #[tS, tS] })
    (v : Value) (l : List α) (w : World) (hs : a.eval s = v) (hown : OwnL E okd base tE w v l) (c : Nat) (hx : a.eval x = .slice none 0 c) (h : Φ v w) : Gives P o a w Φ := by
  obtain ⟨i, z, hi, hz, h1, h2, h3⟩ := hT.info
  obtain ⟨cso, hrow, hcho⟩ := hown
  have hrun := run_append_nil_src (P := P) w base tS o.type tE i E.sz hT.ht hi v _ _ hrow c
  unfold Gives execOp
  simp only [ho, resolve, invoke, builtin, Sem.run_bind, Sem.run_pure, Result.andThen_ok, List.map_toArray, List.map_cons, List.map_nil, hs, hx, hrun, giv]
  exact h
/-- an own list -/
def Sp.ownl {α : Type} (E : Rel α) (okd : Nat → Prop) (base : Nat) (T : TypeId) (l : List α) : Sp :=
  ⟨fun x => ∃ A c, x = .slice A l.length c, .slice none l.length 0, ⟨none, 0, rfl⟩, fun x w => OwnL E okd base T w x l, fun x w h => by obtain ⟨A, c, h, _⟩ := h.form; exact ⟨A, c, h⟩, fun _ _ _ hb h => h.below hb⟩

set_option maxRecDepth 100000 in
set_option maxHeartbeats 6400000 in
theorem tCopy_any {ok : Nat → Prop} (ws : Value) (k : List UInt8) (w : World) (hw : RSl rWr ok w ws [k]) :
    Calls Try.prog 171 #[.agg #[.int .u64 9, nl, nl, ws]] w fun e w' => (∃ A c, e = .returned (.agg #[.int .u64 9, nl, nl, .slice A 1 c]) ∧ RSl rWr (fun b => w.heap.size ≤ b) w' (.slice A 1 c) [k]) ∧ Below w.heap.size w w' := by
  obtain ⟨b, off, c, x1, x2, rfl, hc1, _, r0, r1, r2, hk, hk2⟩ := wr_open hw
  obtain ⟨A3, a3, rfl, _, _⟩ := hk.form
  obtain ⟨A4, a4, rfl, _, _⟩ := hk2.form
  have hbl := World.block_lt_of_cell? w _ r0
  go_enter Try.func171, Try.ntmps171
  go_upto_region 2 with fail
  refine name_world (fun w1 => Below w.heap.size w w1 ∧ w.heap.size + 3 ≤ w1.heap.size ∧ Blk w1 w.heap.size 191 #[.int .u64 9, nl, nl, .slice (some ⟨b, off, none⟩) 1 c] ∧ Blk w1 (w.heap.size + 1) 191 #[.int .u64 0, nl, nl, nl] ∧ Blk w1 (w.heap.size + 2) 191 #[.int .u64 9, nl, nl, nl])
    ⟨(((Below.refl _ _).alloc (Nat.le_refl _) _).alloc (by simp) _).alloc (by simp; omega) _, by simp, ((Blk.new w _ _).alloc _).alloc _, (Blk.new_ (by simp)).alloc _, Blk.new_ (by simp)⟩ ?_
  rintro w1 ⟨hB1, hz1, k0, k1, k2⟩
  obtain ⟨z0, z1, z2, z3⟩ := cells4 k0
  obtain ⟨y0, y1, y2, y3⟩ := cells4 k2
  have p0 := (hB1.cell (p := ⟨b, off, none⟩) hbl).trans r0
  have p1 := (hB1.cell (p := ⟨b, off + 1, none⟩) hbl).trans r1
  have p2 := (hB1.cell (p := ⟨b, off + 2, none⟩) hbl).trans r2
  clear r0 r1 r2
  go_wp2
  refine wp_loop_rounds 1 ?_
  rw [rounds_succ]
  go_wp2
  refine wp_loop_rounds 1 ?_
  rw [rounds_succ]
  go_wp2
  refine wp_loop_rounds 2 ?_
  rw [rounds_succ]
  go_wp2
  refine name_world (fun w2 => Below w1.heap.size w1 w2 ∧ w.heap.size + 3 ≤ w2.heap.size ∧ Blk w2 w1.heap.size 92 #[.slice A3 k.length a3, .slice A4 0 a4, .bool false]) ⟨(Below.refl _ _).alloc (Nat.le_refl _) _, by simp; omega, Blk.new _ _ _⟩ ?_
  rintro w2 ⟨hb2, hz2, kw⟩
  have hB2 := hB1.trans (hb2.mono hB1.size)
  have k02 := k0.below hb2 k0.lt
  have k12 := k1.below hb2 k1.lt
  have k22 := k2.below hb2 k2.lt
  have l0 : ∀ s : Later w2, s.val.cell? ⟨w1.heap.size, 0, none⟩ = some (.slice A3 k.length a3) := kw.later rfl
  have l1 : ∀ s : Later w2, s.val.cell? ⟨w1.heap.size, 1, none⟩ = some (.slice A4 0 a4) := kw.later rfl
  have l2 : ∀ s : Later w2, s.val.cell? ⟨w1.heap.size, 2, none⟩ = some (.bool false) := kw.later rfl
  have l3 : ∀ s : Later w2, s.val.cell? ⟨w.heap.size + 2, 3, none⟩ = some nl := k22.later rfl
  clear z0 z1 z2 z3 y0 y1 y2 y3 p0 p1 p2
  refine wp_later_many_tail 12 [(4, Sp.rb (fun b => w.heap.size + 3 ≤ b) k), (7, Sp.rb (fun b => w.heap.size + 3 ≤ b) []), (11, Sp.rsl rWr (fun b => w.heap.size + 3 ≤ b) [k])] [4, 7, 11] (by as_aux_lemma => kernel_rfl) (by as_aux_lemma => kernel_rfl) (by as_aux_lemma => kernel_rfl) ?_
  intro vv hv
  obtain ⟨B1, d1, e4, _⟩ : ∃ A c, vv 4 = .slice A k.length c ∧ k.length ≤ c := hv 4 (by decide)
  obtain ⟨B2, d2, e7, _⟩ : ∃ A c, vv 7 = .slice A 0 c ∧ 0 ≤ c := hv 7 (by decide)
  obtain ⟨B3, d3, e11, _⟩ : ∃ A c, vv 11 = .slice A 1 c ∧ 1 ≤ c := hv 11 (by decide)
  clear hv
  simp only [List.take_succ_cons, List.take_zero, List.drop_succ_cons, List.drop_zero]
  refine many_pre 4 (by decide) ?_
  simp only [List.take_succ_cons, List.take_zero, List.drop_succ_cons, List.drop_zero]
  repeat (go_big_quiet_step (fail))
  refine wpQuiet_nil (many_wild (by decide) rfl ?_ ?_)
  · intro s _
    unfold Gives
    go_simp
    refine (copy_rb _ k _ (hk.below (hB2.trans (s.below.mono hB2.size)))).mono ?_
    rintro e w4 ⟨⟨y, rfl, hy⟩, hb4⟩
    exact ⟨y, rfl, hy.mono (by decide) (fun b hb _ => Nat.le_trans hz2 (Nat.le_trans s.below.size hb)), hb4⟩
  intro a' ha'
  subst ha'
  simp only [Act.put, List.setIfInBounds_toArray, List.set_cons_succ, List.set_cons_zero]
  rw [e4]
  refine many_pre 2 (by decide) ?_
  simp only [List.take_succ_cons, List.take_zero, List.drop_succ_cons, List.drop_zero]
  repeat (go_big_quiet_step (fail))
  refine wpQuiet_nil (many_wild (by decide) rfl ?_ ?_)
  · intro s _
    unfold Gives
    go_simp
    refine (copy_rb _ [] _ (hk2.below (hB2.trans (s.below.mono hB2.size)))).mono ?_
    rintro e w4 ⟨⟨y, rfl, hy⟩, hb4⟩
    exact ⟨y, rfl, hy.mono (by decide) (fun b hb _ => Nat.le_trans hz2 (Nat.le_trans s.below.size hb)), hb4⟩
  intro a' ha'
  subst ha'
  simp only [Act.put, List.setIfInBounds_toArray, List.set_cons_succ, List.set_cons_zero]
  rw [e7]
  refine many_pre 3 (by decide) ?_
  simp only [List.take_succ_cons, List.take_zero, List.drop_succ_cons, List.drop_zero]
  repeat (go_big_quiet_step (fail))
  refine wpQuiet_nil (many_wild (by decide) rfl ?_ ?_)
  · intro s hf
    unfold Gives
    go_simp
    have f4 : RB _ s.val (vv 4) k := hf 4 (by decide) (by kernel_rfl)
    have f7 : RB _ s.val (vv 7) [] := hf 7 (by decide) (by kernel_rfl)
    rw [e4] at f4
    rw [e7] at f7
    exact ⟨RSl.one_new (E := rWr) _ ⟨_, _, rfl, f4, f7⟩ (Nat.le_trans hz2 s.below.size) (by decide), (Below.refl _ _).alloc (Nat.le_refl _) _⟩
  intro a' ha'
  subst ha'
  simp only [Act.put, List.setIfInBounds_toArray, List.set_cons_succ, List.set_cons_zero]
  rw [e11]
  refine many_end ?_
  intro s hf
  have f11 : RSl rWr _ s.val (vv 11) [k] := hf 11 (by decide)
  rw [e11] at f11
  have hBs := hB2.trans (s.below.mono hB2.size)
  have k1s := k12.below s.below k12.lt
  have k2s := k22.below s.below k22.lt
  have hzs : w.heap.size + 3 ≤ s.val.heap.size := Nat.le_trans hz2 s.below.size
  clear e4 e7 e11 l0 l1 l2 l3 hf
  refine wp_appR (E := rWr) Try.rowWr (by decide) rfl _ _ rfl _ [] _ rfl (OwnL.nil_ rWr (fun b => w.heap.size + 3 ≤ b) (w.heap.size + 3) 92 s.val) _ [k] rfl (f11.mono (by decide) fun b hb2 _ => ⟨hb2, fun e => by cases e⟩) (by show (0 + 1) * 56 ≤ _; omega) (by show 0 + 1 ≤ _; omega) hzs ?_
  intro v' w3 hown hk3 _
  have hb3 : Below s.val.heap.size s.val w3 := hk3.below (Nat.le_refl _) fun b _ h => by cases h
  rw [List.nil_append] at hown
  obtain ⟨A9, c9, rfl, _⟩ := hown.form
  have hr9 : RSl rWr (fun b => w.heap.size + 3 ≤ b) w3 (.slice A9 1 c9) [k] := hown.rsl (by decide) (by show 1 * 56 ≤ _; omega) (fun b h => h) (fun b h => h)
  have hB3 := hBs.trans (hb3.mono hBs.size)
  have k13 := k1s.below hb3 k1s.lt
  have k23 := k2s.below hb3 k2s.lt
  obtain ⟨y0, y1, y2, y3⟩ := cells4 k23
  obtain ⟨z0, z1, z2, z3⟩ := cells4 k13
  have fy := fun i => k23.frozen i
  have fz := fun i => k13.frozen i
  have k03 := (k02.below s.below k02.lt).below hb3 (k02.below s.below k02.lt).lt
  clear hown hk3
  go_upto_region 12 with fail
  have hkp : Kp (fun b => w.heap.size + 3 ≤ b) w3 (w3.setCell ⟨w.heap.size + 2, 3, none⟩ (.slice A9 1 c9)) := (Kp.refl _ _).setCell (fun _ h => by have : w.heap.size + 3 ≤ w.heap.size + 2 := h; omega) _
  refine name_world (fun w4 => Below w.heap.size w w4 ∧ Blk w4 w.heap.size 191 #[.int .u64 9, nl, nl, .slice (some ⟨b, off, none⟩) 1 c] ∧ Blk w4 (w.heap.size + 1) 191 #[.int .u64 0, nl, nl, nl] ∧ Blk w4 (w.heap.size + 2) 191 #[.int .u64 9, nl, nl, .slice A9 1 c9] ∧ RSl rWr (fun b => w.heap.size + 3 ≤ b) w4 (.slice A9 1 c9) [k])
    ⟨hB3.setCell (by simp; omega) _, k03.far (by simp; omega) _, k13.far (by simp) _, by simpa using k23.set_ 3 (.slice A9 1 c9), hr9.kp hkp⟩ ?_
  clear hkp hr9 k03 k13 k23 y0 y1 y2 y3 z0 z1 z2 z3 fy fz
  rintro w4 ⟨hB4, k04, k14, k24, hr4⟩
  obtain ⟨x0, x1, x2, x3⟩ := cells4 k04
  obtain ⟨y0, y1, y2, y3⟩ := cells4 k24
  obtain ⟨z0, z1, z2, z3⟩ := cells4 k14
  have fz := fun i => k14.frozen i
  go_wp2
  rw [rounds_succ]
  go_wp2
  have hkp : Kp (fun b => w.heap.size + 3 ≤ b) w4 ((((w4.setCell ⟨w.heap.size + 1, 0, none⟩ (.int .u64 9)).setCell ⟨w.heap.size + 1, 1, none⟩ nl).setCell ⟨w.heap.size + 1, 2, none⟩ nl).setCell ⟨w.heap.size + 1, 3, none⟩ (.slice A9 1 c9)) :=
    ((((Kp.refl _ _).setCell (fun _ h => by have : w.heap.size + 3 ≤ w.heap.size + 1 := h; omega) _).setCell (fun _ h => by have : w.heap.size + 3 ≤ w.heap.size + 1 := h; omega) _).setCell (fun _ h => by have : w.heap.size + 3 ≤ w.heap.size + 1 := h; omega) _).setCell (fun _ h => by have : w.heap.size + 3 ≤ w.heap.size + 1 := h; omega) _
  obtain ⟨d0, d1, d2, d3⟩ := cells4 (set4' k14 (.int .u64 9) nl nl (.slice A9 1 c9))
  refine bodyPost_ret (v := .agg #[.int .u64 9, nl, nl, .slice A9 1 c9]) (by simp [results, Try.results171, go_sem, d0, d1, d2, d3]) rfl ?_
  exact ⟨⟨A9, c9, rfl, (hr4.kp hkp).mono (by decide) fun b h _ => by omega⟩, (((hB4.setCell (by simp) _).setCell (by simp) _).setCell (by simp) _).setCell (by simp) _⟩
end Go.Proofs.Ytikkknaofiafhaa
