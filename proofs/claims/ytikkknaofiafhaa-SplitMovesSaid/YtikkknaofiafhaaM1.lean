/- Contracts: ref16's Some, span, may, owns; same.Find, Part. -/
import Derived.Test.YtikkknaofiafhaaP10
namespace Go.Proofs.Ytikkknaofiafhaa
open Go.RowKit

def someB (f t : List UInt8) : Bool := !t.isEmpty && Op.bytesLess f t
set_option maxRecDepth 100000 in
set_option maxHeartbeats 1600000 in
theorem some_any {ok : Nat → Prop} (fr ut : Value) (lf lu : List UInt8) (w : World) (h1 : RB ok w fr lf) (h2 : RB ok w ut lu) :
    Calls Try.prog 84 #[.agg #[fr, ut]] w fun e w' => e = .returned (.bool (someB lf lu)) ∧ Below w.heap.size w w' := by
  obtain ⟨A1, c1, rfl, _, _⟩ := h1.form
  obtain ⟨A2, c2, rfl, _, _⟩ := h2.form
  have hal : ∀ o, Below w.heap.size w (w.alloc o) := fun o => (Below.refl _ _).alloc (Nat.le_refl _) _
  have e1 := rb_str (h1.below (hal (.cells #[.slice A1 lf.length c1, .slice A2 lu.length c2] 50)))
  have e2 := rb_str (h2.below (hal (.cells #[.slice A1 lf.length c1, .slice A2 lu.length c2] 50)))
  obtain ⟨B2, hB2⟩ : ∃ b, b = Op.bytesLess lf lu := ⟨_, rfl⟩
  have t1 : Op.bytesLess (str lf).toList (str lu).toList = B2 := by rw [str_toList, str_toList, hB2]
  have HW : Hid (someB lf lu = (decide (0 < lu.length) && B2)) := by unfold someB; rw [hB2]; cases lu <;> rfl
  clear hB2
  by_cases h0 : 0 < lu.length
  all_goals
    first
      | have HW := Lib.hid (HW.out.trans (by rw [decide_eq_true h0]) : someB lf lu = (true && B2))
      | have HW := Lib.hid (HW.out.trans (by rw [decide_eq_false h0]) : someB lf lu = (false && B2))
    cases B2
  all_goals
    go_enter Try.func84, Try.ntmps84
    go_wp2
    go_ret
    exact ⟨ret_bool (by rw [HW.out]; rfl), hal _⟩

def may16 (k v : List UInt8) : Bool := decide (0 < k.length) && (decide (k.length ≤ 600) && decide (v.length ≤ 1000))
set_option maxRecDepth 100000 in
set_option maxHeartbeats 1600000 in
theorem may16_any (A B : Option Addr) (c d : Nat) (k v : List UInt8) (w : World) :
    Calls Try.prog 139 #[.slice A k.length c, .slice B v.length d] w fun e w' => e = .returned (.bool (may16 k v)) ∧ w' = w := by
  by_cases h1 : 0 < k.length <;> by_cases h2 : k.length ≤ 600 <;> by_cases h3 : v.length ≤ 1000
  all_goals
    have h2' : ((k.length : Int) ≤ 600) = (k.length ≤ 600) := by simp; omega
    have h3' : ((v.length : Int) ≤ 1000) = (v.length ≤ 1000) := by simp; omega
    go_enter Try.func139, Try.ntmps139
    go_wp2
    go_ret
    exact ⟨ret_bool (by unfold may16; simp [h1, h2, h3]), rfl⟩

set_option maxRecDepth 100000 in
set_option maxHeartbeats 3200000 in
theorem span16_any {ok : Nat → Prop} (fr ut : Value) (lf lu : List UInt8) (w : World) (h1 : RB ok w fr lf) (h2 : RB ok w ut lu) :
    Calls Try.prog 85 #[.agg #[fr, ut]] w fun e w' => (∃ A1 c1 A2 c2, e = .returned (.agg #[.slice A1 lf.length c1, .slice A2 lu.length c2]) ∧ RB (fun b => w.heap.size ≤ b) w' (.slice A1 lf.length c1) lf ∧ RB (fun b => w.heap.size ≤ b) w' (.slice A2 lu.length c2) lu) ∧ Below w.heap.size w w' := by
  obtain ⟨A1, c1, rfl, _, _⟩ := h1.form
  obtain ⟨A2, c2, rfl, _, _⟩ := h2.form
  go_enter Try.func85, Try.ntmps85
  go_upto_region 1 with fail
  refine name_world (fun w1 => Below w.heap.size w w1 ∧ w.heap.size + 2 ≤ w1.heap.size ∧ Blk w1 w.heap.size 50 #[.slice A1 lf.length c1, .slice A2 lu.length c2] ∧ Blk w1 (w.heap.size + 1) 50 #[nl, nl])
    ⟨((Below.refl _ _).alloc (Nat.le_refl _) _).alloc (by simp) _, by simp, (Blk.new w _ _).alloc _, Blk.new_ (by simp)⟩ ?_
  rintro w1 ⟨hB1, hz1, k1, k2⟩
  have q0 : ∀ s : Later w1, s.val.cell? ⟨w.heap.size, 0, none⟩ = some (.slice A1 lf.length c1) := k1.later rfl
  have q1 : ∀ s : Later w1, s.val.cell? ⟨w.heap.size, 1, none⟩ = some (.slice A2 lu.length c2) := k1.later rfl
  have g1 := h1.below hB1
  have g2 := h2.below hB1
  refine wp_later_many_tail 7 [(2, Sp.rb (fun b => w.heap.size + 2 ≤ b) lf), (5, Sp.rb (fun b => w.heap.size + 2 ≤ b) lu)] [2, 5] (by as_aux_lemma => kernel_rfl) (by as_aux_lemma => kernel_rfl) (by as_aux_lemma => kernel_rfl) ?_
  intro vv hv
  obtain ⟨B1, d1, e2, _⟩ : ∃ A c, vv 2 = .slice A lf.length c ∧ lf.length ≤ c := hv 2 (by decide)
  obtain ⟨B2, d2, e5, _⟩ : ∃ A c, vv 5 = .slice A lu.length c ∧ lu.length ≤ c := hv 5 (by decide)
  simp only [List.take_succ_cons, List.take_zero, List.drop_succ_cons, List.drop_zero]
  refine many_pre 2 (by decide) ?_
  simp only [List.take_succ_cons, List.take_zero, List.drop_succ_cons, List.drop_zero]
  repeat (go_big_quiet_step (fail))
  refine wpQuiet_nil (many_wild (by decide) rfl ?_ ?_)
  · intro s _
    unfold Gives
    go_simp
    refine (copy_rb _ lf _ (g1.below s.below)).mono ?_
    rintro e w4 ⟨⟨y, rfl, hy⟩, hb4⟩
    exact ⟨y, rfl, hy.mono (by decide) (fun b hb _ => by have := s.below.size; have : s.val.heap.size ≤ b := hb; omega), hb4⟩
  intro a' ha'
  subst ha'
  simp only [Act.put, List.setIfInBounds_toArray, List.set_cons_succ, List.set_cons_zero]
  rw [e2]
  refine many_pre 2 (by decide) ?_
  simp only [List.take_succ_cons, List.take_zero, List.drop_succ_cons, List.drop_zero]
  repeat (go_big_quiet_step (fail))
  refine wpQuiet_nil (many_wild (by decide) rfl ?_ ?_)
  · intro s _
    unfold Gives
    go_simp
    refine (copy_rb _ lu _ (g2.below s.below)).mono ?_
    rintro e w4 ⟨⟨y, rfl, hy⟩, hb4⟩
    exact ⟨y, rfl, hy.mono (by decide) (fun b hb _ => by have := s.below.size; have : s.val.heap.size ≤ b := hb; omega), hb4⟩
  intro a' ha'
  subst ha'
  simp only [Act.put, List.setIfInBounds_toArray, List.set_cons_succ, List.set_cons_zero]
  rw [e5]
  refine many_pre 1 (by decide) ?_
  simp only [List.take_succ_cons, List.take_zero, List.drop_succ_cons, List.drop_zero]
  repeat (go_big_quiet_step (fail))
  refine wpQuiet_nil (many_end ?_)
  intro s hf
  have f2 : RB (fun b => w.heap.size + 2 ≤ b) s.val (vv 2) lf := hf 2 (by decide)
  have f5 : RB (fun b => w.heap.size + 2 ≤ b) s.val (vv 5) lu := hf 5 (by decide)
  rw [e2] at f2
  rw [e5] at f5
  have hBs := hB1.trans (s.below.mono hB1.size)
  have k2s := k2.below s.below k2.lt
  obtain ⟨z0, z1⟩ := And.intro (k2s.cell 0) (k2s.cell 1)
  simp at z0 z1
  have fz := fun i => k2s.frozen i
  clear q0 q1 e2 e5 hv hf
  go_wp2
  have kz := (k2s.set_ 0 (.slice B1 lf.length d1)).set_ 1 (.slice B2 lu.length d2)
  obtain ⟨d0, d1'⟩ := And.intro (kz.cell 0) (kz.cell 1)
  simp at d0 d1'
  have hkx : Kp (fun b => w.heap.size + 2 ≤ b) s.val ((s.val.setCell ⟨w.heap.size + 1, 0, none⟩ (.slice B1 lf.length d1)).setCell ⟨w.heap.size + 1, 1, none⟩ (.slice B2 lu.length d2)) :=
    ((Kp.refl _ _).setCell (fun _ h => by have : w.heap.size + 2 ≤ w.heap.size + 1 := h; omega) _).setCell (fun _ h => by have : w.heap.size + 2 ≤ w.heap.size + 1 := h; omega) _
  refine bodyPost_ret (v := .agg #[.slice B1 lf.length d1, .slice B2 lu.length d2]) (by simp [results, Try.results85, go_sem, d0, d1']) rfl ?_
  exact ⟨⟨_, _, _, _, rfl, (f2.kp hkx).mono (by decide) fun b h _ => by omega, (f5.kp hkx).mono (by decide) fun b h _ => by omega⟩, (hBs.setCell (by simp) _).setCell (by simp) _⟩

/-- a shard's cells -/
abbrev shCs (o1 o2 l T : Value) (n : Int) (over f1 f2 gone : Value) : Array Value := #[o1, o2, l, T, .int .i64 n, over, f1, f2, gone]
set_option maxRecDepth 100000 in
set_option maxHeartbeats 1600000 in
theorem owns_any {ok ok2 : Nat → Prop} (g : Nat) (o1 o2 l T over f1 f2 gone k : Value) (n : Int) (lf lu lk : List UInt8) (w : World) (hg : Blk w g 90 (shCs o1 o2 l T n over f1 f2 gone)) (h1 : RB ok w o1 lf) (h2 : RB ok w o2 lu) (h3 : RB ok2 w k lk) :
    Calls Try.prog 130 #[.pointer (some ⟨g, 0, none⟩), k] w fun e w' => e = .returned (.bool (someB lf lu && withinB lf lu lk)) ∧ Below w.heap.size w w' := by
  obtain ⟨A1, c1, rfl, _, _⟩ := h1.form
  obtain ⟨A2, c2, rfl, _, _⟩ := h2.form
  obtain ⟨A3, c3, rfl, _, _⟩ := h3.form
  have z0 : w.cell? ⟨g, 0, none⟩ = some (.slice A1 lf.length c1) := hg.cell 0
  have z1 : w.cell? ⟨g, 1, none⟩ = some (.slice A2 lu.length c2) := hg.cell 1
  go_enter Try.func130, Try.ntmps130
  go_wp2_with fail
  refine (some_any _ _ lf lu _ h1 h2).mono ?_
  rintro e w1 ⟨rfl, hb1⟩
  have hg1 := hg.below hb1 hg.lt
  clear z0 z1
  have z0 : w1.cell? ⟨g, 0, none⟩ = some (.slice A1 lf.length c1) := hg1.cell 0
  have z1 : w1.cell? ⟨g, 1, none⟩ = some (.slice A2 lu.length c2) := hg1.cell 1
  cases hS : someB lf lu
  · have HS := Lib.hid hS
    clear hS
    go_wp2
    go_ret
    exact ⟨ret_bool (by rw [HS.out]; rfl), hb1⟩
  · have HS := Lib.hid hS
    clear hS
    go_wp2_with fail
    refine (within_any _ _ _ lf lu lk _ (h1.below hb1) (h2.below hb1) (h3.below hb1)).mono ?_
    rintro e w2 ⟨rfl, hb2⟩
    go_wp2
    go_ret
    exact ⟨ret_bool (by rw [HS.out]; rfl), hb1.trans (hb2.mono hb1.size)⟩
end Go.Proofs.Ytikkknaofiafhaa
