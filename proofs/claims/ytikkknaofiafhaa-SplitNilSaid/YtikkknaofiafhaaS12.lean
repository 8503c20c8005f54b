/- Contracts: same.Span, same.Same of pairs, of nothing; same.Table, same.Index of nothing. -/
import Derived.Test.YtikkknaofiafhaaS7
import Derived.Test.YtikkknaofiafhaaC4
import Derived.Test.YtikkknaofiafhaaCmd
import Derived.Test.YtikkknaofiafhaaK3
namespace Go.Proofs.Ytikkknaofiafhaa
open Go.RowKit

set_option maxRecDepth 100000 in
set_option maxHeartbeats 1600000 in
theorem spanSame_any {ok ok2 : Nat → Prop} (fr ut fr2 ut2 : Value) (lf lu : List UInt8) (w : World) (h1 : RB ok w fr lf) (h2 : RB ok w ut lu) (h3 : RB ok2 w fr2 lf) (h4 : RB ok2 w ut2 lu) :
    Calls Try.prog 77 #[.agg #[fr, ut], .agg #[fr2, ut2]] w fun e w' => e = .returned (.bool true) ∧ Below w.heap.size w w' := by
  obtain ⟨A1, c1, rfl, _, _⟩ := h1.form
  obtain ⟨A2, c2, rfl, _, _⟩ := h2.form
  obtain ⟨A3, c3, rfl, _, _⟩ := h3.form
  obtain ⟨A4, c4, rfl, _, _⟩ := h4.form
  have hal : ∀ o o', Below w.heap.size w ((w.alloc o).alloc o') := fun o o' => ((Below.refl _ _).alloc (Nat.le_refl _) _).alloc (by simp) _
  go_enter Try.func77, Try.ntmps77
  go_wp2_with fail
  refine (bytes_rb _ _ lf lf _ (h1.below (hal _ _)) (h3.below (hal _ _))).mono ?_
  rintro e w1 ⟨rfl, hw⟩
  subst hw
  rw [decide_eq_true (show lf = lf from rfl)]
  go_wp2_with fail
  refine (bytes_rb _ _ lu lu _ (h2.below (hal _ _)) (h4.below (hal _ _))).mono ?_
  rintro e w1 ⟨rfl, hw⟩
  subst hw
  rw [decide_eq_true (show lu = lu from rfl)]
  go_wp2
  go_ret
  exact ⟨rfl, hal _ _⟩

theorem sameSeen_nil (w : World) : Calls Try.prog 78 #[nl, nl, .func (.func 79) #[] #[]] w fun e w' => e = .returned (.bool true) ∧ Below w.heap.size w w' := by
  go_enter Try.func78, Try.ntmps78
  go_wp2
  go_loop [7] (fun j => j = .int .i64 0) (fun _ => 0)
  case atStart => exact rfl
  case round =>
    subst hrel
    go_wp2
    go_ret
    exact ⟨rfl, Below.refl _ _⟩

theorem sameWrite_nil (w : World) : Calls Try.prog 80 #[nl, nl, .func (.func 81) #[] #[]] w fun e w' => e = .returned (.bool true) ∧ Below w.heap.size w w' := by
  go_enter Try.func80, Try.ntmps80
  go_wp2
  go_loop [7] (fun j => j = .int .i64 0) (fun _ => 0)
  case atStart => exact rfl
  case round =>
    subst hrel
    go_wp2
    go_ret
    exact ⟨rfl, Below.refl _ _⟩

theorem sameCol_nil (w : World) : Calls Try.prog 165 #[nl, nl, .func (.func 166) #[] #[]] w fun e w' => e = .returned (.bool true) ∧ Below w.heap.size w w' := by
  go_enter Try.func165, Try.ntmps165
  go_wp2
  go_loop [7] (fun j => j = .int .i64 0) (fun _ => 0)
  case atStart => exact rfl
  case round =>
    subst hrel
    go_wp2
    go_ret
    exact ⟨rfl, Below.refl _ _⟩

theorem sameInt_nil (w : World) : Calls Try.prog 167 #[nl, nl, .func (.func 168) #[] #[]] w fun e w' => e = .returned (.bool true) ∧ Below w.heap.size w w' := by
  go_enter Try.func167, Try.ntmps167
  go_wp2
  go_loop [7] (fun j => j = .int .i64 0) (fun _ => 0)
  case atStart => exact rfl
  case round =>
    subst hrel
    go_wp2
    go_ret
    exact ⟨rfl, Below.refl _ _⟩

theorem plainCol_nil (w : World) : Calls Try.prog 128 #[nl, nl] w fun e w' => e = .returned (.bool true) ∧ Below w.heap.size w w' := by
  go_enter Try.func128, Try.ntmps128
  go_wp2_with fail
  refine (sameCol_nil _).mono ?_
  rintro e w1 ⟨rfl, hb1⟩
  go_wp2
  go_ret
  exact ⟨rfl, hb1⟩

theorem plainInt_nil (w : World) : Calls Try.prog 129 #[nl, nl] w fun e w' => e = .returned (.bool true) ∧ Below w.heap.size w w' := by
  go_enter Try.func129, Try.ntmps129
  go_wp2_with fail
  refine (sameInt_nil _).mono ?_
  rintro e w1 ⟨rfl, hb1⟩
  go_wp2
  go_ret
  exact ⟨rfl, hb1⟩

set_option maxRecDepth 100000 in
set_option maxHeartbeats 1600000 in
theorem tableSame_zero (w : World) : Calls Try.prog 82 #[.agg #[.int .i64 0, .string ⟨#[]⟩, nl, nl], .agg #[.int .i64 0, .string ⟨#[]⟩, nl, nl]] w fun e w' => e = .returned (.bool true) ∧ Below w.heap.size w w' := by
  go_enter Try.func82, Try.ntmps82
  go_upto_region 1 with fail
  refine name_world (fun w1 => Below w.heap.size w w1 ∧ w.heap.size + 2 ≤ w1.heap.size ∧ Blk w1 w.heap.size 56 #[.int .i64 0, .string ⟨#[]⟩, nl, nl] ∧ Blk w1 (w.heap.size + 1) 56 #[.int .i64 0, .string ⟨#[]⟩, nl, nl])
    ⟨((Below.refl _ _).alloc (Nat.le_refl _) _).alloc (by simp) _, by simp, (Blk.new w _ _).alloc _, Blk.new_ (by simp)⟩ ?_
  rintro w1 ⟨hB1, hz1, k1, k2⟩
  obtain ⟨a0, a1, a2, a3⟩ := set4_cells k1
  obtain ⟨b0, b1, b2, b3⟩ := set4_cells k2
  go_wp2_with fail
  refine (plainCol_nil _).mono ?_
  rintro e w2 ⟨rfl, hb2⟩
  have hB2 := hB1.trans (hb2.mono hB1.size)
  have k12 := k1.below hb2 k1.lt
  have k22 := k2.below hb2 k2.lt
  clear a0 a1 a2 a3 b0 b1 b2 b3
  obtain ⟨a0, a1, a2, a3⟩ := set4_cells k12
  obtain ⟨b0, b1, b2, b3⟩ := set4_cells k22
  go_wp2_with fail
  refine (plainInt_nil _).mono ?_
  rintro e w3 ⟨rfl, hb3⟩
  have hB3 := hB2.trans (hb3.mono hB2.size)
  go_wp2
  go_ret
  exact ⟨rfl, hB3⟩
theorem idx7_cells {w : World} {g : Nat} {T : TypeId} (h : Blk w g T #[.int .i64 0, .int .i64 0, .string ⟨#[]⟩, nl, .bool false, .int .i64 0, .bool false]) : w.cell? ⟨g, 0, none⟩ = some (.int .i64 0) ∧ w.cell? ⟨g, 1, none⟩ = some (.int .i64 0) ∧ w.cell? ⟨g, 2, none⟩ = some (.string ⟨#[]⟩) ∧ w.cell? ⟨g, 3, none⟩ = some nl ∧ w.cell? ⟨g, 4, none⟩ = some (.bool false) ∧ w.cell? ⟨g, 5, none⟩ = some (.int .i64 0) ∧ w.cell? ⟨g, 6, none⟩ = some (.bool false) := ⟨h.cell 0, h.cell 1, h.cell 2, h.cell 3, h.cell 4, h.cell 5, h.cell 6⟩
set_option maxRecDepth 100000 in
set_option maxHeartbeats 1600000 in
theorem indexSame_zero (w : World) : Calls Try.prog 83 #[.agg #[.int .i64 0, .int .i64 0, .string ⟨#[]⟩, nl, .bool false, .int .i64 0, .bool false], .agg #[.int .i64 0, .int .i64 0, .string ⟨#[]⟩, nl, .bool false, .int .i64 0, .bool false]] w fun e w' => e = .returned (.bool true) ∧ Below w.heap.size w w' := by
  go_enter Try.func83, Try.ntmps83
  go_upto_region 1 with fail
  refine name_world (fun w1 => Below w.heap.size w w1 ∧ w.heap.size + 2 ≤ w1.heap.size ∧ Blk w1 w.heap.size 58 #[.int .i64 0, .int .i64 0, .string ⟨#[]⟩, nl, .bool false, .int .i64 0, .bool false] ∧ Blk w1 (w.heap.size + 1) 58 #[.int .i64 0, .int .i64 0, .string ⟨#[]⟩, nl, .bool false, .int .i64 0, .bool false])
    ⟨((Below.refl _ _).alloc (Nat.le_refl _) _).alloc (by simp) _, by simp, (Blk.new w _ _).alloc _, Blk.new_ (by simp)⟩ ?_
  rintro w1 ⟨hB1, hz1, k1, k2⟩
  obtain ⟨a0, a1, a2, a3, a4, a5, a6⟩ := idx7_cells k1
  obtain ⟨b0, b1, b2, b3, b4, b5, b6⟩ := idx7_cells k2
  go_wp2_with fail
  refine (plainInt_nil _).mono ?_
  rintro e w2 ⟨rfl, hb2⟩
  have hB2 := hB1.trans (hb2.mono hB1.size)
  have k12 := k1.below hb2 k1.lt
  have k22 := k2.below hb2 k2.lt
  clear a0 a1 a2 a3 a4 a5 a6 b0 b1 b2 b3 b4 b5 b6
  obtain ⟨a0, a1, a2, a3, a4, a5, a6⟩ := idx7_cells k12
  obtain ⟨b0, b1, b2, b3, b4, b5, b6⟩ := idx7_cells k22
  go_wp2
  go_ret
  exact ⟨rfl, hB2⟩

set_option maxRecDepth 100000 in
set_option maxHeartbeats 1600000 in
theorem pairSame_any {ok ok2 : Nat → Prop} (a b a2 b2 : Value) (p : PairD) (w : World) (h1 : RB ok w a p.k) (h2 : RB ok w b p.v) (h3 : RB ok2 w a2 p.k) (h4 : RB ok2 w b2 p.v) :
    Calls Try.prog 42 #[.agg #[a, b, .int .i64 p.n], .agg #[a2, b2, .int .i64 p.n]] w fun e w' => e = .returned (.bool true) ∧ Below w.heap.size w w' := by
  obtain ⟨A1, c1, rfl, _, _⟩ := h1.form
  obtain ⟨A2, c2, rfl, _, _⟩ := h2.form
  obtain ⟨A3, c3, rfl, _, _⟩ := h3.form
  obtain ⟨A4, c4, rfl, _, _⟩ := h4.form
  have hal : ∀ o o', Below w.heap.size w ((w.alloc o).alloc o') := fun o o' => ((Below.refl _ _).alloc (Nat.le_refl _) _).alloc (by simp) _
  go_enter Try.func42, Try.ntmps42
  go_wp2_with fail
  refine (bytes_rb _ _ p.k p.k _ (h1.below (hal _ _)) (h3.below (hal _ _))).mono ?_
  rintro e w1 ⟨rfl, hw⟩
  subst hw
  rw [decide_eq_true (show p.k = p.k from rfl)]
  go_wp2_with fail
  refine (bytes_rb _ _ p.v p.v _ (h2.below (hal _ _)) (h4.below (hal _ _))).mono ?_
  rintro e w1 ⟨rfl, hw⟩
  subst hw
  rw [decide_eq_true (show p.v = p.v from rfl)]
  go_wp2
  go_ret
  exact ⟨rfl, hal _ _⟩

set_option maxRecDepth 100000 in
set_option maxHeartbeats 1600000 in
theorem samePair_any {ok ok2 : Nat → Prop} (v v2 : Value) (l : List PairD) (w : World) (h1 : RSl rPair ok w v l) (h2 : RSl rPair ok2 w v2 l) :
    Calls Try.prog 41 #[v, v2, .func (.func 42) #[] #[]] w fun e w' => e = .returned (.bool true) ∧ Below w.heap.size w w' := by
  obtain ⟨A0, c0, rfl, hc0, hbd⟩ := h1.form
  obtain ⟨A9, c9, rfl, hc9, _⟩ := h2.form
  have hbd' : l.length * 56 ≤ 140737488351232 := hbd
  go_enter Try.func41, Try.ntmps41
  go_wp2
  go_loopw [7] (fun j wr => ∃ k : Nat, k ≤ l.length ∧ j = .int .i64 (k : Int) ∧ Below w.heap.size w wr) (fun j _ => l.length - (intOf j).toNat)
  case atStart => exact ⟨0, by omega, rfl, Below.refl _ _⟩
  case round =>
    obtain ⟨k, hk, rfl, hb⟩ := hrel
    by_cases hlt : k < l.length
    · obtain ⟨b, off, c, cs, hv, _, ⟨a1, a2, rfl, ha1, ha2, hi64⟩, hcell⟩ := (h1.below hb).at_ hlt
      simp only [Value.slice.injEq, true_and] at hv
      obtain ⟨rfl, rfl⟩ := hv
      obtain ⟨b', off', c', cs', hv', _, ⟨a3, a4, rfl, ha3, ha4, _⟩, hcell'⟩ := (h2.below hb).at_ hlt
      simp only [Value.slice.injEq, true_and] at hv'
      obtain ⟨rfl, rfl⟩ := hv'
      have q0 := hcell 0 _ rfl
      have q1 := hcell 1 _ rfl
      have q2 := hcell 2 _ rfl
      have q0' := hcell' 0 _ rfl
      have q1' := hcell' 1 _ rfl
      have q2' := hcell' 2 _ rfl
      simp only [Nat.add_zero, show rPair.sz = 3 from rfl] at q0 q1 q2 q0' q1' q2'
      clear hcell hcell'
      obtain ⟨A1, c1, rfl, hc1, _⟩ := ha1.form
      obtain ⟨A2, c2, rfl, hc2, _⟩ := ha2.form
      obtain ⟨A3, c3, rfl, hc3, _⟩ := ha3.form
      obtain ⟨A4, c4, rfl, hc4, _⟩ := ha4.form
      obtain ⟨p, hp⟩ : ∃ p, p = l[k] := ⟨_, rfl⟩
      rw [← hp] at q0 q1 q2 q0' q1' q2' ha1 ha2 ha3 ha4
      clear hp hi64 hc1 hc2 hc3 hc4
      have l0 := Later.cell q0
      have l1 := Later.cell q1
      have l2 := Later.cell q2
      have l3 := Later.cell q0'
      have l4 := Later.cell q1'
      have l5 := Later.cell q2'
      clear q0 q1 q2 q0' q1' q2'
      go_wp2
      refine wp_region_later (by as_aux_lemma => kernel_rfl) (by as_aux_lemma => kernel_rfl) ?_
      repeat (go_big_quiet_step ((go_at_call 42; exact Later.call (pairSame_any _ _ _ _ p _ (ha1.below (Later.below _)) (ha2.below (Later.below _)) (ha3.below (Later.below _)) (ha4.below (Later.below _))))))
      refine wpQuiet_nil ?_
      intro s
      have hbs := hb.trans (s.below.mono hb.size)
      go_wp2
      go_roundw
      case rel => exact ⟨k + 1, by omega, by go_num, hbs⟩
      case measure => simp [intOf]; omega
    · go_wp2
      go_ret
      exact ⟨rfl, hb⟩
end Go.Proofs.Ytikkknaofiafhaa
