/- Contracts: same.Span, same.Same of pairs, of nothing; same.Table, same.Index of nothing.
Contract: same.Command of two that say the same.
SplitNil's walk. -/
import Derived.Test.YtikkknaofiafhaaS2
import Derived.Test.YtikkknaofiafhaaC3
import Derived.Test.YtikkknaofiafhaaCmd
import Derived.Test.YtikkknaofiafhaaK1
import Derived.Test.YtikkknaofiafhaaS8
namespace Go.Proofs.Ytikkknaofiafhaa
open Go.RowKit

set_option maxRecDepth 100000 in
set_option maxHeartbeats 1600000 in
theorem spanSame_any {ok ok2 : Nat → Prop} (fr ut fr2 ut2 : Value) (lf lu : List UInt8) (w : World) (h1 : RB ok w fr lf) (h2 : RB ok w ut lu) (h3 : RB ok2 w fr2 lf) (h4 : RB ok2 w ut2 lu) :
    Calls Try.prog 77 #[.agg #[fr, ut], .agg #[fr2, ut2]] w fun e w' => e = .returned (.bool true) ∧ Below w.heap.size w w' := by
  obtain ⟨A1, c1, rfl, _, _⟩ := h1.form
  obtain ⟨A2, c2, rfl, _, _⟩ := h2.form
  obtain ⟨A3, c3, rfl, _, _⟩ := h3.form
  obtain ⟨A4, c4, rfl, _, _⟩ := h4.form
  have hal : ∀ o o', Below w.heap.size w ((w.alloc o).alloc o') := fun o o' => ((Below.refl _ _).alloc (Nat.le_refl _) _).alloc (by simp) _
  go_enter Try.func77, Try.ntmps77
  go_wp2_with fail
  refine (bytes_rb _ _ lf lf _ (h1.below (hal _ _)) (h3.below (hal _ _))).mono ?_
  rintro e w1 ⟨rfl, hw⟩
  subst hw
  rw [decide_eq_true (show lf = lf from rfl)]
  go_wp2_with fail
  refine (bytes_rb _ _ lu lu _ (h2.below (hal _ _)) (h4.below (hal _ _))).mono ?_
  rintro e w1 ⟨rfl, hw⟩
  subst hw
  rw [decide_eq_true (show lu = lu from rfl)]
  go_wp2
  go_ret
  exact ⟨rfl, hal _ _⟩

theorem sameSeen_nil (w : World) : Calls Try.prog 78 #[nl, nl, .func (.func 79) #[] #[]] w fun e w' => e = .returned (.bool true) ∧ Below w.heap.size w w' := by
  go_enter Try.func78, Try.ntmps78
  go_wp2
  go_loop [7] (fun j => j = .int .i64 0) (fun _ => 0)
  case atStart => exact rfl
  case round =>
    subst hrel
    go_wp2
    go_ret
    exact ⟨rfl, Below.refl _ _⟩

theorem sameWrite_nil (w : World) : Calls Try.prog 80 #[nl, nl, .func (.func 81) #[] #[]] w fun e w' => e = .returned (.bool true) ∧ Below w.heap.size w w' := by
  go_enter Try.func80, Try.ntmps80
  go_wp2
  go_loop [7] (fun j => j = .int .i64 0) (fun _ => 0)
  case atStart => exact rfl
  case round =>
    subst hrel
    go_wp2
    go_ret
    exact ⟨rfl, Below.refl _ _⟩

theorem sameCol_nil (w : World) : Calls Try.prog 165 #[nl, nl, .func (.func 166) #[] #[]] w fun e w' => e = .returned (.bool true) ∧ Below w.heap.size w w' := by
  go_enter Try.func165, Try.ntmps165
  go_wp2
  go_loop [7] (fun j => j = .int .i64 0) (fun _ => 0)
  case atStart => exact rfl
  case round =>
    subst hrel
    go_wp2
    go_ret
    exact ⟨rfl, Below.refl _ _⟩

theorem sameInt_nil (w : World) : Calls Try.prog 167 #[nl, nl, .func (.func 168) #[] #[]] w fun e w' => e = .returned (.bool true) ∧ Below w.heap.size w w' := by
  go_enter Try.func167, Try.ntmps167
  go_wp2
  go_loop [7] (fun j => j = .int .i64 0) (fun _ => 0)
  case atStart => exact rfl
  case round =>
    subst hrel
    go_wp2
    go_ret
    exact ⟨rfl, Below.refl _ _⟩

theorem plainCol_nil (w : World) : Calls Try.prog 128 #[nl, nl] w fun e w' => e = .returned (.bool true) ∧ Below w.heap.size w w' := by
  go_enter Try.func128, Try.ntmps128
  go_wp2_with fail
  refine (sameCol_nil _).mono ?_
  rintro e w1 ⟨rfl, hb1⟩
  go_wp2
  go_ret
  exact ⟨rfl, hb1⟩

theorem plainInt_nil (w : World) : Calls Try.prog 129 #[nl, nl] w fun e w' => e = .returned (.bool true) ∧ Below w.heap.size w w' := by
  go_enter Try.func129, Try.ntmps129
  go_wp2_with fail
  refine (sameInt_nil _).mono ?_
  rintro e w1 ⟨rfl, hb1⟩
  go_wp2
  go_ret
  exact ⟨rfl, hb1⟩

set_option maxRecDepth 100000 in
set_option maxHeartbeats 1600000 in
theorem tableSame_zero (w : World) : Calls Try.prog 82 #[.agg #[.int .i64 0, .string ⟨#[]⟩, nl, nl], .agg #[.int .i64 0, .string ⟨#[]⟩, nl, nl]] w fun e w' => e = .returned (.bool true) ∧ Below w.heap.size w w' := by
  go_enter Try.func82, Try.ntmps82
  go_upto_region 1 with fail
  refine name_world (fun w1 => Below w.heap.size w w1 ∧ w.heap.size + 2 ≤ w1.heap.size ∧ Blk w1 w.heap.size 56 #[.int .i64 0, .string ⟨#[]⟩, nl, nl] ∧ Blk w1 (w.heap.size + 1) 56 #[.int .i64 0, .string ⟨#[]⟩, nl, nl])
    ⟨((Below.refl _ _).alloc (Nat.le_refl _) _).alloc (by simp) _, by simp, (Blk.new w _ _).alloc _, Blk.new_ (by simp)⟩ ?_
  rintro w1 ⟨hB1, hz1, k1, k2⟩
  obtain ⟨a0, a1, a2, a3⟩ := set4_cells k1
  obtain ⟨b0, b1, b2, b3⟩ := set4_cells k2
  go_wp2_with fail
  refine (plainCol_nil _).mono ?_
  rintro e w2 ⟨rfl, hb2⟩
  have hB2 := hB1.trans (hb2.mono hB1.size)
  have k12 := k1.below hb2 k1.lt
  have k22 := k2.below hb2 k2.lt
  clear a0 a1 a2 a3 b0 b1 b2 b3
  obtain ⟨a0, a1, a2, a3⟩ := set4_cells k12
  obtain ⟨b0, b1, b2, b3⟩ := set4_cells k22
  go_wp2_with fail
  refine (plainInt_nil _).mono ?_
  rintro e w3 ⟨rfl, hb3⟩
  have hB3 := hB2.trans (hb3.mono hB2.size)
  go_wp2
  go_ret
  exact ⟨rfl, hB3⟩
theorem idx7_cells {w : World} {g : Nat} {T : TypeId} (h : Blk w g T #[.int .i64 0, .int .i64 0, .string ⟨#[]⟩, nl, .bool false, .int .i64 0, .bool false]) : w.cell? ⟨g, 0, none⟩ = some (.int .i64 0) ∧ w.cell? ⟨g, 1, none⟩ = some (.int .i64 0) ∧ w.cell? ⟨g, 2, none⟩ = some (.string ⟨#[]⟩) ∧ w.cell? ⟨g, 3, none⟩ = some nl ∧ w.cell? ⟨g, 4, none⟩ = some (.bool false) ∧ w.cell? ⟨g, 5, none⟩ = some (.int .i64 0) ∧ w.cell? ⟨g, 6, none⟩ = some (.bool false) := ⟨h.cell 0, h.cell 1, h.cell 2, h.cell 3, h.cell 4, h.cell 5, h.cell 6⟩
set_option maxRecDepth 100000 in
set_option maxHeartbeats 1600000 in
theorem indexSame_zero (w : World) : Calls Try.prog 83 #[.agg #[.int .i64 0, .int .i64 0, .string ⟨#[]⟩, nl, .bool false, .int .i64 0, .bool false], .agg #[.int .i64 0, .int .i64 0, .string ⟨#[]⟩, nl, .bool false, .int .i64 0, .bool false]] w fun e w' => e = .returned (.bool true) ∧ Below w.heap.size w w' := by
  go_enter Try.func83, Try.ntmps83
  go_upto_region 1 with fail
  refine name_world (fun w1 => Below w.heap.size w w1 ∧ w.heap.size + 2 ≤ w1.heap.size ∧ Blk w1 w.heap.size 58 #[.int .i64 0, .int .i64 0, .string ⟨#[]⟩, nl, .bool false, .int .i64 0, .bool false] ∧ Blk w1 (w.heap.size + 1) 58 #[.int .i64 0, .int .i64 0, .string ⟨#[]⟩, nl, .bool false, .int .i64 0, .bool false])
    ⟨((Below.refl _ _).alloc (Nat.le_refl _) _).alloc (by simp) _, by simp, (Blk.new w _ _).alloc _, Blk.new_ (by simp)⟩ ?_
  rintro w1 ⟨hB1, hz1, k1, k2⟩
  obtain ⟨a0, a1, a2, a3, a4, a5, a6⟩ := idx7_cells k1
  obtain ⟨b0, b1, b2, b3, b4, b5, b6⟩ := idx7_cells k2
  go_wp2_with fail
  refine (plainInt_nil _).mono ?_
  rintro e w2 ⟨rfl, hb2⟩
  have hB2 := hB1.trans (hb2.mono hB1.size)
  have k12 := k1.below hb2 k1.lt
  have k22 := k2.below hb2 k2.lt
  clear a0 a1 a2 a3 a4 a5 a6 b0 b1 b2 b3 b4 b5 b6
  obtain ⟨a0, a1, a2, a3, a4, a5, a6⟩ := idx7_cells k12
  obtain ⟨b0, b1, b2, b3, b4, b5, b6⟩ := idx7_cells k22
  go_wp2
  go_ret
  exact ⟨rfl, hB2⟩

set_option maxRecDepth 100000 in
set_option maxHeartbeats 1600000 in
theorem pairSame_any {ok ok2 : Nat → Prop} (a b a2 b2 : Value) (p : PairD) (w : World) (h1 : RB ok w a p.k) (h2 : RB ok w b p.v) (h3 : RB ok2 w a2 p.k) (h4 : RB ok2 w b2 p.v) :
    Calls Try.prog 42 #[.agg #[a, b, .int .i64 p.n], .agg #[a2, b2, .int .i64 p.n]] w fun e w' => e = .returned (.bool true) ∧ Below w.heap.size w w' := by
  obtain ⟨A1, c1, rfl, _, _⟩ := h1.form
  obtain ⟨A2, c2, rfl, _, _⟩ := h2.form
  obtain ⟨A3, c3, rfl, _, _⟩ := h3.form
  obtain ⟨A4, c4, rfl, _, _⟩ := h4.form
  have hal : ∀ o o', Below w.heap.size w ((w.alloc o).alloc o') := fun o o' => ((Below.refl _ _).alloc (Nat.le_refl _) _).alloc (by simp) _
  go_enter Try.func42, Try.ntmps42
  go_wp2_with fail
  refine (bytes_rb _ _ p.k p.k _ (h1.below (hal _ _)) (h3.below (hal _ _))).mono ?_
  rintro e w1 ⟨rfl, hw⟩
  subst hw
  rw [decide_eq_true (show p.k = p.k from rfl)]
  go_wp2_with fail
  refine (bytes_rb _ _ p.v p.v _ (h2.below (hal _ _)) (h4.below (hal _ _))).mono ?_
  rintro e w1 ⟨rfl, hw⟩
  subst hw
  rw [decide_eq_true (show p.v = p.v from rfl)]
  go_wp2
  go_ret
  exact ⟨rfl, hal _ _⟩

set_option maxRecDepth 100000 in
set_option maxHeartbeats 1600000 in
theorem samePair_any {ok ok2 : Nat → Prop} (v v2 : Value) (l : List PairD) (w : World) (h1 : RSl rPair ok w v l) (h2 : RSl rPair ok2 w v2 l) :
    Calls Try.prog 41 #[v, v2, .func (.func 42) #[] #[]] w fun e w' => e = .returned (.bool true) ∧ Below w.heap.size w w' := by
  obtain ⟨A0, c0, rfl, hc0, hbd⟩ := h1.form
  obtain ⟨A9, c9, rfl, hc9, _⟩ := h2.form
  have hbd' : l.length * 56 ≤ 140737488351232 := hbd
  go_enter Try.func41, Try.ntmps41
  go_wp2
  go_loopw [7] (fun j wr => ∃ k : Nat, k ≤ l.length ∧ j = .int .i64 (k : Int) ∧ Below w.heap.size w wr) (fun j _ => l.length - (intOf j).toNat)
  case atStart => exact ⟨0, by omega, rfl, Below.refl _ _⟩
  case round =>
    obtain ⟨k, hk, rfl, hb⟩ := hrel
    by_cases hlt : k < l.length
    · obtain ⟨b, off, c, cs, hv, _, ⟨a1, a2, rfl, ha1, ha2, hi64⟩, hcell⟩ := (h1.below hb).at_ hlt
      simp only [Value.slice.injEq, true_and] at hv
      obtain ⟨rfl, rfl⟩ := hv
      obtain ⟨b', off', c', cs', hv', _, ⟨a3, a4, rfl, ha3, ha4, _⟩, hcell'⟩ := (h2.below hb).at_ hlt
      simp only [Value.slice.injEq, true_and] at hv'
      obtain ⟨rfl, rfl⟩ := hv'
      have q0 := hcell 0 _ rfl
      have q1 := hcell 1 _ rfl
      have q2 := hcell 2 _ rfl
      have q0' := hcell' 0 _ rfl
      have q1' := hcell' 1 _ rfl
      have q2' := hcell' 2 _ rfl
      simp only [Nat.add_zero, show rPair.sz = 3 from rfl] at q0 q1 q2 q0' q1' q2'
      clear hcell hcell'
      obtain ⟨A1, c1, rfl, hc1, _⟩ := ha1.form
      obtain ⟨A2, c2, rfl, hc2, _⟩ := ha2.form
      obtain ⟨A3, c3, rfl, hc3, _⟩ := ha3.form
      obtain ⟨A4, c4, rfl, hc4, _⟩ := ha4.form
      obtain ⟨p, hp⟩ : ∃ p, p = l[k] := ⟨_, rfl⟩
      rw [← hp] at q0 q1 q2 q0' q1' q2' ha1 ha2 ha3 ha4
      clear hp hi64 hc1 hc2 hc3 hc4
      have l0 := Later.cell q0
      have l1 := Later.cell q1
      have l2 := Later.cell q2
      have l3 := Later.cell q0'
      have l4 := Later.cell q1'
      have l5 := Later.cell q2'
      clear q0 q1 q2 q0' q1' q2'
      go_wp2
      refine wp_region_later (by as_aux_lemma => kernel_rfl) (by as_aux_lemma => kernel_rfl) ?_
      repeat (go_big_quiet_step ((go_at_call 42; exact Later.call (pairSame_any _ _ _ _ p _ (ha1.below (Later.below _)) (ha2.below (Later.below _)) (ha3.below (Later.below _)) (ha4.below (Later.below _))))))
      refine wpQuiet_nil ?_
      intro s
      have hbs := hb.trans (s.below.mono hb.size)
      go_wp2
      go_roundw
      case rel => exact ⟨k + 1, by omega, by go_num, hbs⟩
      case measure => simp [intOf]; omega
    · go_wp2
      go_ret
      exact ⟨rfl, hb⟩
end Go.Proofs.Ytikkknaofiafhaa

namespace Go.Proofs.Ytikkknaofiafhaa
open Go.RowKit

set_option maxRecDepth 100000 in
set_option maxHeartbeats 6400000 in
theorem cmdSame_any {ok ok2 : Nat → Prop} (kind n : Int) (flag : Bool) (d : CmdD) (x1 x2 x3 x4 y1 y2 y3 y4 : Value) (w : World) (hx : CmdR ok w x1 x2 x3 x4 d) (hy : CmdR ok2 w y1 y2 y3 y4 d) :
    Calls Try.prog 34 #[.agg (cmdCs kind n flag x1 x2 x3 x4), .agg (cmdCs kind n flag y1 y2 y3 y4)] w fun e w' => e = .returned (.bool true) ∧ Below w.heap.size w w' := by
  obtain ⟨X1A, x1c, rfl, _, _⟩ := hx.key.form
  obtain ⟨X2A, x2c, rfl, _, _⟩ := hx.fr.form
  obtain ⟨X3A, x3c, rfl, _, _⟩ := hx.upto.form
  obtain ⟨X4A, x4c, rfl, _, _⟩ := hx.pairs.form
  obtain ⟨Y1A, y1c, rfl, _, _⟩ := hy.key.form
  obtain ⟨Y2A, y2c, rfl, _, _⟩ := hy.fr.form
  obtain ⟨Y3A, y3c, rfl, _, _⟩ := hy.upto.form
  obtain ⟨Y4A, y4c, rfl, _, _⟩ := hy.pairs.form
  go_enter Try.func34, Try.ntmps34
  go_upto_region 1 with fail
  refine name_world (fun w1 => Below w.heap.size w w1 ∧ Blk w1 w.heap.size 60 (cmdCs kind n flag (.slice X1A d.key.length x1c) (.slice X2A d.from_.length x2c) (.slice X3A d.upto.length x3c) (.slice X4A d.pairs.length x4c)) ∧ Blk w1 (w.heap.size + 1) 60 (cmdCs kind n flag (.slice Y1A d.key.length y1c) (.slice Y2A d.from_.length y2c) (.slice Y3A d.upto.length y3c) (.slice Y4A d.pairs.length y4c)))
    ⟨((Below.refl _ _).alloc (Nat.le_refl _) _).alloc (by simp) _, (Blk.new w _ _).alloc _, Blk.new_ (by simp)⟩ ?_
  rintro w1 ⟨hB1, k1, m1⟩
  have a0 : w1.cell? ⟨w.heap.size, 0, none⟩ = some (.int .i64 kind) := k1.cell 0
  have a1 : w1.cell? ⟨w.heap.size, 1, none⟩ = some (.int .i64 0) := k1.cell 1
  have a2 : w1.cell? ⟨w.heap.size, 2, none⟩ = some (.int .u64 0) := k1.cell 2
  have a3 : w1.cell? ⟨w.heap.size, 3, none⟩ = some (.int .i64 n) := k1.cell 3
  have a4 : w1.cell? ⟨w.heap.size, 4, none⟩ = some (.int .i64 0) := k1.cell 4
  have a5 : w1.cell? ⟨w.heap.size, 5, none⟩ = some (.int .i64 0) := k1.cell 5
  have a6 : w1.cell? ⟨w.heap.size, 6, none⟩ = some (.bool flag) := k1.cell 6
  have a7 : w1.cell? ⟨w.heap.size, 7, none⟩ = some (.slice X1A d.key.length x1c) := k1.cell 7
  have b0 : w1.cell? ⟨w.heap.size + 1, 0, none⟩ = some (.int .i64 kind) := m1.cell 0
  have b1 : w1.cell? ⟨w.heap.size + 1, 1, none⟩ = some (.int .i64 0) := m1.cell 1
  have b2 : w1.cell? ⟨w.heap.size + 1, 2, none⟩ = some (.int .u64 0) := m1.cell 2
  have b3 : w1.cell? ⟨w.heap.size + 1, 3, none⟩ = some (.int .i64 n) := m1.cell 3
  have b4 : w1.cell? ⟨w.heap.size + 1, 4, none⟩ = some (.int .i64 0) := m1.cell 4
  have b5 : w1.cell? ⟨w.heap.size + 1, 5, none⟩ = some (.int .i64 0) := m1.cell 5
  have b6 : w1.cell? ⟨w.heap.size + 1, 6, none⟩ = some (.bool flag) := m1.cell 6
  have b7 : w1.cell? ⟨w.heap.size + 1, 7, none⟩ = some (.slice Y1A d.key.length y1c) := m1.cell 7
  go_wp2_with fail
  refine (bytes_rb _ _ d.key d.key _ (hx.key.below hB1) (hy.key.below hB1)).mono ?_
  rintro e w2 ⟨rfl, hw⟩
  subst hw
  rw [decide_eq_true (show d.key = d.key from rfl)]
  clear a0 b0 a1 b1 a2 b2 a3 b3 a4 b4 a5 b5 a6 b6 a7 b7
  have a8 : w1.cell? ⟨w.heap.size, 8, none⟩ = some (.slice X2A d.from_.length x2c) := k1.cell 8
  have a9 : w1.cell? ⟨w.heap.size, 9, none⟩ = some (.slice X3A d.upto.length x3c) := k1.cell 9
  have b8 : w1.cell? ⟨w.heap.size + 1, 8, none⟩ = some (.slice Y2A d.from_.length y2c) := m1.cell 8
  have b9 : w1.cell? ⟨w.heap.size + 1, 9, none⟩ = some (.slice Y3A d.upto.length y3c) := m1.cell 9
  go_wp2_with fail
  refine (spanSame_any _ _ _ _ d.from_ d.upto _ (hx.fr.below hB1) (hx.upto.below hB1) (hy.fr.below hB1) (hy.upto.below hB1)).mono ?_
  rintro e w2 ⟨rfl, hb2⟩
  have hB2 := hB1.trans (hb2.mono hB1.size)
  have k2 := k1.below hb2 k1.lt
  have m2 := m1.below hb2 m1.lt
  clear a8 b8 a9 b9
  have a10 : w2.cell? ⟨w.heap.size, 10, none⟩ = some (.slice X4A d.pairs.length x4c) := k2.cell 10
  have b10 : w2.cell? ⟨w.heap.size + 1, 10, none⟩ = some (.slice Y4A d.pairs.length y4c) := m2.cell 10
  go_wp2_with fail
  refine (samePair_any _ _ d.pairs _ (hx.pairs.below hB2) (hy.pairs.below hB2)).mono ?_
  rintro e w3 ⟨rfl, hb3⟩
  have hB3 := hB2.trans (hb3.mono hB2.size)
  have k3 := k2.below hb3 k2.lt
  have m3 := m2.below hb3 m2.lt
  clear a10 b10
  have a11 : w3.cell? ⟨w.heap.size, 11, none⟩ = some (nl) := k3.cell 11
  have b11 : w3.cell? ⟨w.heap.size + 1, 11, none⟩ = some (nl) := m3.cell 11
  go_wp2_with fail
  refine (sameSeen_nil _).mono ?_
  rintro e w4 ⟨rfl, hb4⟩
  have hB4 := hB3.trans (hb4.mono hB3.size)
  have k4 := k3.below hb4 k3.lt
  have m4 := m3.below hb4 m3.lt
  clear a11 b11
  have a12 : w4.cell? ⟨w.heap.size, 12, none⟩ = some (nl) := k4.cell 12
  have b12 : w4.cell? ⟨w.heap.size + 1, 12, none⟩ = some (nl) := m4.cell 12
  go_wp2_with fail
  refine (sameWrite_nil _).mono ?_
  rintro e w5 ⟨rfl, hb5⟩
  have hB5 := hB4.trans (hb5.mono hB4.size)
  have k5 := k4.below hb5 k4.lt
  have m5 := m4.below hb5 m4.lt
  clear a12 b12
  have a13 : w5.cell? ⟨w.heap.size, 13, none⟩ = some (.int .i64 0) := k5.cell 13
  have a14 : w5.cell? ⟨w.heap.size, 14, none⟩ = some (.string ⟨#[]⟩) := k5.cell 14
  have a15 : w5.cell? ⟨w.heap.size, 15, none⟩ = some (nl) := k5.cell 15
  have a16 : w5.cell? ⟨w.heap.size, 16, none⟩ = some (nl) := k5.cell 16
  have b13 : w5.cell? ⟨w.heap.size + 1, 13, none⟩ = some (.int .i64 0) := m5.cell 13
  have b14 : w5.cell? ⟨w.heap.size + 1, 14, none⟩ = some (.string ⟨#[]⟩) := m5.cell 14
  have b15 : w5.cell? ⟨w.heap.size + 1, 15, none⟩ = some (nl) := m5.cell 15
  have b16 : w5.cell? ⟨w.heap.size + 1, 16, none⟩ = some (nl) := m5.cell 16
  go_wp2_with fail
  refine (tableSame_zero _).mono ?_
  rintro e w6 ⟨rfl, hb6⟩
  have hB6 := hB5.trans (hb6.mono hB5.size)
  have k6 := k5.below hb6 k5.lt
  have m6 := m5.below hb6 m5.lt
  clear a13 b13 a14 b14 a15 b15 a16 b16
  have a17 : w6.cell? ⟨w.heap.size, 17, none⟩ = some (.int .i64 0) := k6.cell 17
  have a18 : w6.cell? ⟨w.heap.size, 18, none⟩ = some (.int .i64 0) := k6.cell 18
  have a19 : w6.cell? ⟨w.heap.size, 19, none⟩ = some (.string ⟨#[]⟩) := k6.cell 19
  have a20 : w6.cell? ⟨w.heap.size, 20, none⟩ = some (nl) := k6.cell 20
  have a21 : w6.cell? ⟨w.heap.size, 21, none⟩ = some (.bool false) := k6.cell 21
  have a22 : w6.cell? ⟨w.heap.size, 22, none⟩ = some (.int .i64 0) := k6.cell 22
  have a23 : w6.cell? ⟨w.heap.size, 23, none⟩ = some (.bool false) := k6.cell 23
  have b17 : w6.cell? ⟨w.heap.size + 1, 17, none⟩ = some (.int .i64 0) := m6.cell 17
  have b18 : w6.cell? ⟨w.heap.size + 1, 18, none⟩ = some (.int .i64 0) := m6.cell 18
  have b19 : w6.cell? ⟨w.heap.size + 1, 19, none⟩ = some (.string ⟨#[]⟩) := m6.cell 19
  have b20 : w6.cell? ⟨w.heap.size + 1, 20, none⟩ = some (nl) := m6.cell 20
  have b21 : w6.cell? ⟨w.heap.size + 1, 21, none⟩ = some (.bool false) := m6.cell 21
  have b22 : w6.cell? ⟨w.heap.size + 1, 22, none⟩ = some (.int .i64 0) := m6.cell 22
  have b23 : w6.cell? ⟨w.heap.size + 1, 23, none⟩ = some (.bool false) := m6.cell 23
  go_wp2_with fail
  refine (indexSame_zero _).mono ?_
  rintro e w7 ⟨rfl, hb7⟩
  have hB7 := hB6.trans (hb7.mono hB6.size)
  have k7 := k6.below hb7 k6.lt
  have m7 := m6.below hb7 m6.lt
  clear a17 b17 a18 b18 a19 b19 a20 b20 a21 b21 a22 b22 a23 b23
  have a24 : w7.cell? ⟨w.heap.size, 24, none⟩ = some (.string ⟨#[]⟩) := k7.cell 24
  have b24 : w7.cell? ⟨w.heap.size + 1, 24, none⟩ = some (.string ⟨#[]⟩) := m7.cell 24
  go_wp2
  go_ret
  exact ⟨rfl, hB7⟩
end Go.Proofs.Ytikkknaofiafhaa

namespace Go.Proofs.Ytikkknaofiafhaa
open Go.RowKit

theorem wpList_loadG {P : Program} {ops : Array Oper} {rest : List Oper} {o : Oper} {a : Act} {w : World} {Q : Exit → Act → World → Prop} {g : Nat} {T : TypeId} {C : Array Value} (hw : Region.wanted o (yielded ops a.tmps) = true) {ty : TypeId} {x : Operand} (ho : o.op = .load ty x) (hx : a.eval x = .pointer (some ⟨g, 0, none⟩)) (hk : Blk w g T C) {d : TypeDesc} (hu : P.underlying ty = some d) (hd : d.isRow = true) (hi : (P.info? ty).map (·.size) = some C.size)
    (h : wpList P ops Q rest (a.put o.dst (.agg C)) w) : wpList P ops Q (o :: rest) a w := by
  unfold wpList
  rw [if_pos hw]
  have := wp_load_mid (P := P) (op := o) (a := a) (w := w) (K := wpList P ops Q rest) (Q := Q) ty x ho g 0 hx C.toList d hk.range hu hd (by simpa using hi)
  exact .inl (this (by simpa using h))

set_option maxRecDepth 100000 in
set_option maxHeartbeats 3200000 in
theorem jobNext_nil (R : Array Value) (s : Int) (w : World) :
    Calls Try.prog 32 #[.pointer none, .agg R, .int .i64 s] w fun e w' => e = .returned (.tuple #[.int .i64 0, .agg zC, .bool false]) ∧ Below w.heap.size w w' := by
  go_enter Try.func32, Try.ntmps32
  go_upto_region 2 with fail
  refine name_world (fun w1 => Below w.heap.size w w1 ∧ Blk w1 (w.heap.size + 1) 60 zC)
    ⟨((Below.refl _ _).alloc (Nat.le_refl _) _).alloc (by simp) _, Blk.new_ (by simp)⟩ ?_
  rintro w1 ⟨hB1, k1⟩
  refine wp_region_split 2 ?_
  simp only [List.take_succ_cons, List.take_zero, List.drop_succ_cons, List.drop_zero]
  go_wp2
  show wpList _ _ _ _ _ _
  refine wpList_storeB' rfl rfl zC rfl rfl k1 rfl Try.infoCmd (cmdCs_one rfl rfl rfl rfl) ?_ rfl
  intro k2
  have lv := k2.loadVar (P := Try.prog) Try.underlying60 rfl Try.infoCmd
  have hB2 := below_setCells (B := w.heap.size) (b := w.heap.size + 1) (by omega) zC.toList 0 hB1
  go_wp2
  refine bodyPost_ret (v := .tuple #[.int .i64 0, .agg zC, .bool false]) ?_ rfl ⟨rfl, hB2⟩
  simp [results, Try.results32, Act.put, Sem.run_bind, Sem.run_pure, asAddr_ok, lv]

theorem got_nil (C : Array Value) (w : World) :
    Calls Try.prog 30 #[.pointer none, .agg C] w fun e w' => e = .returned (.int .i64 2) ∧ Below w.heap.size w w' := by
  go_enter Try.func30, Try.ntmps30
  go_wp2
  go_ret
  exact ⟨rfl, (Below.refl _ _).alloc (Nat.le_refl _) _⟩

set_option maxRecDepth 100000 in
set_option maxHeartbeats 6400000 in
theorem lawNil (s : Int) (C : Array Value) (w : World) (hC : C.size = 15) :
    Calls Try.prog 8 #[.int .i64 s, .agg C] w fun e w' => e = .returned (.bool true) ∧ Below w.heap.size w w' := by
  have HC := Lib.hid hC
  clear hC
  go_enter Try.func8, Try.ntmps8
  go_upto_region 2 with fail
  refine name_world (fun w1 => Below w.heap.size w w1 ∧ Blk w1 w.heap.size 70 C) ⟨(Below.refl _ _).alloc (Nat.le_refl _) _, Blk.new _ _ _⟩ ?_
  rintro w1 ⟨hB1, k1⟩
  refine wp_region_split 13 ?_
  simp only [List.take_succ_cons, List.take_zero, List.drop_succ_cons, List.drop_zero]
  go_wp2_with fail
  refine (jobNext_nil _ s _).mono ?_
  rintro e w2 ⟨rfl, hb2⟩
  have hB2 : Below w.heap.size w w2 := (((hB1.alloc hB1.size _).alloc (by simp; have := hB1.size; omega) _).trans (hb2.mono (by simp; have := hB1.size; omega)))
  have k2 : Blk w2 w.heap.size 70 C := ((k1.alloc _).alloc _).below hb2 (by simp; have := k1.lt; omega)
  go_wp2
  show wpList _ _ _ _ _ _
  refine wpList_storeB' (C := zC) rfl rfl zC rfl rfl (Blk.new_ rfl) rfl Try.infoCmd (cmdCs_one rfl rfl rfl rfl) ?_ rfl
  intro k3
  have hB3 := below_setCells (B := w.heap.size) (a := w) (b := w2.heap.size) hB2.size zC.toList 0 (hB2.alloc hB2.size (.cells zC 60))
  have k4 := far_setCells (g := w.heap.size) (b := w2.heap.size) (by have := k2.lt; omega) zC.toList 0 (k2.alloc (.cells zC 60))
  go_upto_region 3 with fail
  refine name_world (fun w4 => Below w.heap.size w w4 ∧ Blk w4 w.heap.size 70 C ∧ Blk w4 w2.heap.size 60 zC) ⟨hB3, k4, k3⟩ ?_
  clear hB3 k4 k3
  rintro w4 ⟨hB4, k4, m4⟩
  refine wp_region_split 6 ?_
  simp only [List.take_succ_cons, List.take_zero, List.drop_succ_cons, List.drop_zero]
  go_wp2_with fail
  refine (awakeSplit_any _).mono ?_
  rintro e w5 ⟨rfl, hb5⟩
  have hB5 := hB4.trans (hb5.mono hB4.size)
  have k5 := k4.below hb5 k4.lt
  have m5 := m4.below hb5 m4.lt
  go_wp2
  show wpList _ _ _ _ _ _
  refine wpList_loadG rfl rfl rfl m5 Try.underlying60 rfl Try.infoCmd ?_
  simp only [Act.put, List.setIfInBounds_toArray, List.set_cons_succ, List.set_cons_zero]
  refine wpList_split 9 ?_
  simp only [List.take_succ_cons, List.take_zero, List.drop_succ_cons, List.drop_zero]
  go_wp2_with fail
  refine (cmdSame_any (ok := fun _ => True) (ok2 := fun _ => True) 0 0 false ⟨0, 0, false, [], [], [], []⟩ nl nl nl nl nl nl nl nl _ ⟨RSl.nil_ _ _ _, RSl.nil_ _ _ _, RSl.nil_ _ _ _, RSl.nil_ _ _ _⟩ ⟨RSl.nil_ _ _ _, RSl.nil_ _ _ _, RSl.nil_ _ _ _, RSl.nil_ _ _ _⟩).mono ?_
  rintro e w6 ⟨rfl, hb6⟩
  have hB6 := hB5.trans (hb6.mono hB5.size)
  have k6 := k5.below hb6 k5.lt
  go_wp2
  show wpList _ _ _ _ _ _
  refine wpList_loadG rfl rfl rfl k6 Try.underlying70 rfl (by rw [HC.out]; kernel_rfl) ?_
  simp only [Act.put, List.setIfInBounds_toArray, List.set_cons_succ, List.set_cons_zero]
  go_wp2_with fail
  refine (got_nil C _).mono ?_
  rintro e w7 ⟨rfl, hb7⟩
  have hB7 := hB6.trans (hb7.mono hB6.size)
  go_wp2
  go_ret
  exact ⟨rfl, hB7⟩
end Go.Proofs.Ytikkknaofiafhaa
