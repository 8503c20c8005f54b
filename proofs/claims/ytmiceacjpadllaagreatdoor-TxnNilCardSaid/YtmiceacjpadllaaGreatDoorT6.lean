/- Contract: the document's Cut, as awake calls it.
Contracts: split.New; (*Job).next at the beginning.
The operations of a plain region walked in two parts. No program in sight.
A job's block: its cells, one and many stored. No program in sight.
Contract: (*Job).Next, as awake calls it.
Contract: law 22's awake.
Contracts: same.Span, same.Same of pairs, of nothing; same.Table, same.Index of nothing.
Contract: same.Command of two that say the same.
SplitNil's walk.
Small functions on nothing: sorting, comparing, copying of nil lists; a work without anything in it.
A work without anything in it: what it was given, what it writes; a catalog without tables; ops.New.
A region that draws its order, in which two lists of one's own are each made longer by one element, laid out in a block of its own: walked once. No program in sight.
route.Own, over routes of one span.
A transaction's first steps: New, Commit, Next, on.
A transaction without ops: prepare, on, begun. -/
import Derived.Test.YtmiceacjpadllaaGreatDoorK1
import Derived.Test.YtmiceacjpadllaaGreatDoorSpl
import Derived.Test.YtmiceacjpadllaaGreatDoorDat
namespace Go.Proofs.YtmiceacjpadllaaGreatDoor
open Go.RowKit
def zC : Array Value := cmdCs 0 0 false nl nl nl nl
end Go.Proofs.YtmiceacjpadllaaGreatDoor
namespace Go.Proofs.YtmiceacjpadllaaGreatDoor
open Go.RowKit
theorem wpList_storeB' {P : Program} {ops : Array Oper} {rest : List Oper} {o : Oper} {a : Act} {w : World} {Q : Exit → Act → World → Prop} {g : Nat} {T : TypeId} {C : Array Value} (hgd : o.guard = none) {ty : TypeId} {x y : Operand} (ho : o.op = .store ty x y) (cs : Array Value) (hx : a.eval x = .pointer (some ⟨g, 0, none⟩)) (hy : a.eval y = .agg cs) (hk : Blk w g T C) (hs : C.size = cs.size) (hi : (P.info? ty).map (·.size) = some cs.size) (h1 : cs.all (·.oneCell') = true)
    (h : Blk (w.setCells g 0 cs.toList) g T cs → wpList P ops Q rest a (w.setCells g 0 cs.toList)) (hdst : o.dst = none) : wpList P ops Q (o :: rest) a w :=
  wpList_storeB hgd ho cs hx hy hk hs hi h1 (by rw [hdst]; exact h)
end Go.Proofs.YtmiceacjpadllaaGreatDoor
namespace Go.Proofs.YtmiceacjpadllaaGreatDoor
open Go.RowKit
set_option maxRecDepth 100000 in
set_option maxHeartbeats 1600000 in
theorem spanSame_any {ok ok2 : Nat → Prop} (fr ut fr2 ut2 : Value) (lf lu : List UInt8) (w : World) (h1 : RB ok w fr lf) (h2 : RB ok w ut lu) (h3 : RB ok2 w fr2 lf) (h4 : RB ok2 w ut2 lu) :
    Calls Tryz.prog 29 #[.agg #[fr, ut], .agg #[fr2, ut2]] w fun e w' => e = .returned (.bool true) ∧ Below w.heap.size w w' := by
  obtain ⟨A1, c1, rfl, _, _⟩ := h1.form
  obtain ⟨A2, c2, rfl, _, _⟩ := h2.form
  obtain ⟨A3, c3, rfl, _, _⟩ := h3.form
  obtain ⟨A4, c4, rfl, _, _⟩ := h4.form
  have hal : ∀ o o', Below w.heap.size w ((w.alloc o).alloc o') := fun o o' => ((Below.refl _ _).alloc (Nat.le_refl _) _).alloc (by simp) _
  go_enter Tryz.func29, Tryz.ntmps29
  go_wp2_with fail
  refine (bytes_rb _ _ lf lf _ (h1.below (hal _ _)) (h3.below (hal _ _))).mono ?_
  rintro e w1 ⟨rfl, hw⟩
  subst hw
  rw [decide_eq_true (show lf = lf from rfl)]
  go_wp2_with fail
  refine (bytes_rb _ _ lu lu _ (h2.below (hal _ _)) (h4.below (hal _ _))).mono ?_
  rintro e w1 ⟨rfl, hw⟩
  subst hw
  rw [decide_eq_true (show lu = lu from rfl)]
  go_wp2
  go_ret
  exact ⟨rfl, hal _ _⟩
theorem sameSeen_nil (w : World) : Calls Tryz.prog 32 #[nl, nl, .func (.func 33) #[] #[]] w fun e w' => e = .returned (.bool true) ∧ Below w.heap.size w w' := by
  go_enter Tryz.func32, Tryz.ntmps32
  go_wp2
  go_loop [7] (fun j => j = .int .i64 0) (fun _ => 0)
  case atStart => exact rfl
  case round =>
    subst hrel
    go_wp2
    go_ret
    exact ⟨rfl, Below.refl _ _⟩
theorem sameWrite_nil (w : World) : Calls Tryz.prog 34 #[nl, nl, .func (.func 35) #[] #[]] w fun e w' => e = .returned (.bool true) ∧ Below w.heap.size w w' := by
  go_enter Tryz.func34, Tryz.ntmps34
  go_wp2
  go_loop [7] (fun j => j = .int .i64 0) (fun _ => 0)
  case atStart => exact rfl
  case round =>
    subst hrel
    go_wp2
    go_ret
    exact ⟨rfl, Below.refl _ _⟩
theorem sameCol_nil (w : World) : Calls Tryz.prog 99 #[nl, nl, .func (.func 100) #[] #[]] w fun e w' => e = .returned (.bool true) ∧ Below w.heap.size w w' := by
  go_enter Tryz.func99, Tryz.ntmps99
  go_wp2
  go_loop [7] (fun j => j = .int .i64 0) (fun _ => 0)
  case atStart => exact rfl
  case round =>
    subst hrel
    go_wp2
    go_ret
    exact ⟨rfl, Below.refl _ _⟩
theorem sameInt_nil (w : World) : Calls Tryz.prog 101 #[nl, nl, .func (.func 102) #[] #[]] w fun e w' => e = .returned (.bool true) ∧ Below w.heap.size w w' := by
  go_enter Tryz.func101, Tryz.ntmps101
  go_wp2
  go_loop [7] (fun j => j = .int .i64 0) (fun _ => 0)
  case atStart => exact rfl
  case round =>
    subst hrel
    go_wp2
    go_ret
    exact ⟨rfl, Below.refl _ _⟩
theorem plainCol_nil (w : World) : Calls Tryz.prog 65 #[nl, nl] w fun e w' => e = .returned (.bool true) ∧ Below w.heap.size w w' := by
  go_enter Tryz.func65, Tryz.ntmps65
  go_wp2_with fail
  refine (sameCol_nil _).mono ?_
  rintro e w1 ⟨rfl, hb1⟩
  go_wp2
  go_ret
  exact ⟨rfl, hb1⟩
theorem plainInt_nil (w : World) : Calls Tryz.prog 66 #[nl, nl] w fun e w' => e = .returned (.bool true) ∧ Below w.heap.size w w' := by
  go_enter Tryz.func66, Tryz.ntmps66
  go_wp2_with fail
  refine (sameInt_nil _).mono ?_
  rintro e w1 ⟨rfl, hb1⟩
  go_wp2
  go_ret
  exact ⟨rfl, hb1⟩
set_option maxRecDepth 100000 in
set_option maxHeartbeats 1600000 in
theorem tableSame_zero (w : World) : Calls Tryz.prog 36 #[.agg #[.int .i64 0, .string ⟨#[]⟩, nl, nl], .agg #[.int .i64 0, .string ⟨#[]⟩, nl, nl]] w fun e w' => e = .returned (.bool true) ∧ Below w.heap.size w w' := by
  go_enter Tryz.func36, Tryz.ntmps36
  go_upto_region 1 with fail
  refine name_world (fun w1 => Below w.heap.size w w1 ∧ w.heap.size + 2 ≤ w1.heap.size ∧ Blk w1 w.heap.size 51 #[.int .i64 0, .string ⟨#[]⟩, nl, nl] ∧ Blk w1 (w.heap.size + 1) 51 #[.int .i64 0, .string ⟨#[]⟩, nl, nl])
    ⟨((Below.refl _ _).alloc (Nat.le_refl _) _).alloc (by simp) _, by simp, (Blk.new w _ _).alloc _, Blk.new_ (by simp)⟩ ?_
  rintro w1 ⟨hB1, hz1, k1, k2⟩
  obtain ⟨a0, a1, a2, a3⟩ := set4_cells k1
  obtain ⟨b0, b1, b2, b3⟩ := set4_cells k2
  go_wp2_with fail
  refine (plainCol_nil _).mono ?_
  rintro e w2 ⟨rfl, hb2⟩
  have hB2 := hB1.trans (hb2.mono hB1.size)
  have k12 := k1.below hb2 k1.lt
  have k22 := k2.below hb2 k2.lt
  clear a0 a1 a2 a3 b0 b1 b2 b3
  obtain ⟨a0, a1, a2, a3⟩ := set4_cells k12
  obtain ⟨b0, b1, b2, b3⟩ := set4_cells k22
  go_wp2_with fail
  refine (plainInt_nil _).mono ?_
  rintro e w3 ⟨rfl, hb3⟩
  have hB3 := hB2.trans (hb3.mono hB2.size)
  go_wp2
  go_ret
  exact ⟨rfl, hB3⟩
theorem idx7_cells {w : World} {g : Nat} {T : TypeId} (h : Blk w g T #[.int .i64 0, .int .i64 0, .string ⟨#[]⟩, nl, .bool false, .int .i64 0, .bool false]) : w.cell? ⟨g, 0, none⟩ = some (.int .i64 0) ∧ w.cell? ⟨g, 1, none⟩ = some (.int .i64 0) ∧ w.cell? ⟨g, 2, none⟩ = some (.string ⟨#[]⟩) ∧ w.cell? ⟨g, 3, none⟩ = some nl ∧ w.cell? ⟨g, 4, none⟩ = some (.bool false) ∧ w.cell? ⟨g, 5, none⟩ = some (.int .i64 0) ∧ w.cell? ⟨g, 6, none⟩ = some (.bool false) := ⟨h.cell 0, h.cell 1, h.cell 2, h.cell 3, h.cell 4, h.cell 5, h.cell 6⟩
set_option maxRecDepth 100000 in
set_option maxHeartbeats 1600000 in
theorem indexSame_zero (w : World) : Calls Tryz.prog 37 #[.agg #[.int .i64 0, .int .i64 0, .string ⟨#[]⟩, nl, .bool false, .int .i64 0, .bool false], .agg #[.int .i64 0, .int .i64 0, .string ⟨#[]⟩, nl, .bool false, .int .i64 0, .bool false]] w fun e w' => e = .returned (.bool true) ∧ Below w.heap.size w w' := by
  go_enter Tryz.func37, Tryz.ntmps37
  go_upto_region 1 with fail
  refine name_world (fun w1 => Below w.heap.size w w1 ∧ w.heap.size + 2 ≤ w1.heap.size ∧ Blk w1 w.heap.size 53 #[.int .i64 0, .int .i64 0, .string ⟨#[]⟩, nl, .bool false, .int .i64 0, .bool false] ∧ Blk w1 (w.heap.size + 1) 53 #[.int .i64 0, .int .i64 0, .string ⟨#[]⟩, nl, .bool false, .int .i64 0, .bool false])
    ⟨((Below.refl _ _).alloc (Nat.le_refl _) _).alloc (by simp) _, by simp, (Blk.new w _ _).alloc _, Blk.new_ (by simp)⟩ ?_
  rintro w1 ⟨hB1, hz1, k1, k2⟩
  obtain ⟨a0, a1, a2, a3, a4, a5, a6⟩ := idx7_cells k1
  obtain ⟨b0, b1, b2, b3, b4, b5, b6⟩ := idx7_cells k2
  go_wp2_with fail
  refine (plainInt_nil _).mono ?_
  rintro e w2 ⟨rfl, hb2⟩
  have hB2 := hB1.trans (hb2.mono hB1.size)
  have k12 := k1.below hb2 k1.lt
  have k22 := k2.below hb2 k2.lt
  clear a0 a1 a2 a3 a4 a5 a6 b0 b1 b2 b3 b4 b5 b6
  obtain ⟨a0, a1, a2, a3, a4, a5, a6⟩ := idx7_cells k12
  obtain ⟨b0, b1, b2, b3, b4, b5, b6⟩ := idx7_cells k22
  go_wp2
  go_ret
  exact ⟨rfl, hB2⟩
set_option maxRecDepth 100000 in
set_option maxHeartbeats 1600000 in
theorem pairSame_any {ok ok2 : Nat → Prop} (a b a2 b2 : Value) (p : PairD) (w : World) (h1 : RB ok w a p.k) (h2 : RB ok w b p.v) (h3 : RB ok2 w a2 p.k) (h4 : RB ok2 w b2 p.v) :
    Calls Tryz.prog 31 #[.agg #[a, b, .int .i64 p.n], .agg #[a2, b2, .int .i64 p.n]] w fun e w' => e = .returned (.bool true) ∧ Below w.heap.size w w' := by
  obtain ⟨A1, c1, rfl, _, _⟩ := h1.form
  obtain ⟨A2, c2, rfl, _, _⟩ := h2.form
  obtain ⟨A3, c3, rfl, _, _⟩ := h3.form
  obtain ⟨A4, c4, rfl, _, _⟩ := h4.form
  have hal : ∀ o o', Below w.heap.size w ((w.alloc o).alloc o') := fun o o' => ((Below.refl _ _).alloc (Nat.le_refl _) _).alloc (by simp) _
  go_enter Tryz.func31, Tryz.ntmps31
  go_wp2_with fail
  refine (bytes_rb _ _ p.k p.k _ (h1.below (hal _ _)) (h3.below (hal _ _))).mono ?_
  rintro e w1 ⟨rfl, hw⟩
  subst hw
  rw [decide_eq_true (show p.k = p.k from rfl)]
  go_wp2_with fail
  refine (bytes_rb _ _ p.v p.v _ (h2.below (hal _ _)) (h4.below (hal _ _))).mono ?_
  rintro e w1 ⟨rfl, hw⟩
  subst hw
  rw [decide_eq_true (show p.v = p.v from rfl)]
  go_wp2
  go_ret
  exact ⟨rfl, hal _ _⟩
set_option maxRecDepth 100000 in
set_option maxHeartbeats 1600000 in
theorem samePair_any {ok ok2 : Nat → Prop} (v v2 : Value) (l : List PairD) (w : World) (h1 : RSl rPair ok w v l) (h2 : RSl rPair ok2 w v2 l) :
    Calls Tryz.prog 30 #[v, v2, .func (.func 31) #[] #[]] w fun e w' => e = .returned (.bool true) ∧ Below w.heap.size w w' := by
  obtain ⟨A0, c0, rfl, hc0, hbd⟩ := h1.form
  obtain ⟨A9, c9, rfl, hc9, _⟩ := h2.form
  have hbd' : l.length * 56 ≤ 140737488351232 := hbd
  go_enter Tryz.func30, Tryz.ntmps30
  go_wp2
  go_loopw [7] (fun j wr => ∃ k : Nat, k ≤ l.length ∧ j = .int .i64 (k : Int) ∧ Below w.heap.size w wr) (fun j _ => l.length - (intOf j).toNat)
  case atStart => exact ⟨0, by omega, rfl, Below.refl _ _⟩
  case round =>
    obtain ⟨k, hk, rfl, hb⟩ := hrel
    by_cases hlt : k < l.length
    · obtain ⟨b, off, c, cs, hv, _, ⟨a1, a2, rfl, ha1, ha2, hi64⟩, hcell⟩ := (h1.below hb).at_ hlt
      simp only [Value.slice.injEq, true_and] at hv
      obtain ⟨rfl, rfl⟩ := hv
      obtain ⟨b', off', c', cs', hv', _, ⟨a3, a4, rfl, ha3, ha4, _⟩, hcell'⟩ := (h2.below hb).at_ hlt
      simp only [Value.slice.injEq, true_and] at hv'
      obtain ⟨rfl, rfl⟩ := hv'
      have q0 := hcell 0 _ rfl
      have q1 := hcell 1 _ rfl
      have q2 := hcell 2 _ rfl
      have q0' := hcell' 0 _ rfl
      have q1' := hcell' 1 _ rfl
      have q2' := hcell' 2 _ rfl
      simp only [Nat.add_zero, show rPair.sz = 3 from rfl] at q0 q1 q2 q0' q1' q2'
      clear hcell hcell'
      obtain ⟨A1, c1, rfl, hc1, _⟩ := ha1.form
      obtain ⟨A2, c2, rfl, hc2, _⟩ := ha2.form
      obtain ⟨A3, c3, rfl, hc3, _⟩ := ha3.form
      obtain ⟨A4, c4, rfl, hc4, _⟩ := ha4.form
      obtain ⟨p, hp⟩ : ∃ p, p = l[k] := ⟨_, rfl⟩
      rw [← hp] at q0 q1 q2 q0' q1' q2' ha1 ha2 ha3 ha4
      clear hp hi64 hc1 hc2 hc3 hc4
      have l0 := Later.cell q0
      have l1 := Later.cell q1
      have l2 := Later.cell q2
      have l3 := Later.cell q0'
      have l4 := Later.cell q1'
      have l5 := Later.cell q2'
      clear q0 q1 q2 q0' q1' q2'
      go_wp2
      refine wp_region_later (by as_aux_lemma => kernel_rfl) (by as_aux_lemma => kernel_rfl) ?_
      repeat (go_big_quiet_step ((go_at_call 31; exact Later.call (pairSame_any _ _ _ _ p _ (ha1.below (Later.below _)) (ha2.below (Later.below _)) (ha3.below (Later.below _)) (ha4.below (Later.below _))))))
      refine wpQuiet_nil ?_
      intro s
      have hbs := hb.trans (s.below.mono hb.size)
      go_wp2
      go_roundw
      case rel => exact ⟨k + 1, by omega, by go_num, hbs⟩
      case measure => simp [intOf]; omega
    · go_wp2
      go_ret
      exact ⟨rfl, hb⟩
end Go.Proofs.YtmiceacjpadllaaGreatDoor
namespace Go.Proofs.YtmiceacjpadllaaGreatDoor
open Go.RowKit
set_option maxRecDepth 100000 in
set_option maxHeartbeats 6400000 in
theorem cmdSame_any {ok ok2 : Nat → Prop} (kind n : Int) (flag : Bool) (d : CmdD) (x1 x2 x3 x4 y1 y2 y3 y4 : Value) (w : World) (hx : CmdR ok w x1 x2 x3 x4 d) (hy : CmdR ok2 w y1 y2 y3 y4 d) :
    Calls Tryz.prog 12 #[.agg (cmdCs kind n flag x1 x2 x3 x4), .agg (cmdCs kind n flag y1 y2 y3 y4)] w fun e w' => e = .returned (.bool true) ∧ Below w.heap.size w w' := by
  obtain ⟨X1A, x1c, rfl, _, _⟩ := hx.key.form
  obtain ⟨X2A, x2c, rfl, _, _⟩ := hx.fr.form
  obtain ⟨X3A, x3c, rfl, _, _⟩ := hx.upto.form
  obtain ⟨X4A, x4c, rfl, _, _⟩ := hx.pairs.form
  obtain ⟨Y1A, y1c, rfl, _, _⟩ := hy.key.form
  obtain ⟨Y2A, y2c, rfl, _, _⟩ := hy.fr.form
  obtain ⟨Y3A, y3c, rfl, _, _⟩ := hy.upto.form
  obtain ⟨Y4A, y4c, rfl, _, _⟩ := hy.pairs.form
  go_enter Tryz.func12, Tryz.ntmps12
  go_upto_region 1 with fail
  refine name_world (fun w1 => Below w.heap.size w w1 ∧ Blk w1 w.heap.size 55 (cmdCs kind n flag (.slice X1A d.key.length x1c) (.slice X2A d.from_.length x2c) (.slice X3A d.upto.length x3c) (.slice X4A d.pairs.length x4c)) ∧ Blk w1 (w.heap.size + 1) 55 (cmdCs kind n flag (.slice Y1A d.key.length y1c) (.slice Y2A d.from_.length y2c) (.slice Y3A d.upto.length y3c) (.slice Y4A d.pairs.length y4c)))
    ⟨((Below.refl _ _).alloc (Nat.le_refl _) _).alloc (by simp) _, (Blk.new w _ _).alloc _, Blk.new_ (by simp)⟩ ?_
  rintro w1 ⟨hB1, k1, m1⟩
  have a0 : w1.cell? ⟨w.heap.size, 0, none⟩ = some (.int .i64 kind) := k1.cell 0
  have a1 : w1.cell? ⟨w.heap.size, 1, none⟩ = some (.int .i64 0) := k1.cell 1
  have a2 : w1.cell? ⟨w.heap.size, 2, none⟩ = some (.int .u64 0) := k1.cell 2
  have a3 : w1.cell? ⟨w.heap.size, 3, none⟩ = some (.int .i64 n) := k1.cell 3
  have a4 : w1.cell? ⟨w.heap.size, 4, none⟩ = some (.int .i64 0) := k1.cell 4
  have a5 : w1.cell? ⟨w.heap.size, 5, none⟩ = some (.int .i64 0) := k1.cell 5
  have a6 : w1.cell? ⟨w.heap.size, 6, none⟩ = some (.bool flag) := k1.cell 6
  have a7 : w1.cell? ⟨w.heap.size, 7, none⟩ = some (.slice X1A d.key.length x1c) := k1.cell 7
  have b0 : w1.cell? ⟨w.heap.size + 1, 0, none⟩ = some (.int .i64 kind) := m1.cell 0
  have b1 : w1.cell? ⟨w.heap.size + 1, 1, none⟩ = some (.int .i64 0) := m1.cell 1
  have b2 : w1.cell? ⟨w.heap.size + 1, 2, none⟩ = some (.int .u64 0) := m1.cell 2
  have b3 : w1.cell? ⟨w.heap.size + 1, 3, none⟩ = some (.int .i64 n) := m1.cell 3
  have b4 : w1.cell? ⟨w.heap.size + 1, 4, none⟩ = some (.int .i64 0) := m1.cell 4
  have b5 : w1.cell? ⟨w.heap.size + 1, 5, none⟩ = some (.int .i64 0) := m1.cell 5
  have b6 : w1.cell? ⟨w.heap.size + 1, 6, none⟩ = some (.bool flag) := m1.cell 6
  have b7 : w1.cell? ⟨w.heap.size + 1, 7, none⟩ = some (.slice Y1A d.key.length y1c) := m1.cell 7
  go_wp2_with fail
  refine (bytes_rb _ _ d.key d.key _ (hx.key.below hB1) (hy.key.below hB1)).mono ?_
  rintro e w2 ⟨rfl, hw⟩
  subst hw
  rw [decide_eq_true (show d.key = d.key from rfl)]
  clear a0 b0 a1 b1 a2 b2 a3 b3 a4 b4 a5 b5 a6 b6 a7 b7
  have a8 : w1.cell? ⟨w.heap.size, 8, none⟩ = some (.slice X2A d.from_.length x2c) := k1.cell 8
  have a9 : w1.cell? ⟨w.heap.size, 9, none⟩ = some (.slice X3A d.upto.length x3c) := k1.cell 9
  have b8 : w1.cell? ⟨w.heap.size + 1, 8, none⟩ = some (.slice Y2A d.from_.length y2c) := m1.cell 8
  have b9 : w1.cell? ⟨w.heap.size + 1, 9, none⟩ = some (.slice Y3A d.upto.length y3c) := m1.cell 9
  go_wp2_with fail
  refine (spanSame_any _ _ _ _ d.from_ d.upto _ (hx.fr.below hB1) (hx.upto.below hB1) (hy.fr.below hB1) (hy.upto.below hB1)).mono ?_
  rintro e w2 ⟨rfl, hb2⟩
  have hB2 := hB1.trans (hb2.mono hB1.size)
  have k2 := k1.below hb2 k1.lt
  have m2 := m1.below hb2 m1.lt
  clear a8 b8 a9 b9
  have a10 : w2.cell? ⟨w.heap.size, 10, none⟩ = some (.slice X4A d.pairs.length x4c) := k2.cell 10
  have b10 : w2.cell? ⟨w.heap.size + 1, 10, none⟩ = some (.slice Y4A d.pairs.length y4c) := m2.cell 10
  go_wp2_with fail
  refine (samePair_any _ _ d.pairs _ (hx.pairs.below hB2) (hy.pairs.below hB2)).mono ?_
  rintro e w3 ⟨rfl, hb3⟩
  have hB3 := hB2.trans (hb3.mono hB2.size)
  have k3 := k2.below hb3 k2.lt
  have m3 := m2.below hb3 m2.lt
  clear a10 b10
  have a11 : w3.cell? ⟨w.heap.size, 11, none⟩ = some (nl) := k3.cell 11
  have b11 : w3.cell? ⟨w.heap.size + 1, 11, none⟩ = some (nl) := m3.cell 11
  go_wp2_with fail
  refine (sameSeen_nil _).mono ?_
  rintro e w4 ⟨rfl, hb4⟩
  have hB4 := hB3.trans (hb4.mono hB3.size)
  have k4 := k3.below hb4 k3.lt
  have m4 := m3.below hb4 m3.lt
  clear a11 b11
  have a12 : w4.cell? ⟨w.heap.size, 12, none⟩ = some (nl) := k4.cell 12
  have b12 : w4.cell? ⟨w.heap.size + 1, 12, none⟩ = some (nl) := m4.cell 12
  go_wp2_with fail
  refine (sameWrite_nil _).mono ?_
  rintro e w5 ⟨rfl, hb5⟩
  have hB5 := hB4.trans (hb5.mono hB4.size)
  have k5 := k4.below hb5 k4.lt
  have m5 := m4.below hb5 m4.lt
  clear a12 b12
  have a13 : w5.cell? ⟨w.heap.size, 13, none⟩ = some (.int .i64 0) := k5.cell 13
  have a14 : w5.cell? ⟨w.heap.size, 14, none⟩ = some (.string ⟨#[]⟩) := k5.cell 14
  have a15 : w5.cell? ⟨w.heap.size, 15, none⟩ = some (nl) := k5.cell 15
  have a16 : w5.cell? ⟨w.heap.size, 16, none⟩ = some (nl) := k5.cell 16
  have b13 : w5.cell? ⟨w.heap.size + 1, 13, none⟩ = some (.int .i64 0) := m5.cell 13
  have b14 : w5.cell? ⟨w.heap.size + 1, 14, none⟩ = some (.string ⟨#[]⟩) := m5.cell 14
  have b15 : w5.cell? ⟨w.heap.size + 1, 15, none⟩ = some (nl) := m5.cell 15
  have b16 : w5.cell? ⟨w.heap.size + 1, 16, none⟩ = some (nl) := m5.cell 16
  go_wp2_with fail
  refine (tableSame_zero _).mono ?_
  rintro e w6 ⟨rfl, hb6⟩
  have hB6 := hB5.trans (hb6.mono hB5.size)
  have k6 := k5.below hb6 k5.lt
  have m6 := m5.below hb6 m5.lt
  clear a13 b13 a14 b14 a15 b15 a16 b16
  have a17 : w6.cell? ⟨w.heap.size, 17, none⟩ = some (.int .i64 0) := k6.cell 17
  have a18 : w6.cell? ⟨w.heap.size, 18, none⟩ = some (.int .i64 0) := k6.cell 18
  have a19 : w6.cell? ⟨w.heap.size, 19, none⟩ = some (.string ⟨#[]⟩) := k6.cell 19
  have a20 : w6.cell? ⟨w.heap.size, 20, none⟩ = some (nl) := k6.cell 20
  have a21 : w6.cell? ⟨w.heap.size, 21, none⟩ = some (.bool false) := k6.cell 21
  have a22 : w6.cell? ⟨w.heap.size, 22, none⟩ = some (.int .i64 0) := k6.cell 22
  have a23 : w6.cell? ⟨w.heap.size, 23, none⟩ = some (.bool false) := k6.cell 23
  have b17 : w6.cell? ⟨w.heap.size + 1, 17, none⟩ = some (.int .i64 0) := m6.cell 17
  have b18 : w6.cell? ⟨w.heap.size + 1, 18, none⟩ = some (.int .i64 0) := m6.cell 18
  have b19 : w6.cell? ⟨w.heap.size + 1, 19, none⟩ = some (.string ⟨#[]⟩) := m6.cell 19
  have b20 : w6.cell? ⟨w.heap.size + 1, 20, none⟩ = some (nl) := m6.cell 20
  have b21 : w6.cell? ⟨w.heap.size + 1, 21, none⟩ = some (.bool false) := m6.cell 21
  have b22 : w6.cell? ⟨w.heap.size + 1, 22, none⟩ = some (.int .i64 0) := m6.cell 22
  have b23 : w6.cell? ⟨w.heap.size + 1, 23, none⟩ = some (.bool false) := m6.cell 23
  go_wp2_with fail
  refine (indexSame_zero _).mono ?_
  rintro e w7 ⟨rfl, hb7⟩
  have hB7 := hB6.trans (hb7.mono hB6.size)
  have k7 := k6.below hb7 k6.lt
  have m7 := m6.below hb7 m6.lt
  clear a17 b17 a18 b18 a19 b19 a20 b20 a21 b21 a22 b22 a23 b23
  have a24 : w7.cell? ⟨w.heap.size, 24, none⟩ = some (.string ⟨#[]⟩) := k7.cell 24
  have b24 : w7.cell? ⟨w.heap.size + 1, 24, none⟩ = some (.string ⟨#[]⟩) := m7.cell 24
  go_wp2
  go_ret
  exact ⟨rfl, hB7⟩
end Go.Proofs.YtmiceacjpadllaaGreatDoor
namespace Go.Proofs.YtmiceacjpadllaaGreatDoor
open Go.RowKit
theorem wpList_loadG {P : Program} {ops : Array Oper} {rest : List Oper} {o : Oper} {a : Act} {w : World} {Q : Exit → Act → World → Prop} {g : Nat} {T : TypeId} {C : Array Value} (hw : Region.wanted o (yielded ops a.tmps) = true) {ty : TypeId} {x : Operand} (ho : o.op = .load ty x) (hx : a.eval x = .pointer (some ⟨g, 0, none⟩)) (hk : Blk w g T C) {d : TypeDesc} (hu : P.underlying ty = some d) (hd : d.isRow = true) (hi : (P.info? ty).map (·.size) = some C.size)
    (h : wpList P ops Q rest (a.put o.dst (.agg C)) w) : wpList P ops Q (o :: rest) a w := by
  unfold wpList
  rw [if_pos hw]
  have := wp_load_mid (P := P) (op := o) (a := a) (w := w) (K := wpList P ops Q rest) (Q := Q) ty x ho g 0 hx C.toList d hk.range hu hd (by simpa using hi)
  exact .inl (this (by simpa using h))
end Go.Proofs.YtmiceacjpadllaaGreatDoor
namespace Go.Proofs.YtmiceacjpadllaaGreatDoor
open Go.RowKit
theorem compact_nil (w : World) : Calls Tryz.prog 97 #[.slice none 0 0] w fun e w' => e = .returned (.slice none 0 0) ∧ w' = w := by
  go_enter Tryz.func97, Tryz.ntmps97
  go_wp2
  go_ret
  exact ⟨rfl, rfl⟩
theorem index_nil (x : Int) (w : World) : Calls Tryz.prog 135 #[.slice none 0 0, .int .i64 x] w fun e w' => e = .returned (.int .i64 (-1)) ∧ w' = w := by
  go_enter Tryz.func135, Tryz.ntmps135
  go_wp2
  refine wp_loop_rounds 1 ?_
  rw [rounds_succ]
  go_wp2
  go_ret
  exact ⟨rfl, rfl⟩
theorem contains_nil (x : Int) (w : World) : Calls Tryz.prog 98 #[.slice none 0 0, .int .i64 x] w fun e w' => e = .returned (.bool false) ∧ w' = w := by
  go_enter Tryz.func98, Tryz.ntmps98
  go_wp2_with (go_at_call 135; refine (index_nil _ _).mono ?_; rintro e w' ⟨rfl, rfl⟩)
  go_ret
  exact ⟨rfl, rfl⟩
theorem len64_zero (w : World) : Calls Tryz.prog 178 #[.int .u64 0] w fun e w' => e = .returned (.int .i64 0) ∧ w' = w := by
  go_enter Tryz.func178, Tryz.ntmps178
  go_wp2
  go_ret
  exact ⟨by kernel_rfl, rfl⟩
theorem len_zero (w : World) : Calls Tryz.prog 134 #[.int .u64 0] w fun e w' => e = .returned (.int .i64 0) ∧ w' = w := by
  go_enter Tryz.func134, Tryz.ntmps134
  go_wp2_with (go_at_call 178; refine (len64_zero _).mono ?_; rintro e w' ⟨rfl, rfl⟩)
  go_ret
  exact ⟨rfl, rfl⟩
theorem isort_nil (w : World) : Calls Tryz.prog 168 #[.slice none 0 0, .int .i64 0, .int .i64 0] w fun e w' => (∃ v, e = .returned v) ∧ w' = w := by
  go_enter Tryz.func168, Tryz.ntmps168
  go_wp2
  refine wp_loop_rounds 1 ?_
  rw [rounds_succ]
  go_wp2
  go_end0
  exact ⟨⟨_, rfl⟩, rfl⟩
theorem pdq_nil (w : World) : Calls Tryz.prog 133 #[.slice none 0 0, .int .i64 0, .int .i64 0, .int .i64 0] w fun e w' => (∃ v, e = .returned v) ∧ w' = w := by
  go_enter Tryz.func133, Tryz.ntmps133
  go_wp2
  refine wp_loop_rounds 1 ?_
  rw [rounds_succ]
  go_wp2_with (go_at_call 168; refine (isort_nil _).mono ?_; rintro e w' ⟨⟨v, rfl⟩, rfl⟩)
  refine bodyPost_ret (results_none rfl _ _ _) rfl ?_
  exact ⟨⟨_, rfl⟩, rfl⟩
theorem sort_nil (w : World) : Calls Tryz.prog 96 #[.slice none 0 0] w fun e w' => (∃ v, e = .returned v) ∧ w' = w := by
  go_enter Tryz.func96, Tryz.ntmps96
  go_wp2_with (first
    | (go_at_call 134; refine (len_zero _).mono ?_; rintro e w' ⟨rfl, rfl⟩)
    | (go_at_call 133; refine (pdq_nil _).mono ?_; rintro e w' ⟨⟨v, rfl⟩, rfl⟩))
  go_end0
  exact ⟨⟨_, rfl⟩, rfl⟩
theorem results_nil (w : World) : Calls Tryz.prog 22 #[.slice none 0 0] w fun e w' => e = .returned (.slice none 0 0) ∧ w' = w := by
  go_enter Tryz.func22, Tryz.ntmps22
  go_wp2
  refine wp_loop_rounds 1 ?_
  rw [rounds_succ]
  go_wp2
  go_ret
  exact ⟨rfl, rfl⟩
theorem sameRes_nil (w : World) : Calls Tryz.prog 41 #[.slice none 0 0, .slice none 0 0, .func (.func 42) #[] #[]] w fun e w' => e = .returned (.bool true) ∧ w' = w := by
  go_enter Tryz.func41, Tryz.ntmps41
  go_wp2
  refine wp_loop_rounds 1 ?_
  rw [rounds_succ]
  go_wp2
  go_ret
  exact ⟨rfl, rfl⟩
theorem sameOps_nil (w : World) : Calls Tryz.prog 43 #[.slice none 0 0, .slice none 0 0, .func (.func 44) #[] #[]] w fun e w' => e = .returned (.bool true) ∧ w' = w := by
  go_enter Tryz.func43, Tryz.ntmps43
  go_wp2
  refine wp_loop_rounds 1 ?_
  rw [rounds_succ]
  go_wp2
  go_ret
  exact ⟨rfl, rfl⟩
abbrev toldZ : Array Value := #[.int .i64 0, .slice none 0 0, .int .i64 0]
abbrev doneZ : Array Value := #[.int .i64 0, .int .u64 0, .int .i64 0, .slice none 0 0, .slice none 0 0]
theorem told_same (w : World) : Calls Tryz.prog 14 #[.agg toldZ, .agg toldZ] w fun e w' => e = .returned (.bool true) ∧ Below w.heap.size w w' := by
  go_enter Tryz.func14, Tryz.ntmps14
  go_wp2_with (go_at_call 41; refine (sameRes_nil _).mono ?_; rintro e w' ⟨rfl, rfl⟩)
  go_ret
  exact ⟨rfl, ((Below.refl _ _).alloc (Nat.le_refl _) _).alloc (by simp) _⟩
theorem done_same (w : World) : Calls Tryz.prog 15 #[.agg doneZ, .agg doneZ] w fun e w' => e = .returned (.bool true) ∧ Below w.heap.size w w' := by
  go_enter Tryz.func15, Tryz.ntmps15
  go_wp2_with (first
    | (go_at_call 41; refine (sameRes_nil _).mono ?_; rintro e w' ⟨rfl, rfl⟩)
    | (go_at_call 43; refine (sameOps_nil _).mono ?_; rintro e w' ⟨rfl, rfl⟩))
  go_ret
  exact ⟨rfl, ((Below.refl _ _).alloc (Nat.le_refl _) _).alloc (by simp) _⟩
end Go.Proofs.YtmiceacjpadllaaGreatDoor
namespace Go.Proofs.YtmiceacjpadllaaGreatDoor
open Go.RowKit
structure Wk0 (w : World) (g m1 m2 : Nat) (v n : Int) : Prop where
  blk : Blk w g 168 #[.int .i64 v, .int .i64 n, nl, nl, .map (some m1), nl, .map (some m2)]
  ps : w.heap[m1]? = some (.map #[] 0)
  ws : w.heap[m2]? = some (.map #[] 0)
theorem Wk0.below {w w' : World} {g m1 m2 : Nat} {v n : Int} {B : Nat} (h : Wk0 w g m1 m2 v n) (hb : Below B w w') (h1 : g < B) (h2 : m1 < B) (h3 : m2 < B) : Wk0 w' g m1 m2 v n :=
  ⟨h.blk.below hb h1, (hb.block m1 h2).trans h.ps, (hb.block m2 h3).trans h.ws⟩
theorem Wk0.lt {w : World} {g m1 m2 : Nat} {v n : Int} (h : Wk0 w g m1 m2 v n) : g < w.heap.size ∧ m1 < w.heap.size ∧ m2 < w.heap.size :=
  ⟨h.blk.lt, (Array.getElem?_eq_some_iff.1 h.ps).1, (Array.getElem?_eq_some_iff.1 h.ws).1⟩
set_option maxRecDepth 100000 in
theorem pairs_none (g m1 m2 : Nat) (v n : Int) (w : World) (h : Wk0 w g m1 m2 v n) :
    Calls Tryz.prog 48 #[.pointer (some ⟨g, 0, none⟩)] w fun e w' => e = .returned nl ∧ Below w.heap.size w w' := by
  have c4 : w.cell? ⟨g, 4, none⟩ = some (.map (some m1)) := h.blk.cell 4
  have hm := h.ps
  go_enter Tryz.func48, Tryz.ntmps48
  go_wp2_with fail
  refine (maps_KeysP _ _).mono ?_
  rintro e w1 ⟨rfl, rfl⟩
  go_wp2_with fail
  refine (sorted_noneP m1 0 w hm).mono ?_
  rintro e w2 ⟨rfl, hb2⟩
  go_wp2
  refine wp_loop_rounds 1 ?_
  rw [rounds_succ]
  go_wp2
  go_ret
  exact ⟨rfl, hb2⟩
set_option maxRecDepth 100000 in
theorem writes_none (g m1 m2 : Nat) (v n : Int) (w : World) (h : Wk0 w g m1 m2 v n) :
    Calls Tryz.prog 52 #[.pointer (some ⟨g, 0, none⟩)] w fun e w' => e = .returned nl ∧ Below w.heap.size w w' := by
  have c6 : w.cell? ⟨g, 6, none⟩ = some (.map (some m2)) := h.blk.cell 6
  have hm := h.ws
  go_enter Tryz.func52, Tryz.ntmps52
  go_wp2_with fail
  refine (maps_KeysW _ _).mono ?_
  rintro e w1 ⟨rfl, rfl⟩
  go_wp2_with fail
  refine (sorted_noneW m2 0 w hm).mono ?_
  rintro e w2 ⟨rfl, hb2⟩
  go_wp2
  refine wp_loop_rounds 1 ?_
  rw [rounds_succ]
  go_wp2
  go_ret
  exact ⟨rfl, hb2⟩
set_option maxRecDepth 100000 in
theorem seens_none (g m1 m2 : Nat) (v n : Int) (w : World) (h : Wk0 w g m1 m2 v n) :
    Calls Tryz.prog 51 #[.pointer (some ⟨g, 0, none⟩)] w fun e w' => e = .returned nl ∧ w' = w := by
  have c5 : w.cell? ⟨g, 5, none⟩ = some nl := h.blk.cell 5
  go_enter Tryz.func51, Tryz.ntmps51
  go_wp2
  refine wp_loop_rounds 1 ?_
  rw [rounds_succ]
  go_wp2
  go_ret
  exact ⟨rfl, rfl⟩
theorem Tryz.infoCatT : (Tryz.prog.info? 34).map (·.size) = some 4 := by kernel_rfl
set_option maxRecDepth 100000 in
set_option maxHeartbeats 1600000 in
theorem schemaOwn_none (v n : Int) (w : World) :
    Calls Tryz.prog 68 #[.agg #[.int .i64 v, .int .i64 n, nl, nl]] w fun e w' => e = .returned (.agg #[.int .i64 v, .int .i64 n, nl, nl]) ∧ Below w.heap.size w w' := by
  go_enter Tryz.func68, Tryz.ntmps68
  go_wp2
  refine wp_loop_rounds 1 ?_
  rw [rounds_succ]
  go_wp2
  refine wp_loop_rounds 1 ?_
  rw [rounds_succ]
  go_wp2
  have k2 : Blk (((w.alloc (.cells #[.int .i64 v, .int .i64 n, nl, nl] 34)).alloc (.cells #[.int .i64 v, .int .i64 n, nl, nl] 34)).alloc (.cells #[.int .i64 v, .int .i64 n, nl, nl] 34)) (w.heap.size + 1) 34 #[.int .i64 v, .int .i64 n, nl, nl] := (Blk.new_ (by simp)).alloc _
  have lv := k2.loadVar (P := Tryz.prog) Tryz.underlying34 rfl Tryz.infoCatT
  refine bodyPost_ret (v := .agg #[.int .i64 v, .int .i64 n, nl, nl]) ?_ rfl ⟨rfl, (((Below.refl _ _).alloc (Nat.le_refl _) _).alloc (by simp) _).alloc (by simp; omega) _⟩
  simp [results, Tryz.results68, Sem.run_bind, Sem.run_pure, asAddr_ok, lv]
set_option maxRecDepth 100000 in
set_option maxHeartbeats 1600000 in
theorem opsNew_none (v n : Int) (w : World) :
    Calls Tryz.prog 67 #[.agg #[.int .i64 v, .int .i64 n, nl, nl]] w fun e w' => (∃ g m1 m2, e = .returned (.pointer (some ⟨g, 0, none⟩)) ∧ w.heap.size ≤ g ∧ w.heap.size ≤ m1 ∧ w.heap.size ≤ m2 ∧ Wk0 w' g m1 m2 v n) ∧ Below w.heap.size w w' := by
  go_enter Tryz.func67, Tryz.ntmps67
  go_upto_region 1 with fail
  refine name_world (fun w1 => Below w.heap.size w w1 ∧ Blk w1 w.heap.size 34 #[.int .i64 v, .int .i64 n, nl, nl]) ⟨(Below.refl _ _).alloc (Nat.le_refl _) _, Blk.new _ _ _⟩ ?_
  rintro w1 ⟨hB1, k1⟩
  have c0 : w1.cell? ⟨w.heap.size, 0, none⟩ = some (.int .i64 v) := k1.cell 0
  have c1 : w1.cell? ⟨w.heap.size, 1, none⟩ = some (.int .i64 n) := k1.cell 1
  have c2 : w1.cell? ⟨w.heap.size, 2, none⟩ = some nl := k1.cell 2
  have c3 : w1.cell? ⟨w.heap.size, 3, none⟩ = some nl := k1.cell 3
  go_wp2_with fail
  refine (schemaOwn_none v n _).mono ?_
  rintro e w2 ⟨rfl, hb2⟩
  have hB2 := hB1.trans (hb2.mono hB1.size)
  have hM1 := fun (w : World) => run_makeMap (P := Tryz.prog) 165 w
  have hM2 := fun (w : World) => run_makeMap (P := Tryz.prog) 166 w
  go_wp2
  go_ret
  have hz := hB2.size
  refine ⟨⟨w2.heap.size + 1 + 1, w2.heap.size, w2.heap.size + 1, rfl, by omega, by omega, by omega, Blk.new_ (by simp), ?_, ?_⟩, ((hB2.alloc hB2.size _).alloc (by simp; omega) _).alloc (by simp; omega) _⟩
  · exact (Below.heap_alloc _ _ _ (by simp; omega)).trans ((Below.heap_alloc _ _ _ (by simp)).trans (heap_alloc_new _ _))
  · exact (Below.heap_alloc _ _ _ (by simp)).trans (by simpa using heap_alloc_new (w2.alloc (.map #[] 0)) (.map #[] 0))
end Go.Proofs.YtmiceacjpadllaaGreatDoor
namespace Go.Proofs.YtmiceacjpadllaaGreatDoor
open Go.RowKit
structure Pu (α : Type) where
  b : Nat
  a : Nat
  v : Value
  l : List α
  x : α
  cs : Array Value
def Ap (o1 o2 : Option Nat) : Prop := ∀ g, o1 = some g → o2 ≠ some g
theorem Ap.symm {o1 o2 : Option Nat} (h : Ap o1 o2) : Ap o2 o1 := fun g h1 h2 => h g h2 h1
theorem gives_app0' {α : Type} {E : Rel α} {okd : Nat → Prop} {base : Nat} {P : Program} {tS tE : TypeId} (hT : RowTy P tS tE E.sz E.wt) (hsz : 0 < E.sz) {o : Oper} {a : Act} {Φ : Value → World → Prop} (s x : Operand)
    (ho : o.op = .call { callee := .builtin .append, args := #[s, x], argTypes := #[tS, tS] })
    (v : Value) (l : List α) (w : World) (hs : a.eval s = v) (hown : OwnL E okd base tE w v l)
    (A : Option Addr) (c : Nat) (l2 : List α) (css : List (List Value)) (hx : a.eval x = .slice A l2.length c) (hr : Rd w E.sz A l2.length css.flatten) (hch : Chunks E (fun b => okd b ∧ some b ≠ v.ownBlock) w css l2)
    (hlen : (l.length + l2.length) * E.wt ≤ 140737488355328) (hlen2 : l.length + l2.length ≤ 140737488355328) (hbase : base ≤ w.heap.size)
    (h : ∀ v' w', OwnL E okd base tE w' v' (l ++ l2) → Kp (fun b => some b ≠ v.ownBlock) w w' → (v'.ownBlock = v.ownBlock ∨ v'.ownBlock = some w.heap.size) → Φ v' w') : Gives P o a w Φ := by
  obtain ⟨i, z, hi, hz, h1, h2, h3⟩ := hT.info
  obtain ⟨cso, hrow, hcho⟩ := hown
  have key : ∃ v' w', (Builtin.append_ #[tS, tS] o.type #[v, .slice A l2.length c]).run P w = .ok v' w' ∧ w'.ownsRow base tE E.sz v' (l.length + l2.length) (cso.flatten ++ css.flatten) ∧ w.grownBy w' v.ownBlock ∧ (v'.ownBlock = v.ownBlock ∨ v'.ownBlock = some w.heap.size) := by
    rcases A with _ | ad
    · have hm : l2.length = 0 := by
        rcases Nat.eq_zero_or_pos l2.length with h0 | h0
        · exact h0
        · obtain ⟨_, _, h, _⟩ := hr.2 h0
          cases h
      have hn : css.flatten = [] := List.eq_nil_of_length_eq_zero (by rw [hch.flat, hm]; simp)
      rw [hm, hn]
      exact ⟨v, w, run_append_nil_src w base tS o.type tE i E.sz hT.ht hi v _ _ hrow c, by simpa using hrow, World.grownBy.refl _ _, .inl rfl⟩
    · have hcells : ∀ j u, css.flatten[j]? = some u → w.cell? (ad.add j) = some u := by
        intro j u hu
        rcases Nat.eq_zero_or_pos l2.length with h0 | h0
        · have hn : css.flatten = [] := List.eq_nil_of_length_eq_zero (by rw [hch.flat, h0]; simp)
          rw [hn] at hu
          simp at hu
        · obtain ⟨b, off, h, hc⟩ := hr.2 h0
          injection h with h
          subst h
          rw [Addr.add_lit]
          exact hc j u hu
      obtain ⟨v', w', hrun, h4, h5, _, h6⟩ := run_append_own_at (P := P) w base tS o.type tE i z E.sz E.wt hT.ht hi hz h1 h2 h3 hsz v _ _ hrow ad l2.length c css.flatten hch.flat hcells hch.one (by unfold maxLen; omega) hlen hbase
      exact ⟨v', w', hrun, h4, h5, h6⟩
  obtain ⟨v', w', hrun, h4, h5, h6⟩ := key
  unfold Gives execOp
  simp only [ho, resolve, invoke, builtin, Sem.run_bind, Sem.run_pure, Result.andThen_ok, List.map_toArray, List.map_cons, List.map_nil, hs, hx, hrun, giv]
  refine h v' w' ⟨cso ++ css, ?_, ?_⟩ (.of_grown h5 fun _ h => h) h6
  · rw [List.length_append, List.flatten_append]; exact h4
  · have hk : Kp (fun b => okd b ∧ some b ≠ v.ownBlock) w w' := .of_grown h5 fun _ h => h.2
    refine ((hcho.mono (ok' := fun b => (okd b ∧ some b ≠ v.ownBlock) ∧ b < w.heap.size) fun b hb hlt => ⟨hb, hlt⟩).append (hch.mono (ok' := fun b => (okd b ∧ some b ≠ v.ownBlock) ∧ b < w.heap.size) fun b hb hlt => ⟨hb, hlt⟩)).kp (hk.mono fun b hb => hb.1) |>.mono fun b hb _ => ⟨hb.1.1, ?_⟩
    rcases h6 with h6 | h6
    · rw [h6]; exact hb.1.2
    · rw [h6]
      intro e
      have := Option.some.inj e
      omega
section
variable {α : Type}
def Pu.cur (p : Pu α) (M : Nat → Bool) (e : Nat → Value) : Value := if M p.a = true then e p.a else p.v
def Pu.bx (p : Pu α) (M : Nat → Bool) (e : Nat → Value) : Option Nat := if M p.b = true ∧ M p.a = false then (e p.b).ownBlock else none
variable {E : Rel α} {okd : Nat → Prop} {base : Nat} {T : TypeId} {bad : Nat → Prop} {p q : Pu α} {w w1 w2 : World} {M : Nat → Bool} {e : Nat → Value}
end
section
variable {α : Type} {P : Program} {ops : Array Oper} {w : World} {E : Rel α} {okd : Nat → Prop} {base : Nat} {T : TypeId} {bad : Nat → Prop} {p q : Pu α} {wild : List Nat} {v : Nat → Value} {Q : Act → World → Prop}
def Pu.apart (p q : Pu α) : Bool := p.b != p.a && (p.b != q.a && (p.b != q.b && (p.a != q.a && (p.a != q.b && q.b != q.a))))
end
end Go.Proofs.YtmiceacjpadllaaGreatDoor
namespace Go.Proofs.YtmiceacjpadllaaGreatDoor
open Go.RowKit
theorem RSl.one_blkT {α : Type} {E : Rel α} {ok : Nat → Prop} {w : World} {g : Nat} {T : TypeId} {cs : Array Value} {d : α} (h : Blk w g T cs) (hd : E.rel ok w cs.toList d) (ho : ok g) (hb : E.wt ≤ 140737488351232) :
    RSl E ok w (.slice (some ⟨g, 0, none⟩) 1 1) [d] := by
  refine ⟨_, 1, 1, [cs.toList], rfl, Nat.le_refl _, rfl, by omega, ?_, Chunks.single hd, fun _ a ha => by cases ha; exact ho⟩
  refine ⟨by have := E.len hd; simpa using this, fun _ => ⟨g, 0, rfl, fun j u hu => ?_⟩⟩
  rw [Nat.zero_add, h.cell j]
  simpa using hu
theorem Tryz.infoRtT : (Tryz.prog.info? 38).map (·.size) = some 5 := by kernel_rfl
set_option maxRecDepth 100000 in
set_option maxHeartbeats 3200000 in
theorem routeOwn_one (e b m : Int) (bl bk : Nat) (w : World) (kl : Blk w bl 79 #[.int .i64 2, .slice (some ⟨bk, 0, none⟩) 1 1]) (kk : Blk w bk 5 #[.int .u8 120]) :
    Calls Tryz.prog 69 #[.agg #[.int .i64 e, .int .i64 b, .slice (some ⟨bl, 0, none⟩) 1 1, .int .i64 m, nl]] w fun x w' => (∃ A n c A2 n2 c2, x = .returned (.agg #[.int .i64 e, .int .i64 b, .slice A n c, .int .i64 m, .slice A2 n2 c2])) ∧ Below w.heap.size w w' := by
  go_enter Tryz.func69, Tryz.ntmps69
  go_upto_region 2 with fail
  refine name_world (fun w1 => Below w.heap.size w w1 ∧ w.heap.size + 2 ≤ w1.heap.size ∧ Blk w1 w.heap.size 38 #[.int .i64 e, .int .i64 b, .slice (some ⟨bl, 0, none⟩) 1 1, .int .i64 m, nl] ∧ Blk w1 (w.heap.size + 1) 38 #[.int .i64 0, .int .i64 0, nl, .int .i64 0, nl])
    ⟨((Below.refl _ _).alloc (Nat.le_refl _) _).alloc (by simp) _, by simp, (Blk.new w _ _).alloc _, Blk.new_ (by simp)⟩ ?_
  rintro w1 ⟨hB1, hz1, k1, r1⟩
  have kl1 := kl.below hB1 kl.lt
  have kk1 := kk.below hB1 kk.lt
  have hbk : RB (fun _ => True) w1 (.slice (some ⟨bk, 0, none⟩) 1 1) [120] := RSl.one_blkT (E := rU8) kk1 (d := 120) rfl trivial (by decide)
  have c2 : w1.cell? ⟨w.heap.size, 2, none⟩ = some (.slice (some ⟨bl, 0, none⟩) 1 1) := k1.cell 2
  have l0 : w1.cell? ⟨bl, 0, none⟩ = some (.int .i64 2) := kl1.cell 0
  have l1 : w1.cell? ⟨bl, 1, none⟩ = some (.slice (some ⟨bk, 0, none⟩) 1 1) := kl1.cell 1
  have hbl1 := kl1.lt
  go_wp2
  refine wp_loop_rounds 2 ?_
  rw [rounds_succ]
  go_upto_region 5 with fail
  refine name_world (fun w2 => Below w1.heap.size w1 w2 ∧ w1.heap.size < w2.heap.size ∧ Blk w2 w1.heap.size 79 #[.int .i64 2, .slice (some ⟨bk, 0, none⟩) 1 1]) ⟨(Below.refl _ _).alloc (Nat.le_refl _) _, by simp, Blk.new _ _ _⟩ ?_
  rintro w2 ⟨hb2, hz2, ke⟩
  have hB2 := hB1.trans (hb2.mono hB1.size)
  have hbk2 := RSl.below hbk hb2
  have q0 : ∀ s : Later w2, s.val.cell? ⟨w1.heap.size, 0, none⟩ = some (.int .i64 2) := ke.later rfl
  have q1 : ∀ s : Later w2, s.val.cell? ⟨w1.heap.size, 1, none⟩ = some (.slice (some ⟨bk, 0, none⟩) 1 1) := ke.later rfl
  clear c2 l0 l1
  refine wp_seqL [5, 7, 8] (by as_aux_lemma => kernel_rfl) (by as_aux_lemma => kernel_rfl) fun w3 hb3 => ?_
  refine seqL_pre 5 (by kernel_rfl) ?_
  simp only [List.take_succ_cons, List.take_zero, List.drop_succ_cons, List.drop_zero]
  repeat (go_big_quiet_step (fail))
  refine wpQuiet_nil ?_
  refine seqL_wild hb3 rfl rfl fun K hK => ?_
  unfold Gives
  go_simp
  refine (clone_rb _ [120] _ (RSl.below hbk2 hb3)).mono ?_
  rintro x w4 ⟨⟨v4, rfl, hv4⟩, hb4⟩
  refine ⟨_, rfl, hK _ _ (hb4) fun hb4' => ?_⟩
  clear hK
  clear K
  simp only [Act.put, List.setIfInBounds_toArray, List.set_cons_succ, List.set_cons_zero]
  obtain ⟨A8, q8, rfl, _⟩ := hv4.form
  refine seqL_pre 1 (by kernel_rfl) ?_
  simp only [List.take_succ_cons, List.take_zero, List.drop_succ_cons, List.drop_zero]
  repeat (go_big_quiet_step (fail))
  refine wpQuiet_nil ?_
  refine seqL_wild hb4' rfl rfl fun K hK => ?_
  unfold Gives
  go_simp
  have hal : Below w4.heap.size w4 (w4.alloc (.cells #[.int .i64 2, .slice A8 1 q8] 79)) := (Below.refl _ _).alloc (Nat.le_refl _) _
  refine hK _ _ hal fun hb5 => ?_
  clear hK
  clear K
  simp only [Act.put, List.setIfInBounds_toArray, List.set_cons_succ, List.set_cons_zero]
  have hz3 := hb3.size
  have hz4 := hb4.size
  have hv5 : rOwner.rel (fun b => w3.heap.size ≤ b ∧ some b ≠ nl.ownBlock) (w4.alloc (.cells #[.int .i64 2, .slice A8 1 q8] 79)) [.int .i64 2, .slice A8 1 q8] ⟨2, [120]⟩ := ⟨_, rfl, (RSl.below hv4 hal).mono (by decide) fun y hy _ => ⟨hy, fun h => by cases h⟩, ⟨by decide, by decide⟩⟩
  refine seqL_wild hb5 rfl rfl fun K hK => ?_
  refine gives_app0' (E := rOwner) Tryz.rowOwner (by decide) _ _ rfl nl [] _ rfl (OwnL.nil_ rOwner (fun b => w3.heap.size ≤ b) w3.heap.size 79 _) (some ⟨w4.heap.size, 0, none⟩) 1 [⟨2, [120]⟩] [[.int .i64 2, .slice A8 1 q8]] rfl (show Rd _ 2 _ _ _ by simpa using Rd.new w4 79 2 1 #[.int .i64 2, .slice A8 1 q8] rfl) (Chunks.single (E := rOwner) hv5) (by decide) (by decide) (by simp; omega) fun v' w6 hown6 hk6 hloc6 => ?_
  have hb6 := hk6.below (Nat.le_refl _) fun b _ h => by cases h
  refine hK _ _ (hb6) fun hB6 => ?_
  clear hK
  clear K
  simp only [Act.put, List.setIfInBounds_toArray, List.set_cons_succ, List.set_cons_zero]
  refine seqL_pre 1 (by kernel_rfl) ?_
  simp only [List.take_succ_cons, List.take_zero, List.drop_succ_cons, List.drop_zero]
  repeat (go_big_quiet_step (fail))
  refine wpQuiet_nil ?_
  refine seqL_nil ?_
  obtain ⟨A9, c9, rfl, hc9⟩ := hown6.form
  simp only [List.nil_append, List.length_cons, List.length_nil, Nat.zero_add]
  have hB7 := hB2.trans (hB6.mono hB2.size)
  have hz7 := hB6.size
  clear hown6 hk6 hloc6 hv5 hal hv4 hc9 hb3 hb4 hb4' hb5 hb6 hbk2 q0 q1
  go_wp2
  rw [rounds_succ]
  have k7 := k1.below (hb2.trans (hB6.mono hb2.size)) k1.lt
  have r7 := r1.below (hb2.trans (hB6.mono hb2.size)) r1.lt
  have c4 : w6.cell? ⟨w.heap.size, 4, none⟩ = some nl := k7.cell 4
  go_wp2_with fail
  refine (clone_rb (ok := fun _ => True) nl [] _ (RSl.nil_ _ _ _)).mono ?_
  rintro x w8 ⟨⟨v8, rfl, hv8⟩, hb8⟩
  obtain ⟨A10, c10, rfl, _⟩ := hv8.form
  simp only [List.length_nil]
  have hB8 := hB7.trans (hb8.mono hB7.size)
  have k8 := k7.below hb8 k7.lt
  have r8 := r7.below hb8 r7.lt
  clear c4 k7 r7 k1 r1
  have d2 : w8.cell? ⟨w.heap.size, 2, none⟩ = some (.slice (some ⟨bl, 0, none⟩) 1 1) := k8.cell 2
  have d4 : w8.cell? ⟨w.heap.size, 4, none⟩ = some nl := k8.cell 4
  have fd : ∀ i, w8.frozen? ⟨w.heap.size, i, none⟩ = false := fun i => k8.frozen i
  go_upto_region 8 with fail
  have ks := (k8.set_ 2 (.slice A9 1 c9)).set_ 4 (.slice A10 0 c10)
  have rs := (r8.far (p := ⟨w.heap.size, 2, none⟩) (by simp) (.slice A9 1 c9)).far (p := ⟨w.heap.size, 4, none⟩) (by simp) (.slice A10 0 c10)
  refine name_world (fun w9 => Below w.heap.size w w9 ∧ Blk w9 w.heap.size 38 #[.int .i64 e, .int .i64 b, .slice A9 1 c9, .int .i64 m, .slice A10 0 c10] ∧ Blk w9 (w.heap.size + 1) 38 #[.int .i64 0, .int .i64 0, nl, .int .i64 0, nl])
    ⟨(hB8.setCell (p := ⟨w.heap.size, 2, none⟩) (Nat.le_refl _) _).setCell (p := ⟨w.heap.size, 4, none⟩) (Nat.le_refl _) _, ks, rs⟩ ?_
  rintro w9 ⟨hB9, k9, r9⟩
  clear k8 r8 ks rs
  have x0 : w9.cell? ⟨w.heap.size, 0, none⟩ = some (.int .i64 e) := k9.cell 0
  have x1 : w9.cell? ⟨w.heap.size, 1, none⟩ = some (.int .i64 b) := k9.cell 1
  have x2 : w9.cell? ⟨w.heap.size, 2, none⟩ = some (.slice A9 1 c9) := k9.cell 2
  have x3 : w9.cell? ⟨w.heap.size, 3, none⟩ = some (.int .i64 m) := k9.cell 3
  have x4 : w9.cell? ⟨w.heap.size, 4, none⟩ = some (.slice A10 0 c10) := k9.cell 4
  have y0 : w9.cell? ⟨w.heap.size + 1, 0, none⟩ = some (.int .i64 0) := r9.cell 0
  have y1 : w9.cell? ⟨w.heap.size + 1, 1, none⟩ = some (.int .i64 0) := r9.cell 1
  have y2 : w9.cell? ⟨w.heap.size + 1, 2, none⟩ = some nl := r9.cell 2
  have y3 : w9.cell? ⟨w.heap.size + 1, 3, none⟩ = some (.int .i64 0) := r9.cell 3
  have y4 : w9.cell? ⟨w.heap.size + 1, 4, none⟩ = some nl := r9.cell 4
  have fy : ∀ i, w9.frozen? ⟨w.heap.size + 1, i, none⟩ = false := fun i => r9.frozen i
  have lv := (r9.set5 rfl (.int .i64 e) (.int .i64 b) (.slice A9 1 c9) (.int .i64 m) (.slice A10 0 c10)).loadVar (P := Tryz.prog) Tryz.underlying38 rfl Tryz.infoRtT
  go_wp2
  refine bodyPost_ret (v := .agg #[.int .i64 e, .int .i64 b, .slice A9 1 c9, .int .i64 m, .slice A10 0 c10]) ?_ rfl ⟨⟨_, _, _, _, _, _, rfl⟩, ((((hB9.setCell (p := ⟨w.heap.size + 1, 0, none⟩) (Nat.le_succ _) _).setCell (p := ⟨w.heap.size + 1, 1, none⟩) (Nat.le_succ _) _).setCell (p := ⟨w.heap.size + 1, 2, none⟩) (Nat.le_succ _) _).setCell (p := ⟨w.heap.size + 1, 3, none⟩) (Nat.le_succ _) _).setCell (p := ⟨w.heap.size + 1, 4, none⟩) (Nat.le_succ _) _⟩
  simp [results, Tryz.results69, Sem.run_bind, Sem.run_pure, asAddr_ok, lv]
end Go.Proofs.YtmiceacjpadllaaGreatDoor
namespace Go.Proofs.YtmiceacjpadllaaGreatDoor
open Go.RowKit
def txCs (ph id : Int) (wk r0 r1 r2 r3 r4 : Value) (cm : Bool) (pl : Int) : Array Value :=
  #[.int .i64 ph, .int .u64 id, .int .i64 0, wk, r0, r1, r2, r3, r4, nl, nl, .bool cm, .bool false, .bool false, nl, nl, nl, .bool false, nl, .int .i64 0, nl, .int .i64 0, .int .i64 pl]
structure TxC (w : World) (g : Nat) (ph id : Int) (wk r0 r1 r2 r3 r4 : Value) (cm : Bool) (pl : Int) : Prop where
  c0 : w.cell? ⟨g, 0, none⟩ = some (.int .i64 ph)
  c1 : w.cell? ⟨g, 1, none⟩ = some (.int .u64 id)
  c2 : w.cell? ⟨g, 2, none⟩ = some (.int .i64 0)
  c3 : w.cell? ⟨g, 3, none⟩ = some wk
  c4 : w.cell? ⟨g, 4, none⟩ = some r0
  c5 : w.cell? ⟨g, 5, none⟩ = some r1
  c6 : w.cell? ⟨g, 6, none⟩ = some r2
  c7 : w.cell? ⟨g, 7, none⟩ = some r3
  c8 : w.cell? ⟨g, 8, none⟩ = some r4
  c9 : w.cell? ⟨g, 9, none⟩ = some nl
  c10 : w.cell? ⟨g, 10, none⟩ = some nl
  c11 : w.cell? ⟨g, 11, none⟩ = some (.bool cm)
  c12 : w.cell? ⟨g, 12, none⟩ = some (.bool false)
  c13 : w.cell? ⟨g, 13, none⟩ = some (.bool false)
  c17 : w.cell? ⟨g, 17, none⟩ = some (.bool false)
  c18 : w.cell? ⟨g, 18, none⟩ = some nl
  c19 : w.cell? ⟨g, 19, none⟩ = some (.int .i64 0)
  c21 : w.cell? ⟨g, 21, none⟩ = some (.int .i64 0)
  c22 : w.cell? ⟨g, 22, none⟩ = some (.int .i64 pl)
theorem Blk.txc {w : World} {g : Nat} {T : TypeId} {ph id : Int} {wk r0 r1 r2 r3 r4 : Value} {cm : Bool} {pl : Int} (h : Blk w g T (txCs ph id wk r0 r1 r2 r3 r4 cm pl)) : TxC w g ph id wk r0 r1 r2 r3 r4 cm pl :=
  ⟨h.cell 0, h.cell 1, h.cell 2, h.cell 3, h.cell 4, h.cell 5, h.cell 6, h.cell 7, h.cell 8, h.cell 9, h.cell 10, h.cell 11, h.cell 12, h.cell 13, h.cell 17, h.cell 18, h.cell 19, h.cell 21, h.cell 22⟩
theorem gives_stT {P : Program} {o : Oper} {a : Act} {w : World} {g k : Nat} {T : TypeId} {C : Array Value} {Φ : Value → World → Prop} {ty : TypeId} {x y : Operand} (ho : o.op = .store ty x y) (cs : Array Value) (hx : a.eval x = .pointer (some ⟨g, k, none⟩)) (hy : a.eval y = .agg cs) (hk : Blk w g T C) (hs : k + cs.size ≤ C.size) (hi : (P.info? ty).map (·.size) = some cs.size) (h1 : cs.all (·.oneCell') = true)
    (h : Φ undef (w.setCells g k cs.toList)) : Gives P o a w Φ := by
  unfold Gives execOp
  simp only [ho, hx, hy, Sem.run_bind, Sem.run_pure, run_storeAt_mid w g k ty cs (hk.there_at k cs.size hs) hi h1, Result.andThen_ok, giv]
  exact h
def decCs (id : Int) : Array Value := #[.int .i64 12, .int .i64 0, .int .u64 id, .int .i64 0, .int .i64 0, .int .i64 0, .bool true, nl, nl, nl, nl, nl, nl, .int .i64 0, .string ⟨#[]⟩, nl, nl, .int .i64 0, .int .i64 0, .string ⟨#[]⟩, nl, .bool false, .int .i64 0, .bool false, .string ⟨#[]⟩]
theorem decCs_one (id : Int) : (decCs id).all (·.oneCell') = true := by simp [decCs, Value.oneCell']
set_option maxRecDepth 100000 in
theorem txnNew_any (w : World) : Calls Tryz.prog 18 #[] w fun e w' => e = .returned (.pointer (some ⟨w.heap.size, 0, none⟩)) ∧ Blk w' w.heap.size 84 (txCs 0 0 (.pointer none) (.int .i64 0) (.int .i64 0) nl (.int .i64 0) nl false 0) ∧ Below w.heap.size w w' := by
  go_enter Tryz.func18, Tryz.ntmps18
  go_wp2
  go_ret
  exact ⟨rfl, Blk.new_ rfl, (Below.refl _ _).alloc (Nat.le_refl _) _⟩
set_option maxRecDepth 100000 in
set_option maxHeartbeats 1600000 in
theorem on_begin (g : Nat) (id : Int) (wk r0 r1 r2 r3 r4 : Value) (cm : Bool) (pl : Int) (w : World) (h : Blk w g 84 (txCs 0 id wk r0 r1 r2 r3 r4 cm pl)) :
    Calls Tryz.prog 26 #[.pointer (some ⟨g, 0, none⟩)] w fun e w' => (∃ v, e = .returned v) ∧ Below w.heap.size w w' := by
  obtain ⟨c0, _, _, _, _, _, _, _, _, _, _, _, _, _, _, _, _, _, _⟩ := h.txc
  have d0 : ∀ s : Later w, s.val.cell? ⟨g, 0, none⟩ = some (.int .i64 0) := h.later rfl
  go_enter Tryz.func26, Tryz.ntmps26
  go_wp2
  refine wp_loop_rounds 1 ?_
  rw [rounds_succ]
  go_upto_region 0 with fail
  refine wp_seqL [] (by as_aux_lemma => kernel_rfl) (by as_aux_lemma => kernel_rfl) fun w3 hb3 => ?_
  refine seqL_pre 25 (by kernel_rfl) ?_
  simp only [List.take_succ_cons, List.take_zero, List.drop_succ_cons, List.drop_zero]
  repeat (go_big_quiet_step (fail))
  refine wpQuiet_nil ?_
  refine seqL_nil ?_
  have h3 := h.below hb3 h.lt
  have e0 : w3.cell? ⟨g, 0, none⟩ = some (.int .i64 0) := h3.cell 0
  clear c0 d0
  go_wp2
  go_end0
  exact ⟨⟨_, rfl⟩, hb3⟩
set_option maxRecDepth 100000 in
set_option maxHeartbeats 1600000 in
theorem commit_begin (g : Nat) (id : Int) (wk r0 r1 r2 r3 r4 : Value) (pl : Int) (w : World) (h : Blk w g 84 (txCs 0 id wk r0 r1 r2 r3 r4 false pl)) :
    Calls Tryz.prog 10 #[.pointer (some ⟨g, 0, none⟩)] w fun e w' => e = .returned (.int .i64 0) ∧ Blk w' g 84 (txCs 0 id wk r0 r1 r2 r3 r4 true pl) ∧ Kp (fun b => b ≠ g) w w' := by
  obtain ⟨c0, _, _, _, _, _, _, _, _, _, _, c11, _, _, _, _, _, _, _⟩ := h.txc
  have fg : ∀ i, w.frozen? ⟨g, i, none⟩ = false := fun i => h.frozen i
  have hs : Blk (w.setCell ⟨g, 11, none⟩ (.bool true)) g 84 (txCs 0 id wk r0 r1 r2 r3 r4 true pl) := h.set_ 11 (.bool true)
  have hk : Kp (fun b => b ≠ g) w (w.setCell ⟨g, 11, none⟩ (.bool true)) := (Kp.refl _ w).setCell (p := ⟨g, 11, none⟩) (fun _ h => h rfl) _
  go_enter Tryz.func10, Tryz.ntmps10
  go_wp2_with (go_at_call 26; refine (on_begin g id wk r0 r1 r2 r3 r4 true pl _ hs).mono ?_; rintro e w' ⟨⟨v, rfl⟩, hb⟩)
  go_ret
  exact ⟨rfl, hs.below hb hs.lt, hk.trans (Kp.of_below hb)⟩
set_option maxRecDepth 100000 in
set_option maxHeartbeats 1600000 in
theorem next_begin (g : Nat) (id : Int) (wk r0 r1 r2 r3 r4 : Value) (cm : Bool) (pl : Int) (w : World) (h : Blk w g 84 (txCs 0 id wk r0 r1 r2 r3 r4 cm pl)) :
    Calls Tryz.prog 6 #[.pointer (some ⟨g, 0, none⟩)] w fun e w' => e = .returned (.tuple #[.int .i64 0, .agg (cmdCs 11 0 false nl nl nl nl), .bool true]) ∧ Below w.heap.size w w' := by
  have c0 : (w.alloc (.cells (cmdCs 0 0 false nl nl nl nl) 55)).cell? ⟨g, 0, none⟩ = some (.int .i64 0) := (h.alloc _).cell 0
  go_enter Tryz.func6, Tryz.ntmps6
  go_upto_region 1 with fail
  refine name_world (fun w1 => Below w.heap.size w w1 ∧ Blk w1 g 84 (txCs 0 id wk r0 r1 r2 r3 r4 cm pl) ∧ Blk w1 w.heap.size 55 zC) ⟨(Below.refl _ _).alloc (Nat.le_refl _) _, h.alloc _, Blk.new _ _ _⟩ ?_
  rintro w1 ⟨hB1, k1, z1⟩
  have e0 : w1.cell? ⟨g, 0, none⟩ = some (.int .i64 0) := k1.cell 0
  clear c0
  go_upto_region 4 with fail
  refine wp_region_split 2 ?_
  simp only [List.take_succ_cons, List.take_zero, List.drop_succ_cons, List.drop_zero]
  go_wp2
  show wpList _ _ _ _ _ _
  refine wpList_storeB' rfl rfl (cmdCs 11 0 false nl nl nl nl) rfl rfl z1 rfl Tryz.infoCmd (cmdCs_one rfl rfl rfl rfl) ?_ rfl
  intro z2
  have hB2 := below_setCells (B := w.heap.size) (b := w.heap.size) (Nat.le_refl _) (cmdCs 11 0 false nl nl nl nl).toList 0 hB1
  have lv := z2.loadVar (P := Tryz.prog) Tryz.underlying55 rfl Tryz.infoCmd
  go_wp2
  refine bodyPost_ret (v := .tuple #[.int .i64 0, .agg (cmdCs 11 0 false nl nl nl nl), .bool true]) ?_ rfl ⟨rfl, hB2⟩
  simp [results, Tryz.results6, Act.put, Sem.run_bind, Sem.run_pure, asAddr_ok, lv]
set_option maxRecDepth 100000 in
set_option maxHeartbeats 3200000 in
theorem next_deciding (g : Nat) (id : Int) (wk r0 r1 r2 r3 r4 : Value) (cm : Bool) (pl : Int) (w : World) (h : Blk w g 84 (txCs 3 id wk r0 r1 r2 r3 r4 cm pl)) :
    Calls Tryz.prog 6 #[.pointer (some ⟨g, 0, none⟩)] w fun e w' => e = .returned (.tuple #[.int .i64 0, .agg (decCs id), .bool true]) ∧ Below w.heap.size w w' := by
  go_enter Tryz.func6, Tryz.ntmps6
  go_upto_region 1 with fail
  refine name_world (fun w1 => Below w.heap.size w w1 ∧ Blk w1 g 84 (txCs 3 id wk r0 r1 r2 r3 r4 cm pl) ∧ Blk w1 w.heap.size 55 zC) ⟨(Below.refl _ _).alloc (Nat.le_refl _) _, h.alloc _, Blk.new _ _ _⟩ ?_
  rintro w1 ⟨hB1, k1, z1⟩
  have hgz : ¬ g = w.heap.size := by have := h.lt; omega
  have e0 : w1.cell? ⟨g, 0, none⟩ = some (.int .i64 3) := k1.cell 0
  have q1 : ∀ s : LaterB w1 (fun b => b = w.heap.size), s.val.cell? ⟨g, 1, none⟩ = some (.int .u64 id) := LaterB.cell (k1.cell 1) hgz
  have q2 : ∀ s : LaterB w1 (fun b => b = w.heap.size), s.val.cell? ⟨g, 2, none⟩ = some (.int .i64 0) := LaterB.cell (k1.cell 2) hgz
  have q12 : ∀ s : LaterB w1 (fun b => b = w.heap.size), s.val.cell? ⟨g, 12, none⟩ = some (.bool false) := LaterB.cell (k1.cell 12) hgz
  go_upto_region 13 with fail
  refine wp_seqB (fun b => b = w.heap.size) 15 [15] (by as_aux_lemma => kernel_rfl) (by as_aux_lemma => kernel_rfl) fun w2 hb2 => ?_
  refine seqB_pre 15 (by kernel_rfl) ?_
  simp only [List.take_succ_cons, List.take_zero, List.drop_succ_cons, List.drop_zero]
  repeat (go_big_quiet_step (fail))
  refine wpQuiet_nil ?_
  have z2 := z1.below hb2 z1.lt
  refine seqB_wild (Kp.of_below hb2) rfl rfl fun K hK => ?_
  refine gives_stT (k := 0) rfl (decCs id) rfl rfl z2 (Nat.le_refl _) Tryz.infoCmd (decCs_one id) ?_
  have z3 := z2.setCells (decCs id) rfl
  refine hK _ _ ((Kp.setCells (fun _ h => h rfl) (decCs id).toList 0 (Kp.refl _ _))) fun hK3 => ?_
  clear hK
  clear K
  simp only [Act.put, List.setIfInBounds_toArray, List.set_cons_succ, List.set_cons_zero]
  refine seqB_pre 1 (by kernel_rfl) ?_
  simp only [List.take_succ_cons, List.take_zero, List.drop_succ_cons, List.drop_zero]
  repeat (go_big_quiet_step (fail))
  refine wpQuiet_nil ?_
  refine seqB_nil ?_
  have lv := z3.loadVar (P := Tryz.prog) Tryz.underlying55 rfl Tryz.infoCmd
  have hB3 := below_setCells (B := w.heap.size) (b := w.heap.size) (Nat.le_refl _) (decCs id).toList 0 (hB1.trans (hb2.mono hB1.size))
  go_wp2
  refine bodyPost_ret (v := .tuple #[.int .i64 0, .agg (decCs id), .bool true]) ?_ rfl ⟨rfl, hB3⟩
  simp [results, Tryz.results6, Act.put, Sem.run_bind, Sem.run_pure, asAddr_ok, lv]
end Go.Proofs.YtmiceacjpadllaaGreatDoor
namespace Go.Proofs.YtmiceacjpadllaaGreatDoor
open Go.RowKit
theorem Wk0.kp {ok : Nat → Prop} {w w' : World} {g m1 m2 : Nat} {v n : Int} (h : Wk0 w g m1 m2 v n) (hk : Kp ok w w') (h1 : ok g) (h2 : ok m1) (h3 : ok m2) : Wk0 w' g m1 m2 v n :=
  ⟨h.blk.kp hk h1, (hk.block m1 h.lt.2.1 h2).trans h.ps, (hk.block m2 h.lt.2.2 h3).trans h.ws⟩
set_option maxRecDepth 100000 in
set_option maxHeartbeats 3200000 in
theorem prepare_none (g gw m1 m2 : Nat) (id v n : Int) (r0 r1 r2 r3 r4 : Value) (cm : Bool) (pl : Int) (w : World) (h : Blk w g 84 (txCs 1 id (.pointer (some ⟨gw, 0, none⟩)) r0 r1 r2 r3 r4 cm pl)) (hw : Wk0 w gw m1 m2 v n) (n0 : gw ≠ g) (n1 : m1 ≠ g) (n2 : m2 ≠ g) :
    Calls Tryz.prog 64 #[.pointer (some ⟨g, 0, none⟩)] w fun e w' => (∃ u, e = .returned u) ∧ Blk w' g 84 (txCs 3 id (.pointer (some ⟨gw, 0, none⟩)) r0 r1 r2 r3 r4 cm pl) ∧ Kp (fun b => b ≠ g) w w' := by
  have c0 : w.cell? ⟨g, 0, none⟩ = some (.int .i64 1) := h.cell 0
  have c18 : w.cell? ⟨g, 18, none⟩ = some nl := h.cell 18
  have c19 : w.cell? ⟨g, 19, none⟩ = some (.int .i64 0) := h.cell 19
  have fg : ∀ i, w.frozen? ⟨g, i, none⟩ = false := fun i => h.frozen i
  have hs : Blk (((w.setCell ⟨g, 0, none⟩ (.int .i64 2)).setCell ⟨g, 19, none⟩ (.int .i64 0)).setCell ⟨g, 18, none⟩ nl) g 84 (txCs 2 id (.pointer (some ⟨gw, 0, none⟩)) r0 r1 r2 r3 r4 cm pl) := ((h.set_ 0 (.int .i64 2)).set_ 19 (.int .i64 0)).set_ 18 nl
  have hk : Kp (fun b => b ≠ g) w (((w.setCell ⟨g, 0, none⟩ (.int .i64 2)).setCell ⟨g, 19, none⟩ (.int .i64 0)).setCell ⟨g, 18, none⟩ nl) := (((Kp.refl _ w).setCell (p := ⟨g, 0, none⟩) (fun _ h => h rfl) _).setCell (p := ⟨g, 19, none⟩) (fun _ h => h rfl) _).setCell (p := ⟨g, 18, none⟩) (fun _ h => h rfl) _
  go_enter Tryz.func64, Tryz.ntmps64
  go_upto_region 1 with fail
  refine name_world (fun w1 => Blk w1 g 84 (txCs 2 id (.pointer (some ⟨gw, 0, none⟩)) r0 r1 r2 r3 r4 cm pl) ∧ Kp (fun b => b ≠ g) w w1) ⟨hs, hk⟩ ?_
  rintro w1 ⟨k1, hk1⟩
  have hw1 := hw.kp hk1 n0 n1 n2
  clear c0 c18 c19 fg hs hk
  have c3 : w1.cell? ⟨g, 3, none⟩ = some (.pointer (some ⟨gw, 0, none⟩)) := k1.cell 3
  go_wp2_with fail
  refine (pairs_none gw m1 m2 v n _ hw1).mono ?_
  rintro e w2 ⟨rfl, hb2⟩
  have k2 := k1.below hb2 k1.lt
  have hw2 := hw1.below hb2 hw1.lt.1 hw1.lt.2.1 hw1.lt.2.2
  have hk2 := hk1.trans (Kp.of_below hb2)
  clear c3
  have c3 : w2.cell? ⟨g, 3, none⟩ = some (.pointer (some ⟨gw, 0, none⟩)) := k2.cell 3
  go_wp2
  refine wp_loop_rounds 1 ?_
  rw [rounds_succ]
  go_wp2_with fail
  refine (writes_none gw m1 m2 v n _ hw2).mono ?_
  rintro e w3 ⟨rfl, hb3⟩
  have k3 := k2.below hb3 k2.lt
  have hw3 := hw2.below hb3 hw2.lt.1 hw2.lt.2.1 hw2.lt.2.2
  have hk3 := hk2.trans (Kp.of_below hb3)
  clear c3
  have c3 : w3.cell? ⟨g, 3, none⟩ = some (.pointer (some ⟨gw, 0, none⟩)) := k3.cell 3
  go_wp2
  refine wp_loop_rounds 1 ?_
  rw [rounds_succ]
  go_wp2_with fail
  refine (seens_none gw m1 m2 v n _ hw3).mono ?_
  rintro e w4 ⟨rfl, rfl⟩
  go_wp2
  refine wp_loop_rounds 1 ?_
  rw [rounds_succ]
  have c18 : w4.cell? ⟨g, 18, none⟩ = some nl := k3.cell 18
  go_wp2_with fail
  refine (sort_nil _).mono ?_
  rintro e w5 ⟨⟨u, rfl⟩, rfl⟩
  go_wp2_with fail
  refine (compact_nil _).mono ?_
  rintro e w6 ⟨rfl, rfl⟩
  have fg : ∀ i, w6.frozen? ⟨g, i, none⟩ = false := fun i => k3.frozen i
  go_upto_region 18 with fail
  refine name_world (fun w7 => Blk w7 g 84 (txCs 2 id (.pointer (some ⟨gw, 0, none⟩)) r0 r1 r2 r3 r4 cm pl) ∧ Kp (fun b => b ≠ g) w w7) ⟨k3.set_ 18 nl, hk3.setCell (p := ⟨g, 18, none⟩) (fun _ h => h rfl) _⟩ ?_
  rintro w7 ⟨k7, hk7⟩
  clear c18 fg c3
  have c18 : w7.cell? ⟨g, 18, none⟩ = some nl := k7.cell 18
  go_wp2_with fail
  refine (contains_nil _ _).mono ?_
  rintro e w8 ⟨rfl, rfl⟩
  have c0 : w8.cell? ⟨g, 0, none⟩ = some (.int .i64 2) := k7.cell 0
  have fg : ∀ i, w8.frozen? ⟨g, i, none⟩ = false := fun i => k7.frozen i
  go_wp2
  go_end0
  exact ⟨⟨_, rfl⟩, k7.set_ 0 (.int .i64 3), hk7.setCell (p := ⟨g, 0, none⟩) (fun _ h => h rfl) _⟩
end Go.Proofs.YtmiceacjpadllaaGreatDoor
