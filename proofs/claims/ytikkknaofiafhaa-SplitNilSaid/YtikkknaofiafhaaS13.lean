/- Contract: same.Command of two that say the same. -/
import Derived.Test.YtikkknaofiafhaaS12
import Derived.Test.YtikkknaofiafhaaS2
namespace Go.Proofs.Ytikkknaofiafhaa
open Go.RowKit

set_option maxRecDepth 100000 in
set_option maxHeartbeats 6400000 in
theorem cmdSame_any {ok ok2 : Nat → Prop} (kind n : Int) (flag : Bool) (d : CmdD) (x1 x2 x3 x4 y1 y2 y3 y4 : Value) (w : World) (hx : CmdR ok w x1 x2 x3 x4 d) (hy : CmdR ok2 w y1 y2 y3 y4 d) :
    Calls Try.prog 34 #[.agg (cmdCs kind n flag x1 x2 x3 x4), .agg (cmdCs kind n flag y1 y2 y3 y4)] w fun e w' => e = .returned (.bool true) ∧ Below w.heap.size w w' := by
  obtain ⟨X1A, x1c, rfl, _, _⟩ := hx.key.form
  obtain ⟨X2A, x2c, rfl, _, _⟩ := hx.fr.form
  obtain ⟨X3A, x3c, rfl, _, _⟩ := hx.upto.form
  obtain ⟨X4A, x4c, rfl, _, _⟩ := hx.pairs.form
  obtain ⟨Y1A, y1c, rfl, _, _⟩ := hy.key.form
  obtain ⟨Y2A, y2c, rfl, _, _⟩ := hy.fr.form
  obtain ⟨Y3A, y3c, rfl, _, _⟩ := hy.upto.form
  obtain ⟨Y4A, y4c, rfl, _, _⟩ := hy.pairs.form
  go_enter Try.func34, Try.ntmps34
  go_upto_region 1 with fail
  refine name_world (fun w1 => Below w.heap.size w w1 ∧ Blk w1 w.heap.size 60 (cmdCs kind n flag (.slice X1A d.key.length x1c) (.slice X2A d.from_.length x2c) (.slice X3A d.upto.length x3c) (.slice X4A d.pairs.length x4c)) ∧ Blk w1 (w.heap.size + 1) 60 (cmdCs kind n flag (.slice Y1A d.key.length y1c) (.slice Y2A d.from_.length y2c) (.slice Y3A d.upto.length y3c) (.slice Y4A d.pairs.length y4c)))
    ⟨((Below.refl _ _).alloc (Nat.le_refl _) _).alloc (by simp) _, (Blk.new w _ _).alloc _, Blk.new_ (by simp)⟩ ?_
  rintro w1 ⟨hB1, k1, m1⟩
  have a0 : w1.cell? ⟨w.heap.size, 0, none⟩ = some (.int .i64 kind) := k1.cell 0
  have a1 : w1.cell? ⟨w.heap.size, 1, none⟩ = some (.int .i64 0) := k1.cell 1
  have a2 : w1.cell? ⟨w.heap.size, 2, none⟩ = some (.int .u64 0) := k1.cell 2
  have a3 : w1.cell? ⟨w.heap.size, 3, none⟩ = some (.int .i64 n) := k1.cell 3
  have a4 : w1.cell? ⟨w.heap.size, 4, none⟩ = some (.int .i64 0) := k1.cell 4
  have a5 : w1.cell? ⟨w.heap.size, 5, none⟩ = some (.int .i64 0) := k1.cell 5
  have a6 : w1.cell? ⟨w.heap.size, 6, none⟩ = some (.bool flag) := k1.cell 6
  have a7 : w1.cell? ⟨w.heap.size, 7, none⟩ = some (.slice X1A d.key.length x1c) := k1.cell 7
  have b0 : w1.cell? ⟨w.heap.size + 1, 0, none⟩ = some (.int .i64 kind) := m1.cell 0
  have b1 : w1.cell? ⟨w.heap.size + 1, 1, none⟩ = some (.int .i64 0) := m1.cell 1
  have b2 : w1.cell? ⟨w.heap.size + 1, 2, none⟩ = some (.int .u64 0) := m1.cell 2
  have b3 : w1.cell? ⟨w.heap.size + 1, 3, none⟩ = some (.int .i64 n) := m1.cell 3
  have b4 : w1.cell? ⟨w.heap.size + 1, 4, none⟩ = some (.int .i64 0) := m1.cell 4
  have b5 : w1.cell? ⟨w.heap.size + 1, 5, none⟩ = some (.int .i64 0) := m1.cell 5
  have b6 : w1.cell? ⟨w.heap.size + 1, 6, none⟩ = some (.bool flag) := m1.cell 6
  have b7 : w1.cell? ⟨w.heap.size + 1, 7, none⟩ = some (.slice Y1A d.key.length y1c) := m1.cell 7
  go_wp2_with fail
  refine (bytes_rb _ _ d.key d.key _ (hx.key.below hB1) (hy.key.below hB1)).mono ?_
  rintro e w2 ⟨rfl, hw⟩
  subst hw
  rw [decide_eq_true (show d.key = d.key from rfl)]
  clear a0 b0 a1 b1 a2 b2 a3 b3 a4 b4 a5 b5 a6 b6 a7 b7
  have a8 : w1.cell? ⟨w.heap.size, 8, none⟩ = some (.slice X2A d.from_.length x2c) := k1.cell 8
  have a9 : w1.cell? ⟨w.heap.size, 9, none⟩ = some (.slice X3A d.upto.length x3c) := k1.cell 9
  have b8 : w1.cell? ⟨w.heap.size + 1, 8, none⟩ = some (.slice Y2A d.from_.length y2c) := m1.cell 8
  have b9 : w1.cell? ⟨w.heap.size + 1, 9, none⟩ = some (.slice Y3A d.upto.length y3c) := m1.cell 9
  go_wp2_with fail
  refine (spanSame_any _ _ _ _ d.from_ d.upto _ (hx.fr.below hB1) (hx.upto.below hB1) (hy.fr.below hB1) (hy.upto.below hB1)).mono ?_
  rintro e w2 ⟨rfl, hb2⟩
  have hB2 := hB1.trans (hb2.mono hB1.size)
  have k2 := k1.below hb2 k1.lt
  have m2 := m1.below hb2 m1.lt
  clear a8 b8 a9 b9
  have a10 : w2.cell? ⟨w.heap.size, 10, none⟩ = some (.slice X4A d.pairs.length x4c) := k2.cell 10
  have b10 : w2.cell? ⟨w.heap.size + 1, 10, none⟩ = some (.slice Y4A d.pairs.length y4c) := m2.cell 10
  go_wp2_with fail
  refine (samePair_any _ _ d.pairs _ (hx.pairs.below hB2) (hy.pairs.below hB2)).mono ?_
  rintro e w3 ⟨rfl, hb3⟩
  have hB3 := hB2.trans (hb3.mono hB2.size)
  have k3 := k2.below hb3 k2.lt
  have m3 := m2.below hb3 m2.lt
  clear a10 b10
  have a11 : w3.cell? ⟨w.heap.size, 11, none⟩ = some (nl) := k3.cell 11
  have b11 : w3.cell? ⟨w.heap.size + 1, 11, none⟩ = some (nl) := m3.cell 11
  go_wp2_with fail
  refine (sameSeen_nil _).mono ?_
  rintro e w4 ⟨rfl, hb4⟩
  have hB4 := hB3.trans (hb4.mono hB3.size)
  have k4 := k3.below hb4 k3.lt
  have m4 := m3.below hb4 m3.lt
  clear a11 b11
  have a12 : w4.cell? ⟨w.heap.size, 12, none⟩ = some (nl) := k4.cell 12
  have b12 : w4.cell? ⟨w.heap.size + 1, 12, none⟩ = some (nl) := m4.cell 12
  go_wp2_with fail
  refine (sameWrite_nil _).mono ?_
  rintro e w5 ⟨rfl, hb5⟩
  have hB5 := hB4.trans (hb5.mono hB4.size)
  have k5 := k4.below hb5 k4.lt
  have m5 := m4.below hb5 m4.lt
  clear a12 b12
  have a13 : w5.cell? ⟨w.heap.size, 13, none⟩ = some (.int .i64 0) := k5.cell 13
  have a14 : w5.cell? ⟨w.heap.size, 14, none⟩ = some (.string ⟨#[]⟩) := k5.cell 14
  have a15 : w5.cell? ⟨w.heap.size, 15, none⟩ = some (nl) := k5.cell 15
  have a16 : w5.cell? ⟨w.heap.size, 16, none⟩ = some (nl) := k5.cell 16
  have b13 : w5.cell? ⟨w.heap.size + 1, 13, none⟩ = some (.int .i64 0) := m5.cell 13
  have b14 : w5.cell? ⟨w.heap.size + 1, 14, none⟩ = some (.string ⟨#[]⟩) := m5.cell 14
  have b15 : w5.cell? ⟨w.heap.size + 1, 15, none⟩ = some (nl) := m5.cell 15
  have b16 : w5.cell? ⟨w.heap.size + 1, 16, none⟩ = some (nl) := m5.cell 16
  go_wp2_with fail
  refine (tableSame_zero _).mono ?_
  rintro e w6 ⟨rfl, hb6⟩
  have hB6 := hB5.trans (hb6.mono hB5.size)
  have k6 := k5.below hb6 k5.lt
  have m6 := m5.below hb6 m5.lt
  clear a13 b13 a14 b14 a15 b15 a16 b16
  have a17 : w6.cell? ⟨w.heap.size, 17, none⟩ = some (.int .i64 0) := k6.cell 17
  have a18 : w6.cell? ⟨w.heap.size, 18, none⟩ = some (.int .i64 0) := k6.cell 18
  have a19 : w6.cell? ⟨w.heap.size, 19, none⟩ = some (.string ⟨#[]⟩) := k6.cell 19
  have a20 : w6.cell? ⟨w.heap.size, 20, none⟩ = some (nl) := k6.cell 20
  have a21 : w6.cell? ⟨w.heap.size, 21, none⟩ = some (.bool false) := k6.cell 21
  have a22 : w6.cell? ⟨w.heap.size, 22, none⟩ = some (.int .i64 0) := k6.cell 22
  have a23 : w6.cell? ⟨w.heap.size, 23, none⟩ = some (.bool false) := k6.cell 23
  have b17 : w6.cell? ⟨w.heap.size + 1, 17, none⟩ = some (.int .i64 0) := m6.cell 17
  have b18 : w6.cell? ⟨w.heap.size + 1, 18, none⟩ = some (.int .i64 0) := m6.cell 18
  have b19 : w6.cell? ⟨w.heap.size + 1, 19, none⟩ = some (.string ⟨#[]⟩) := m6.cell 19
  have b20 : w6.cell? ⟨w.heap.size + 1, 20, none⟩ = some (nl) := m6.cell 20
  have b21 : w6.cell? ⟨w.heap.size + 1, 21, none⟩ = some (.bool false) := m6.cell 21
  have b22 : w6.cell? ⟨w.heap.size + 1, 22, none⟩ = some (.int .i64 0) := m6.cell 22
  have b23 : w6.cell? ⟨w.heap.size + 1, 23, none⟩ = some (.bool false) := m6.cell 23
  go_wp2_with fail
  refine (indexSame_zero _).mono ?_
  rintro e w7 ⟨rfl, hb7⟩
  have hB7 := hB6.trans (hb7.mono hB6.size)
  have k7 := k6.below hb7 k6.lt
  have m7 := m6.below hb7 m6.lt
  clear a17 b17 a18 b18 a19 b19 a20 b20 a21 b21 a22 b22 a23 b23
  have a24 : w7.cell? ⟨w.heap.size, 24, none⟩ = some (.string ⟨#[]⟩) := k7.cell 24
  have b24 : w7.cell? ⟨w.heap.size + 1, 24, none⟩ = some (.string ⟨#[]⟩) := m7.cell 24
  go_wp2
  go_ret
  exact ⟨rfl, hB7⟩
end Go.Proofs.Ytikkknaofiafhaa
