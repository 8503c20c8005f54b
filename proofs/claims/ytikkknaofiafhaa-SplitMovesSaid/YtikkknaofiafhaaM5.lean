/- The locks of law 22: none, or one that writes one key. Contracts: (*Table).Get, May, Clear, Touches; same.In of nothing; ref16.New of nothing. -/
import Derived.Test.YtikkknaofiafhaaM4
namespace Go.Proofs.Ytikkknaofiafhaa
open Go.RowKit

/-- a write of nothing at a key -/
def rWr : Rel (List UInt8) where
  sz := 3
  wt := 56
  rel ok w cs k := ∃ a b, cs = [a, b, .bool false] ∧ RB ok w a k ∧ RB ok w b []
  len := by rintro ok w cs d ⟨a, b, rfl, _⟩; rfl
  one := by
    rintro ok w cs d ⟨a, b, rfl, h1, h2⟩ u hu
    simp at hu
    rcases hu with rfl | rfl | rfl
    · exact h1.one
    · exact h2.one
    · rfl
  kp := by
    rintro ok w w' cs d hk ⟨a, b, rfl, h1, h2⟩
    exact ⟨a, b, rfl, h1.kp hk, h2.kp hk⟩
  mono := by
    rintro ok ok' w cs d hm ⟨a, b, rfl, h1, h2⟩
    exact ⟨a, b, rfl, h1.mono (by decide) hm, h2.mono (by decide) hm⟩
/-- the lock -/
def rHe : Rel (List UInt8) where
  sz := 4
  wt := 80
  rel ok w cs k := ∃ ws, cs = [.int .u64 9, nl, nl, ws] ∧ RSl rWr ok w ws [k]
  len := by rintro ok w cs d ⟨a, rfl, _⟩; rfl
  one := by
    rintro ok w cs d ⟨a, rfl, h1⟩ u hu
    simp at hu
    rcases hu with rfl | rfl | rfl
    · rfl
    · rfl
    · exact h1.one
  kp := by
    rintro ok w w' cs d hk ⟨a, rfl, h1⟩
    exact ⟨a, rfl, h1.kp hk⟩
  mono := by
    rintro ok ok' w cs d hm ⟨a, rfl, h1⟩
    exact ⟨a, rfl, h1.mono (by decide) hm⟩
theorem he_open {ok : Nat → Prop} {w : World} {v : Value} {k : List UInt8} (h : RSl rHe ok w v [k]) : ∃ b off c ws, v = .slice (some ⟨b, off, none⟩) 1 c ∧ 1 ≤ c ∧ ok b ∧ w.cell? ⟨b, off, none⟩ = some (.int .u64 9) ∧ w.cell? ⟨b, off + 1, none⟩ = some nl ∧ w.cell? ⟨b, off + 2, none⟩ = some nl ∧ w.cell? ⟨b, off + 3, none⟩ = some ws ∧ RSl rWr ok w ws [k] := by
  obtain ⟨b, off, c, cs, hv, hb, ⟨ws, rfl, hw⟩, hcell⟩ := h.at_ (i := 0) (by simp)
  obtain ⟨A, c', hv2, hc, _⟩ := h.form
  rw [hv] at hv2
  simp only [Value.slice.injEq, List.length_singleton] at hv2
  obtain ⟨rfl, _, rfl⟩ := hv2
  have q0 := hcell 0 _ rfl
  have q1 := hcell 1 _ rfl
  have q2 := hcell 2 _ rfl
  have q3 := hcell 3 _ rfl
  simp only [Nat.add_zero, Nat.zero_mul] at q0 q1 q2 q3
  exact ⟨b, off, c, ws, hv, by simpa using hc, hb, q0, q1, q2, q3, hw⟩
theorem wr_open {ok : Nat → Prop} {w : World} {v : Value} {k : List UInt8} (h : RSl rWr ok w v [k]) : ∃ b off c a1 a2, v = .slice (some ⟨b, off, none⟩) 1 c ∧ 1 ≤ c ∧ ok b ∧ w.cell? ⟨b, off, none⟩ = some a1 ∧ w.cell? ⟨b, off + 1, none⟩ = some a2 ∧ w.cell? ⟨b, off + 2, none⟩ = some (.bool false) ∧ RB ok w a1 k ∧ RB ok w a2 [] := by
  obtain ⟨b, off, c, cs, hv, hb, ⟨a1, a2, rfl, h1, h2⟩, hcell⟩ := h.at_ (i := 0) (by simp)
  obtain ⟨A, c', hv2, hc, _⟩ := h.form
  rw [hv] at hv2
  simp only [Value.slice.injEq, List.length_singleton] at hv2
  obtain ⟨rfl, _, rfl⟩ := hv2
  have q0 := hcell 0 _ rfl
  have q1 := hcell 1 _ rfl
  have q2 := hcell 2 _ rfl
  simp only [Nat.add_zero, Nat.zero_mul] at q0 q1 q2
  exact ⟨b, off, c, a1, a2, hv, by simpa using hc, hb, q0, q1, q2, h1, h2⟩
theorem he_nil {ok : Nat → Prop} {w : World} {v : Value} (h : RSl rHe ok w v []) : ∃ A c, v = .slice A 0 c := by
  obtain ⟨A, c, h, _⟩ := h.form
  exact ⟨A, c, h⟩
theorem cells4 {w : World} {g : Nat} {T : TypeId} {y0 y1 y2 y3 : Value} (h : Blk w g T #[y0, y1, y2, y3]) : w.cell? ⟨g, 0, none⟩ = some y0 ∧ w.cell? ⟨g, 1, none⟩ = some y1 ∧ w.cell? ⟨g, 2, none⟩ = some y2 ∧ w.cell? ⟨g, 3, none⟩ = some y3 := ⟨h.cell 0, h.cell 1, h.cell 2, h.cell 3⟩
theorem set4' {w : World} {g : Nat} {T : TypeId} {y0 y1 y2 y3 : Value} (h : Blk w g T #[y0, y1, y2, y3]) (x0 x1 x2 x3 : Value) : Blk ((((w.setCell ⟨g, 0, none⟩ x0).setCell ⟨g, 1, none⟩ x1).setCell ⟨g, 2, none⟩ x2).setCell ⟨g, 3, none⟩ x3) g T #[x0, x1, x2, x3] := by
  have := (((h.set_ 0 x0).set_ 1 x1).set_ 2 x2).set_ 3 x3
  simpa using this

set_option maxRecDepth 100000 in
set_option maxHeartbeats 1600000 in
theorem tGet_any {ok : Nat → Prop} (g o : Nat) (vT : Value) (h : Option (List UInt8)) (w : World) (hc : w.cell? ⟨g, o, none⟩ = some vT) (hT : RSl rHe ok w vT h.toList) :
    Calls Try.prog 136 #[.pointer (some ⟨g, o, none⟩), .int .u64 9] w fun e w' => (∃ A n c z, e = .returned (.tuple #[.agg #[.int .u64 z, nl, nl, .slice A n c], .bool h.isSome]) ∧ RSl rWr ok w' (.slice A n c) h.toList) ∧ Below w.heap.size w w' := by
  have hgl : g < w.heap.size := World.block_lt_of_cell? w ⟨g, o, none⟩ hc
  cases h with
  | none =>
    obtain ⟨A, c, rfl⟩ := he_nil hT
    go_enter Try.func136, Try.ntmps136
    have k1 := Blk.new w 191 #[.int .u64 0, nl, nl, nl]
    have hB : Below w.heap.size w (w.alloc (.cells #[.int .u64 0, nl, nl, nl] 191)) := (Below.refl _ _).alloc (Nat.le_refl _) _
    obtain ⟨z0, z1, z2, z3⟩ := cells4 k1
    have fz := fun i => k1.frozen i
    have c1 := alloc1 hc (.cells #[.int .u64 0, nl, nl, nl] 191)
    go_wp2
    refine wp_loop_rounds 1 ?_
    rw [rounds_succ]
    go_wp2
    obtain ⟨d0, d1, d2, d3⟩ := cells4 (set4' k1 (.int .u64 0) nl nl nl)
    refine bodyPost_ret (v := .tuple #[.agg #[.int .u64 0, nl, nl, nl], .bool false]) (by simp [results, Try.results136, go_sem, d0, d1, d2, d3]) rfl ?_
    exact ⟨⟨none, 0, 0, 0, rfl, RSl.nil_ _ _ _⟩, (Below.refl _ _).alloc (Nat.le_refl _) _⟩
  | some k =>
    obtain ⟨b, off, c, ws, rfl, hc1, _, q0, q1, q2, q3, hw⟩ := he_open hT
    obtain ⟨Aw, cw, rfl, _, _⟩ := hw.form
    have hbl : b < w.heap.size := World.block_lt_of_cell? w ⟨b, off, none⟩ q0
    go_enter Try.func136, Try.ntmps136
    have k1 := Blk.new w 191 #[.int .u64 0, nl, nl, nl]
    have hB : Below w.heap.size w (w.alloc (.cells #[.int .u64 0, nl, nl, nl] 191)) := (Below.refl _ _).alloc (Nat.le_refl _) _
    obtain ⟨z0, z1, z2, z3⟩ := cells4 k1
    have fz := fun i => k1.frozen i
    have c1 := alloc1 hc (.cells #[.int .u64 0, nl, nl, nl] 191)
    have p0 := alloc1 q0 (.cells #[.int .u64 0, nl, nl, nl] 191)
    have p1 := alloc1 q1 (.cells #[.int .u64 0, nl, nl, nl] 191)
    have p2 := alloc1 q2 (.cells #[.int .u64 0, nl, nl, nl] 191)
    have p3 := alloc1 q3 (.cells #[.int .u64 0, nl, nl, nl] 191)
    clear q0 q1 q2 q3
    go_wp2
    refine wp_loop_rounds 1 ?_
    rw [rounds_succ]
    go_wp2
    obtain ⟨d0, d1, d2, d3⟩ := cells4 (set4' k1 (.int .u64 9) nl nl (.slice Aw 1 cw))
    have hbb := (Below.refl w.heap.size w).alloc (Nat.le_refl _) (.cells #[.int .u64 9, nl, nl, .slice Aw 1 cw] 191)
    refine bodyPost_ret (v := .tuple #[.agg #[.int .u64 9, nl, nl, .slice Aw 1 cw], .bool true]) (by simp [results, Try.results136, go_sem, d0, d1, d2, d3]) rfl ?_
    exact ⟨⟨Aw, 1, cw, 9, rfl, hw.below hbb⟩, hbb⟩

set_option maxRecDepth 100000 in
set_option maxHeartbeats 1600000 in
theorem in64_nil (A : Option Addr) (c : Nat) (x : Int) (w : World) : Calls Try.prog 95 #[.slice A 0 c, .int .u64 x] w fun e w' => e = .returned (.bool false) ∧ w' = w := by
  go_enter Try.func95, Try.ntmps95
  go_wp2
  refine wp_loop_rounds 1 ?_
  rw [rounds_succ]
  go_wp2
  go_ret
  exact ⟨rfl, rfl⟩
set_option maxRecDepth 100000 in
set_option maxHeartbeats 1600000 in
theorem tMay_nil {ok : Nat → Prop} (g o : Nat) (A A4 : Option Addr) (c n4 c4 : Nat) (w : World) (hc : w.cell? ⟨g, o, none⟩ = some (.slice A 0 c)) :
    Calls Try.prog 137 #[.pointer (some ⟨g, o, none⟩), .agg #[.int .u64 9, nl, nl, .slice A4 n4 c4]] w fun e w' => e = .returned (.int .i64 0) ∧ Below w.heap.size w w' := by
  have hgl : g < w.heap.size := World.block_lt_of_cell? w ⟨g, o, none⟩ hc
  go_enter Try.func137, Try.ntmps137
  have hB : Below w.heap.size w (w.alloc (.cells #[.int .u64 9, nl, nl, .slice A4 n4 c4] 191)) := (Below.refl _ _).alloc (Nat.le_refl _) _
  go_wp2_with fail
  refine (tGet_any g o _ none _ (alloc1 hc _) (RSl.empty rHe ok _ A c)).mono ?_
  rintro e w1 ⟨⟨A1, n1, c1, z, rfl, _⟩, hb1⟩
  have hB1 := hB.trans (hb1.mono hB.size)
  have hal := hB1.alloc hB1.size (.cells #[.int .u64 z, nl, nl, .slice A1 n1 c1] 191)
  have c2 := (hal.cell (p := ⟨g, o, none⟩) hgl).trans hc
  go_wp2
  refine wp_loop_rounds 1 ?_
  rw [rounds_succ]
  go_wp2
  go_ret
  exact ⟨rfl, hal⟩
set_option maxRecDepth 100000 in
set_option maxHeartbeats 1600000 in
theorem shNew_nil (w : World) : Calls Try.prog 36 #[.agg #[nl, nl]] w fun e w' => (∃ g, e = .returned (.pointer (some ⟨g, 0, none⟩)) ∧ w.heap.size ≤ g ∧ Blk w' g 90 (shCs nl nl nl nl 0 nl nl nl nl)) ∧ Below w.heap.size w w' := by
  go_enter Try.func36, Try.ntmps36
  have hB : Below w.heap.size w (w.alloc (.cells #[nl, nl] 50)) := (Below.refl _ _).alloc (Nat.le_refl _) _
  go_wp2_with fail
  refine (some_any (ok := fun _ => True) _ _ [] [] _ (RSl.nil_ _ _ _) (RSl.nil_ _ _ _)).mono ?_
  rintro e w1 ⟨rfl, hb1⟩
  have hB1 := hB.trans (hb1.mono hB.size)
  rw [show someB [] [] = false from rfl]
  go_wp2
  go_ret
  exact ⟨⟨_, rfl, hB1.size, Blk.new _ _ _⟩, hB1.alloc hB1.size _⟩
end Go.Proofs.Ytikkknaofiafhaa
