/- Contract: law 22's awake. -/
import Derived.Test.YtikkknaofiafhaaS10
namespace Go.Proofs.Ytikkknaofiafhaa
open Go.RowKit

theorem wpList_storeB' {P : Program} {ops : Array Oper} {rest : List Oper} {o : Oper} {a : Act} {w : World} {Q : Exit → Act → World → Prop} {g : Nat} {T : TypeId} {C : Array Value} (hgd : o.guard = none) {ty : TypeId} {x y : Operand} (ho : o.op = .store ty x y) (cs : Array Value) (hx : a.eval x = .pointer (some ⟨g, 0, none⟩)) (hy : a.eval y = .agg cs) (hk : Blk w g T C) (hs : C.size = cs.size) (hi : (P.info? ty).map (·.size) = some cs.size) (h1 : cs.all (·.oneCell') = true)
    (h : Blk (w.setCells g 0 cs.toList) g T cs → wpList P ops Q rest a (w.setCells g 0 cs.toList)) (hdst : o.dst = none) : wpList P ops Q (o :: rest) a w :=
  wpList_storeB hgd ho cs hx hy hk hs hi h1 (by rw [hdst]; exact h)

set_option maxRecDepth 100000 in
set_option maxHeartbeats 6400000 in
theorem awakeSplit_any (w : World) :
    Calls Try.prog 28 #[] w fun e w' => e = .returned (.bool true) ∧ Below w.heap.size w w' := by
  go_enter Try.func28, Try.ntmps28
  go_wp2_with fail
  refine (refNew_any _).mono ?_
  rintro e w1 ⟨⟨a1, x1, rfl, hr1⟩, hb1⟩
  obtain ⟨A1, c1, rfl, _, _⟩ := hr1.s.form
  obtain ⟨A2, c2, rfl, _, _⟩ := hr1.c.form
  simp only [show rd0.s.length = 1 from rfl, show rd0.c.length = 0 from rfl] at *
  unfold routeCs
  go_upto_region 2 with fail
  refine name_world (fun w2 => Below w.heap.size w w2 ∧ w1.heap.size < w2.heap.size ∧ Blk w2 w1.heap.size 42 (routeCs rd0 (.slice A1 1 c1) (.slice A2 0 c2)) ∧ RouteR (fun b => w.heap.size ≤ b) w2 (.slice A1 1 c1) (.slice A2 0 c2) rd0)
    ⟨hb1.alloc hb1.size _, by simp, Blk.new_ rfl, hr1.below ((Below.refl _ _).alloc (Nat.le_refl _) _)⟩ ?_
  rintro w2 ⟨hB2, hz2, k2, hr2⟩
  obtain ⟨r0, r1, r2, r3, r4⟩ := route_cells k2
  simp only [rd0] at r0 r1 r3
  go_wp2_with fail
  have hal : ∀ o, Below w2.heap.size w2 (w2.alloc o) := fun o => (Below.refl _ _).alloc (Nat.le_refl _) _
  refine (cut_any (ok2 := fun _ => True) (.slice A1 1 c1) (.slice A2 0 c2) (.slice (some ⟨w2.heap.size, 0, none⟩) 2 2) _ (hr2.below (hal _)) ?_).mono ?_
  · exact RB.mk_ (by have := Rd.new w2 5 1 2 #[.int .u8 120, .int .u8 1] rfl; simpa [bs] using this) (Nat.le_refl _) (by omega) (fun _ _ _ => trivial)
  rintro e w3 ⟨⟨a3, x3, rfl, hr3⟩, hb3⟩
  obtain ⟨A3, c3, rfl, _, _⟩ := hr3.s.form
  obtain ⟨A4, c4, rfl, _, _⟩ := hr3.c.form
  simp only [show rd1.s.length = 1 from rfl, show rd1.c.length = 2 from rfl] at *
  have hB3 := hB2.trans ((hal (.cells #[.int .u8 120, .int .u8 1] 5)).trans (hb3.mono (by simp)) |>.mono hB2.size)
  unfold routeCs
  clear r0 r1 r2 r3 r4
  go_upto_region 3 with fail
  refine name_world (fun w4 => Below w.heap.size w w4 ∧ w3.heap.size < w4.heap.size ∧ Blk w4 w3.heap.size 42 (routeCs rd1 (.slice A3 1 c3) (.slice A4 2 c4)) ∧ RouteR (fun b => b < w4.heap.size) w4 (.slice A3 1 c3) (.slice A4 2 c4) rd1)
    ⟨hB3.alloc hB3.size _, by simp, Blk.new_ rfl, (hr3.below ((Below.refl _ _).alloc (Nat.le_refl _) _)).mono fun b _ h => h⟩ ?_
  rintro w4 ⟨hB4, hz4, k4, hr4⟩
  go_wp2_with fail
  refine (splitNew_any _).mono ?_
  rintro e w5 ⟨rfl, kg, hb5⟩
  have hB5 := hB4.trans (hb5.mono hB4.size)
  have hw0 : w.heap.size ≤ w4.heap.size := hB4.size
  have k5 := k4.below hb5 k4.lt
  have hr5 := (hr4.below hb5).mono (ok' := fun b => b ≠ w4.heap.size) fun b h _ => by omega
  obtain ⟨r0, r1, r2, r3, r4⟩ := route_cells k5
  simp only [rd1] at r0 r1 r3
  go_upto_region 6 with fail
  refine wp_region_split 9 ?_
  simp only [List.take_succ_cons, List.take_zero, List.drop_succ_cons, List.drop_zero]
  go_wp2_with fail
  refine (jobNext_awake (ok := fun b => b ≠ w4.heap.size) (.slice A3 1 c3) (.slice A4 2 c4) w4.heap.size _ hr5 (fun _ h => h) kg).mono ?_
  rintro e w6 ⟨⟨key, fr, ut, ps, rfl, hc6⟩, hK6⟩
  obtain ⟨A5, c5, rfl, _⟩ := hc6.key.form
  obtain ⟨A6, c6, rfl, _⟩ := hc6.fr.form
  obtain ⟨A7, c7, rfl, _⟩ := hc6.upto.form
  obtain ⟨A8, c8, rfl, _⟩ := hc6.pairs.form
  simp only [show ([120, 1] : List UInt8).length = 2 from rfl, show ([] : List UInt8).length = 0 from rfl, show ([] : List PairD).length = 0 from rfl] at *
  have hB6 : Below w.heap.size w w6 := hB5.trans (hK6.below (Nat.le_trans hw0 hb5.size) fun b hb => by omega)
  go_wp2
  show wpList _ _ _ _ _ _
  refine wpList_storeB' (C := zC) rfl rfl (cmdCs 5 0 false (.slice A5 2 c5) (.slice A6 0 c6) (.slice A7 0 c7) (.slice A8 0 c8)) rfl rfl (Blk.new_ rfl) rfl Try.infoCmd (cmdCs_one rfl rfl rfl rfl) ?_ rfl
  intro k7
  have hB7 := below_setCells (B := w.heap.size) (a := w) (b := w6.heap.size) hB6.size (cmdCs 5 0 false (.slice A5 2 c5) (.slice A6 0 c6) (.slice A7 0 c7) (.slice A8 0 c8)).toList 0 (hB6.alloc hB6.size (.cells zC 60))
  go_upto_region 7 with fail
  refine name_world (fun w8 => Below w.heap.size w w8 ∧ w8.cell? ⟨w6.heap.size, 0, none⟩ = some (.int .i64 5) ∧ w8.cell? ⟨w6.heap.size, 7, none⟩ = some (.slice A5 2 c5)) ⟨hB7, k7.cell 0, k7.cell 7⟩ ?_
  clear hB7 k7
  rintro w8 ⟨hB8, q0, q7⟩
  go_wp2
  go_ret
  exact ⟨rfl, hB8⟩
end Go.Proofs.Ytikkknaofiafhaa
