/- Law 21's nil job: a nil job's Next; awake; the law. -/
import Derived.Test.YtdibkhphemfdeaaGreatDoorE6
namespace Go.Proofs.YtdibkhphemfdeaaGreatDoor
open Go.RowKit

set_option maxRecDepth 100000 in
set_option maxHeartbeats 3200000 in
theorem ddlNext_nil (C1 C2 : Array Value) (w : World) :
    Calls Tryz.prog 4 #[.pointer none, .agg C1, .agg C2] w fun e w' => e = .returned (.tuple #[.int .i64 0, .int .i64 0, .agg zC, .agg opZ]) ∧ Below w.heap.size w w' := by
  go_enter Tryz.func4, Tryz.ntmps4
  go_upto_region 2 with fail
  refine name_world (fun w1 => Below w.heap.size w w1 ∧ w.heap.size + 5 ≤ w1.heap.size ∧ Blk w1 (w.heap.size + 1 + 1 + 1) 51 zC ∧ Blk w1 (w.heap.size + 1 + 1 + 1 + 1) 56 opZ)
    ⟨(((((Below.refl _ _).alloc (Nat.le_refl _) _).alloc (by simp) _).alloc (by simp; omega) _).alloc (by simp; omega) _).alloc (by simp; omega) _, by simp, (Blk.new_ (by simp)).alloc _, Blk.new_ (by simp)⟩ ?_
  rintro w1 ⟨hB1, hz1, k3, k4⟩
  refine wp_region_split 4 ?_
  simp only [List.take_succ_cons, List.take_zero, List.drop_succ_cons, List.drop_zero]
  go_wp2
  show wpList _ _ _ _ _ _
  refine wpList_storeB' rfl rfl zC rfl rfl k3 rfl Tryz.infoCmd2 (cmdCs_one rfl rfl rfl rfl) ?_ rfl
  intro k3b
  have k4b := far_setCells (g := w.heap.size + 1 + 1 + 1 + 1) (b := w.heap.size + 1 + 1 + 1) (by omega) zC.toList 0 k4
  have hB2 := below_setCells (B := w.heap.size) (b := w.heap.size + 1 + 1 + 1) (by omega) zC.toList 0 hB1
  generalize hwr : World.setCells w1 (w.heap.size + 1 + 1 + 1) 0 zC.toList = w2 at k3b k4b hB2 ⊢
  clear hwr
  refine wpList_storeB' rfl rfl opZ rfl rfl k4b rfl Tryz.infoOp2 op_oneZ ?_ rfl
  intro k4c
  have k3c := far_setCells (g := w.heap.size + 1 + 1 + 1) (b := w.heap.size + 1 + 1 + 1 + 1) (by omega) opZ.toList 0 k3b
  have hB3 := below_setCells (B := w.heap.size) (b := w.heap.size + 1 + 1 + 1 + 1) (by omega) opZ.toList 0 hB2
  have lv1 := k3c.loadVar (P := Tryz.prog) Tryz.underlying51 rfl Tryz.infoCmd2
  have lv2 := k4c.loadVar (P := Tryz.prog) Tryz.underlying56 rfl Tryz.infoOp2
  go_wp2
  refine bodyPost_ret (v := .tuple #[.int .i64 0, .int .i64 0, .agg zC, .agg opZ]) ?_ rfl ⟨rfl, hB3⟩
  simp [results, Tryz.results4, Act.put, Sem.run_bind, Sem.run_pure, asAddr_ok, lv1, lv2]

set_option maxRecDepth 100000 in
set_option maxHeartbeats 3200000 in
theorem refNewD_any (s : Int) (h1 : 1 ≤ s) (h4 : s ≤ 4) (w : World) :
    Calls Tryz.prog 17 #[.int .i64 1, .int .i64 s] w fun e w' => (∃ a c, e = .returned (.tuple #[.agg (routeCs rd0 a c), .int .i64 0]) ∧ RouteR (fun b => w.heap.size ≤ b) w' a c rd0) ∧ Below w.heap.size w w' := by
  have t1 : decide (s < 1) = false := decide_eq_false (by omega)
  have t2 : decide (4 < s) = false := decide_eq_false (by omega)
  have t1' : decide (s ≤ 0) = false := decide_eq_false (by omega)
  clear h1 h4
  go_enter Tryz.func17, Tryz.ntmps17
  go_wp2
  refine name_post (fun w1 => Below w.heap.size w w1 ∧ Blk w1 w.heap.size 33 (routeCs rd0 (.slice (some ⟨w.heap.size + 1 + 1, 0, none⟩) 1 1) (.slice none 0 0)) ∧ RSl rOwner (fun b => w.heap.size ≤ b) w1 (.slice (some ⟨w.heap.size + 1 + 1, 0, none⟩) 1 1) rd0.s)
    ⟨(((Below.refl _ _).alloc (Nat.le_refl _) _).alloc (by simp) _).alloc (by simp; omega) _, ((Blk.new w _ _).alloc _).alloc _, ?_⟩ ?_
  · have h1 := RSl.one_new (ok := fun b => w.heap.size ≤ b) (E := rU8) (w := w.alloc (.cells (routeCs rd0 (.slice (some ⟨w.heap.size + 1 + 1, 0, none⟩) 1 1) (.slice none 0 0)) 33)) (cs := #[.int .u8 120]) (d := 120) 5 rfl (by simp) (by decide)
    have h2 := RSl.one_new (ok := fun b => w.heap.size ≤ b) (E := rOwner) (w := (w.alloc (.cells (routeCs rd0 (.slice (some ⟨w.heap.size + 1 + 1, 0, none⟩) 1 1) (.slice none 0 0)) 33)).alloc (.cells #[.int .u8 120] 5)) (cs := #[.int .i64 2, .slice (some ⟨w.heap.size + 1, 0, none⟩) 1 1]) (d := ⟨2, [120]⟩) 60 ⟨_, rfl, by simpa using h1, ⟨by decide, by decide⟩⟩ (by simp; omega) (by decide)
    simpa [routeCs, rd0] using h2
  rintro w1 ⟨hb1, kb, ho⟩
  have lv := route_res kb
  refine bodyPost_ret (v := .tuple #[.agg (routeCs rd0 (.slice (some ⟨w.heap.size + 1 + 1, 0, none⟩) 1 1) (.slice none 0 0)), .int .i64 0]) ?_ rfl ⟨⟨_, _, rfl, ho, RSl.nil_ _ _ _, ⟨by decide, by decide⟩, ⟨by decide, by decide⟩, ⟨by decide, by decide⟩⟩, hb1⟩
  simp [results, Tryz.results17, Sem.run_bind, Sem.run_pure, asAddr_ok, lv]

theorem cat_cells {w : World} {g : Nat} {T : TypeId} {a b c d : Value} (h : Blk w g T #[a, b, c, d]) : w.cell? ⟨g, 0, none⟩ = some a ∧ w.cell? ⟨g, 1, none⟩ = some b ∧ w.cell? ⟨g, 2, none⟩ = some c ∧ w.cell? ⟨g, 3, none⟩ = some d := ⟨h.cell 0, h.cell 1, h.cell 2, h.cell 3⟩
theorem step_cells {w : World} {g : Nat} {T : TypeId} (h : Blk w g T stepCs) : w.cell? ⟨g, 0, none⟩ = some (.int .i64 17) ∧ w.cell? ⟨g, 3, none⟩ = some (.int .i64 2) ∧ w.cell? ⟨g, 5, none⟩ = some (.int .i64 2) := ⟨h.cell 0, h.cell 3, h.cell 5⟩

set_option maxRecDepth 100000 in
set_option maxHeartbeats 12800000 in
theorem ddlAwake_any (w : World) :
    Calls Tryz.prog 5 #[] w fun e w' => e = .returned (.bool true) ∧ Below w.heap.size w w' := by
  go_enter Tryz.func5, Tryz.ntmps5
  go_upto_region 2 with fail
  refine name_world (fun w1 => Below w.heap.size w w1 ∧ w.heap.size + 6 ≤ w1.heap.size ∧ Blk w1 (w.heap.size + 1 + 1 + 1 + 1) 49 (ixCs (some ⟨w.heap.size + 1 + 1 + 1, 0, none⟩) 1 1) ∧ Blk w1 (w.heap.size + 1 + 1 + 1 + 1 + 1) 29 #[.int .i64 2, .int .i64 3, .slice (some ⟨w.heap.size + 1 + 1, 0, none⟩) 1 1, .slice (some ⟨w.heap.size + 1 + 1 + 1 + 1, 0, none⟩) 1 1])
    ⟨((((((Below.refl _ _).alloc (Nat.le_refl _) _).alloc (by simp) _).alloc (by simp; omega) _).alloc (by simp; omega) _).alloc (by simp; omega) _).alloc (by simp; omega) _, by simp, (Blk.new_ (by simp)).alloc _, Blk.new_ (by simp)⟩ ?_
  rintro w1 ⟨hB1, hz1, ki, kc⟩
  obtain ⟨bi, hbi⟩ : ∃ bi, bi = w.heap.size + 1 + 1 + 1 + 1 := ⟨_, rfl⟩
  obtain ⟨bc, hbc⟩ : ∃ bc, bc = w.heap.size + 1 + 1 + 1 + 1 + 1 := ⟨_, rfl⟩
  rw [← hbi] at ki
  rw [← hbc, ← hbi] at kc
  rw [← hbc]
  have hbi2 : w.heap.size ≤ bi ∧ bi < w1.heap.size := by omega
  clear hbi hbc
  go_wp2_with fail
  refine (ddlNew_any _).mono ?_
  rintro e w2 ⟨rfl, kg, hb2⟩
  have hB2 := hB1.trans (hb2.mono hB1.size)
  have ki2 := ki.below hb2 ki.lt
  have kc2 := kc.below hb2 kc.lt
  obtain ⟨g, hg⟩ : ∃ g, g = w1.heap.size := ⟨_, rfl⟩
  rw [← hg] at kg ⊢
  have hgi : bi ≠ g := by omega
  have hgw : w.heap.size ≤ g := by have := hB1.size; omega
  have hgc : bc ≠ g := by have := kc.lt; omega
  clear hg
  obtain ⟨c0, c1, c2, c3⟩ := cat_cells kc2
  go_wp2_with fail
  refine (first1_any 2 3 _ _ 1 1 bi 0 1 _ (by omega) (fun j u hu => by rw [Nat.zero_add]; exact (ki2.cell j).trans hu)).mono ?_
  rintro e w3 ⟨rfl, hb3⟩
  have hB3 := hB2.trans (hb3.mono hB2.size)
  have ki3 := ki2.below hb3 ki2.lt
  have kc3 := kc2.below hb3 kc2.lt
  have kg3 := kg.below hb3 kg.lt
  clear c0 c1 c2 c3
  go_wp2_with fail
  refine (refNewD_any 1 (by decide) (by decide) _).mono ?_
  rintro e w4 ⟨⟨a, c, rfl, hr⟩, hb4⟩
  have hB4 := hB3.trans (hb4.mono hB3.size)
  have ki4 := ki3.below hb4 ki3.lt
  have kc4 := kc3.below hb4 kc3.lt
  have kg4 := kg3.below hb4 kg3.lt
  obtain ⟨rA, rc, rfl, _, _⟩ := hr.s.form
  obtain ⟨rB, rd, rfl, _, _⟩ := hr.c.form
  unfold routeCs
  go_upto_region 6 with fail
  refine name_world (fun w5 => Below w4.heap.size w4 w5 ∧ w4.heap.size < w5.heap.size ∧ Blk w5 w4.heap.size 33 (routeCs rd0 (.slice rA rd0.s.length rc) (.slice rB rd0.c.length rd))) ⟨(Below.refl _ _).alloc (Nat.le_refl _) _, by simp, Blk.new_ rfl⟩ ?_
  rintro w5 ⟨hb5, hz5, kr⟩
  have hB5 := hB4.trans (hb5.mono hB4.size)
  have ki5 := ki4.below hb5 ki4.lt
  have kc5 := kc4.below hb5 kc4.lt
  have kg5 := kg4.below hb5 kg4.lt
  obtain ⟨c0, c1, c2, c3⟩ := cat_cells kc5
  obtain ⟨r0, r1, r2, r3, r4⟩ := route_cells kr
  refine wp_region_split 13 ?_
  simp only [List.take_succ_cons, List.take_zero, List.drop_succ_cons, List.drop_zero]
  go_wp2_with fail
  refine (ddlNext_any 2 3 _ none 1 1 (routeCs rd0 (.slice rA rd0.s.length rc) (.slice rB rd0.c.length rd)) rfl _ 1 1 bi 0 1 g _ (by omega) kg5 hgi (fun j u hu => by rw [Nat.zero_add]; exact (ki5.cell j).trans hu)).mono ?_
  rintro e w6 ⟨rfl, hk6⟩
  have hB6 : Below w.heap.size w w6 := hB5.trans (hk6.below hB5.size fun b hb => by omega)
  clear c0 c1 c2 c3 r0 r1 r2 r3 r4
  go_wp2
  show wpList _ _ _ _ _ _
  refine wpList_storeB' (C := zC) rfl rfl stepCs rfl rfl ((Blk.new_ rfl).alloc _) rfl Tryz.infoCmd2 step_one ?_ rfl
  intro ks
  have hBs := hB6
  refine wpList_storeB' (C := opZ) rfl rfl opZ rfl rfl (far_setCells (g := w6.heap.size + 1) (b := w6.heap.size) (by omega) stepCs.toList 0 (Blk.new_ (by simp))) rfl Tryz.infoOp2 op_oneZ ?_ rfl
  intro ko
  go_upto_region 7 with fail
  refine name_world (fun w7 => Below w.heap.size w w7 ∧ Blk w7 w6.heap.size 51 stepCs) ⟨below_setCells (B := w.heap.size) (b := w6.heap.size + 1) (by have := hB6.size; omega) opZ.toList 0 (below_setCells (B := w.heap.size) (b := w6.heap.size) (by have := hB6.size; omega) stepCs.toList 0 ((hB6.alloc hB6.size _).alloc (by simp; have := hB6.size; omega) _)), far_setCells (g := w6.heap.size) (b := w6.heap.size + 1) (by omega) opZ.toList 0 ks⟩ ?_
  clear ks ko
  rintro w7 ⟨hB7, ks⟩
  obtain ⟨s0, s3, s5⟩ := step_cells ks
  go_wp2
  go_ret
  exact ⟨rfl, hB7⟩
end Go.Proofs.YtdibkhphemfdeaaGreatDoor
