/- Contracts for law 21's nil job: ddl.step, ddl.own, ddl.op, the index looked for. -/
import Derived.Test.YtdibkhphemfdeaaGreatDoorE2
import Derived.Test.YtdibkhphemfdeaaGreatDoorSeqG
namespace Go.Proofs.YtdibkhphemfdeaaGreatDoor
open Go.RowKit

theorem ask_one : askS.all (·.oneCell') = true := by simp [askS, Value.oneCell']
theorem step_one : stepCs.all (·.oneCell') = true := by simp [stepCs, Value.oneCell']
theorem op_oneZ : opZ.all (·.oneCell') = true := by simp [opZ, Value.oneCell']
set_option maxRecDepth 100000 in
set_option maxHeartbeats 3200000 in
theorem ddlStep_any (cA : Option Addr) (cn cc : Nat) (w : World) : Calls Tryz.prog 32 #[.agg (ixCs cA cn cc), .int .i64 2, .bool false] w fun e w' => e = .returned (.agg askS) ∧ Below w.heap.size w w' := by
  go_enter Tryz.func32, Tryz.ntmps32
  go_upto_region 1 with fail
  refine name_world (fun w1 => Below w.heap.size w w1 ∧ Blk w1 w.heap.size 49 (ixCs cA cn cc) ∧ Blk w1 (w.heap.size + 1) 69 askZ)
    ⟨((Below.refl _ _).alloc (Nat.le_refl _) _).alloc (by simp) _, (Blk.new w _ _).alloc _, Blk.new_ (by simp)⟩ ?_
  rintro w1 ⟨hB1, k1, k2⟩
  obtain ⟨a0, a5⟩ := ix_cells k1
  refine wp_region_split 8 ?_
  simp only [List.take_succ_cons, List.take_zero, List.drop_succ_cons, List.drop_zero]
  go_wp2
  show wpList _ _ _ _ _ _
  refine wpList_storeB' rfl rfl askS rfl rfl k2 rfl Tryz.infoAsk (ask_one) ?_ rfl
  intro k3
  have lv := k3.loadVar (P := Tryz.prog) Tryz.underlying69 rfl Tryz.infoAsk
  have hB2 := below_setCells (B := w.heap.size) (b := w.heap.size + 1) (by omega) askS.toList 0 hB1
  go_wp2
  refine bodyPost_ret (v := .agg askS) ?_ rfl ⟨rfl, hB2⟩
  simp [results, Tryz.results32, Act.put, Sem.run_bind, Sem.run_pure, asAddr_ok, lv]

set_option maxRecDepth 100000 in
set_option maxHeartbeats 3200000 in
theorem ddlOp_any (w : World) : Calls Tryz.prog 15 #[.agg opZ] w fun e w' => e = .returned (.agg opZ) ∧ Below w.heap.size w w' := by
  go_enter Tryz.func15, Tryz.ntmps15
  go_upto_region 1 with fail
  refine name_world (fun w1 => Below w.heap.size w w1 ∧ Blk w1 w.heap.size 56 opZ ∧ Blk w1 (w.heap.size + 1) 56 opZ)
    ⟨((Below.refl _ _).alloc (Nat.le_refl _) _).alloc (by simp) _, (Blk.new w _ _).alloc _, Blk.new_ (by simp)⟩ ?_
  rintro w1 ⟨hB1, k1, k2⟩
  have a10 : w1.cell? ⟨w.heap.size, 10, none⟩ = some nl := k1.cell 10
  have fg := fun i => k1.frozen i
  go_wp2
  go_loop [3, 9] (fun v j => v = .slice none 0 0 ∧ j = .int .i64 0) (fun _ _ => 0)
  case atStart => exact ⟨rfl, rfl⟩
  case round =>
    obtain ⟨rfl, rfl⟩ := hrel
    go_upto_region 8 with fail
    refine name_world (fun w2 => Below w.heap.size w w2 ∧ Blk w2 w.heap.size 56 opZ ∧ Blk w2 (w.heap.size + 1) 56 opZ)
      ⟨hB1.setCell (Nat.le_refl _) _, k1.set_ 10 nl, k2.far (by simp) _⟩ ?_
    rintro w2 ⟨hB2, k3, k4⟩
    clear a10 fg
    refine wp_region_lit ?_
    refine wpList_loadG rfl rfl rfl k3 Tryz.underlying56 rfl Tryz.infoOp2 ?_
    simp only [Act.put, List.setIfInBounds_toArray, List.set_cons_succ, List.set_cons_zero]
    refine wpList_storeB' rfl rfl opZ rfl rfl k4 rfl Tryz.infoOp2 op_oneZ ?_ rfl
    intro k5
    have lv := k5.loadVar (P := Tryz.prog) Tryz.underlying56 rfl Tryz.infoOp2
    have hB5 := below_setCells (B := w.heap.size) (b := w.heap.size + 1) (by omega) opZ.toList 0 hB2
    go_wp2
    refine bodyPost_ret (v := .agg opZ) ?_ rfl ⟨rfl, hB5⟩
    simp [results, Tryz.results15, Act.put, Sem.run_bind, Sem.run_pure, asAddr_ok, lv]

set_option maxRecDepth 100000 in
set_option maxHeartbeats 3200000 in
theorem ddlClo_any (cA : Option Addr) (cn cc : Nat) (x g : Nat) (w : World) (hx : w.cell? ⟨x, 0, none⟩ = some (.pointer (some ⟨g, 0, none⟩))) (hg : w.cell? ⟨g, 0, none⟩ = some (.int .i64 2)) :
    Calls Tryz.prog 12 #[.agg (ixCs cA cn cc), .pointer (some ⟨x, 0, none⟩)] w fun e w' => e = .returned (.bool true) ∧ Below w.heap.size w w' := by
  go_enter Tryz.func12, Tryz.ntmps12
  go_upto_region 1 with fail
  refine name_world (fun w1 => Below w.heap.size w w1 ∧ Blk w1 w.heap.size 49 (ixCs cA cn cc)) ⟨(Below.refl _ _).alloc (Nat.le_refl _) _, Blk.new _ _ _⟩ ?_
  rintro w1 ⟨hB1, k1⟩
  have l0 : ∀ s : Later w1, s.val.cell? ⟨w.heap.size, 0, none⟩ = some (.int .i64 2) := k1.later rfl
  have l1 := Later.cell ((hB1.cell (p := ⟨x, 0, none⟩) (World.block_lt_of_cell? _ _ hx)).trans hx)
  have l2 := Later.cell ((hB1.cell (p := ⟨g, 0, none⟩) (World.block_lt_of_cell? _ _ hg)).trans hg)
  refine wp_seqL [] (by as_aux_lemma => kernel_rfl) (by as_aux_lemma => kernel_rfl) fun w2 hb2 => ?_
  refine seqL_pre 8 (by kernel_rfl) ?_
  simp only [List.take_succ_cons, List.take_zero, List.drop_succ_cons, List.drop_zero]
  repeat (go_big_quiet_step (fail))
  refine wpQuiet_nil ?_
  refine seqL_nil ?_
  go_wp2
  go_ret
  exact ⟨rfl, hB1.trans (hb2.mono hB1.size)⟩

set_option maxRecDepth 100000 in
set_option maxHeartbeats 3200000 in
theorem ddlIndex_any (cA : Option Addr) (cn cc : Nat) (b off c x g : Nat) (w : World) (hc : 1 ≤ c) (hcell : ∀ j u, (ixCs cA cn cc)[j]? = some u → w.cell? ⟨b, off + j, none⟩ = some u) (hx : w.cell? ⟨x, 0, none⟩ = some (.pointer (some ⟨g, 0, none⟩))) (hg : w.cell? ⟨g, 0, none⟩ = some (.int .i64 2)) :
    Calls Tryz.prog 11 #[.slice (some ⟨b, off, none⟩) 1 c, .func (.func 12) #[] #[.pointer (some ⟨x, 0, none⟩)]] w fun e w' => e = .returned (.int .i64 0) ∧ Below w.heap.size w w' := by
  have x0 : w.cell? ⟨b, off, none⟩ = some (.int .i64 2) := hcell 0 _ rfl
  have x1 : w.cell? ⟨b, off + 1, none⟩ = some (.int .i64 1) := hcell 1 _ rfl
  have x2 : w.cell? ⟨b, off + 2, none⟩ = some (.string ⟨#[120]⟩) := hcell 2 _ rfl
  have x3 : w.cell? ⟨b, off + 3, none⟩ = some (.slice cA cn cc) := hcell 3 _ rfl
  have x4 : w.cell? ⟨b, off + 4, none⟩ = some (.bool false) := hcell 4 _ rfl
  have x5 : w.cell? ⟨b, off + 5, none⟩ = some (.int .i64 1) := hcell 5 _ rfl
  have x6 : w.cell? ⟨b, off + 6, none⟩ = some (.bool false) := hcell 6 _ rfl
  clear hcell
  go_enter Tryz.func11, Tryz.ntmps11
  go_wp2
  go_loopw [8] (fun j wr => j = .int .i64 0 ∧ wr = w) (fun _ _ => 0)
  case atStart => exact ⟨rfl, rfl⟩
  case round =>
    obtain ⟨rfl, rfl⟩ := hrel
    go_wp2_with fail
    refine (ddlClo_any cA cn cc x g _ hx hg).mono ?_
    rintro e w2 ⟨rfl, hb2⟩
    go_wp2
    go_ret
    exact ⟨rfl, hb2⟩
end Go.Proofs.YtdibkhphemfdeaaGreatDoor
