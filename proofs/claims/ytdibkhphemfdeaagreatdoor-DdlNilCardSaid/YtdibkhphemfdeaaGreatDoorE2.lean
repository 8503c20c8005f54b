/- Contracts for law 21's nil job: ddl.New, ddl.First, ddl.own, ddl.op, ddl.step, schema.Next, slices.Clone of nothing, a nil job. -/
import Derived.Test.YtdibkhphemfdeaaGreatDoorE1
namespace Go.Proofs.YtdibkhphemfdeaaGreatDoor
open Go.RowKit

def ixCs (cA : Option Addr) (cn cc : Nat) : Array Value := #[.int .i64 2, .int .i64 1, .string ⟨#[120]⟩, .slice cA cn cc, .bool false, .int .i64 1, .bool false]
def stepCs : Array Value := #[.int .i64 17, .int .i64 0, .int .u64 0, .int .i64 2, .int .i64 1, .int .i64 2, .bool false, nl, nl, nl, nl, nl, nl, .int .i64 0, .string ⟨#[]⟩, nl, nl, .int .i64 0, .int .i64 0, .string ⟨#[]⟩, nl, .bool false, .int .i64 0, .bool false, .string ⟨#[]⟩]
def askZ : Array Value := #[.int .i64 0, .int .i64 0, .int .i64 0, .int .i64 0, .int .u64 0, .int .i64 0, .int .i64 0, .int .i64 0, .bool false, nl, nl, nl, nl, nl, nl, .int .i64 0, .string ⟨#[]⟩, nl, nl, .int .i64 0, .int .i64 0, .string ⟨#[]⟩, nl, .bool false, .int .i64 0, .bool false, .string ⟨#[]⟩, .int .i64 0, .string ⟨#[]⟩, .string ⟨#[]⟩, nl, nl, nl, nl, nl, .int .i64 0, .bool false, nl]
def askS : Array Value := #[.int .i64 1, .int .i64 0, .int .i64 17, .int .i64 0, .int .u64 0, .int .i64 2, .int .i64 1, .int .i64 2, .bool false, nl, nl, nl, nl, nl, nl, .int .i64 0, .string ⟨#[]⟩, nl, nl, .int .i64 0, .int .i64 0, .string ⟨#[]⟩, nl, .bool false, .int .i64 0, .bool false, .string ⟨#[]⟩, .int .i64 0, .string ⟨#[]⟩, .string ⟨#[]⟩, nl, nl, nl, nl, nl, .int .i64 0, .bool false, nl]
def djZ : Array Value := #[.int .i64 2, .int .i64 0, .int .i64 0, .int .i64 0, .int .i64 0, .int .u64 0, .int .i64 0, .int .i64 0, .int .i64 0, .bool false, nl, nl, nl, nl, nl, nl, .int .i64 0, .string ⟨#[]⟩, nl, nl, .int .i64 0, .int .i64 0, .string ⟨#[]⟩, nl, .bool false, .int .i64 0, .bool false, .string ⟨#[]⟩, .int .i64 0, .string ⟨#[]⟩, .string ⟨#[]⟩, nl, nl, nl, nl, nl, .int .i64 0, .bool false, nl, .pointer none]
def djA : Array Value := #[.int .i64 2, .int .i64 1, .int .i64 0, .int .i64 17, .int .i64 0, .int .u64 0, .int .i64 2, .int .i64 1, .int .i64 2, .bool false, nl, nl, nl, nl, nl, nl, .int .i64 0, .string ⟨#[]⟩, nl, nl, .int .i64 0, .int .i64 0, .string ⟨#[]⟩, nl, .bool false, .int .i64 0, .bool false, .string ⟨#[]⟩, .int .i64 0, .string ⟨#[]⟩, .string ⟨#[]⟩, nl, nl, nl, nl, nl, .int .i64 0, .bool false, nl, .pointer none]
theorem Tryz.infoCmd2 : (Tryz.prog.info? 51).map (·.size) = some 25 := by kernel_rfl
theorem Tryz.infoOp2 : (Tryz.prog.info? 56).map (·.size) = some 11 := by kernel_rfl
theorem Tryz.infoAsk : (Tryz.prog.info? 69).map (·.size) = some 38 := by kernel_rfl
theorem Tryz.infoIx : (Tryz.prog.info? 49).map (·.size) = some 7 := by kernel_rfl
theorem Tryz.infoCat : (Tryz.prog.info? 29).map (·.size) = some 4 := by kernel_rfl

set_option maxRecDepth 100000 in
theorem cloneNil (w : World) : Calls Tryz.prog 31 #[.slice none 0 0] w fun e w' => e = .returned (.slice none 0 0) ∧ Below w.heap.size w w' := by
  have hE := fun (w : World) => Lib.run_eql_slice_nil (P := Tryz.prog) w 31 5 none 0 0 0 0 Tryz.underlying31
  go_enter Tryz.func31, Tryz.ntmps31
  go_wp2
  go_ret
  exact ⟨rfl, Below.refl _ _⟩

set_option maxRecDepth 100000 in
set_option maxHeartbeats 1600000 in
theorem ddlNew_any (w : World) : Calls Tryz.prog 16 #[.int .i64 2] w fun e w' => e = .returned (.pointer (some ⟨w.heap.size, 0, none⟩)) ∧ Blk w' w.heap.size 72 djZ ∧ Below w.heap.size w w' := by
  go_enter Tryz.func16, Tryz.ntmps16
  go_wp2
  go_ret
  exact ⟨rfl, Blk.new_ rfl, (Below.refl _ _).alloc (Nat.le_refl _) _⟩

theorem ix_cells {w : World} {g : Nat} {T : TypeId} {cA : Option Addr} {cn cc : Nat} (h : Blk w g T (ixCs cA cn cc)) : w.cell? ⟨g, 0, none⟩ = some (.int .i64 2) ∧ w.cell? ⟨g, 5, none⟩ = some (.int .i64 1) := ⟨h.cell 0, h.cell 5⟩

set_option maxRecDepth 100000 in
set_option maxHeartbeats 1600000 in
theorem schemaNext_any (cA : Option Addr) (cn cc : Nat) (w : World) : Calls Tryz.prog 33 #[.agg (ixCs cA cn cc)] w fun e w' => e = .returned (.int .i64 2) ∧ Below w.heap.size w w' := by
  go_enter Tryz.func33, Tryz.ntmps33
  go_upto_region 1 with fail
  refine name_world (fun w1 => Below w.heap.size w w1 ∧ Blk w1 w.heap.size 49 (ixCs cA cn cc)) ⟨(Below.refl _ _).alloc (Nat.le_refl _) _, Blk.new _ _ _⟩ ?_
  rintro w1 ⟨hB1, k1⟩
  obtain ⟨a0, a5⟩ := ix_cells k1
  go_wp2
  go_ret
  exact ⟨rfl, hB1⟩

/-- First, over one index that is not public -/
theorem first1_any (v n : Int) (tabs : Value) (cA : Option Addr) (cn cc : Nat) (b off c : Nat) (w : World) (hc : 1 ≤ c) (hcell : ∀ j u, (ixCs cA cn cc)[j]? = some u → w.cell? ⟨b, off + j, none⟩ = some u) :
    Calls Tryz.prog 10 #[.agg #[.int .i64 v, .int .i64 n, tabs, .slice (some ⟨b, off, none⟩) 1 c]] w fun e w' => e = .returned (.int .i64 2) ∧ Below w.heap.size w w' := by
  have x0 : w.cell? ⟨b, off, none⟩ = some (.int .i64 2) := hcell 0 _ rfl
  have x1 : w.cell? ⟨b, off + 1, none⟩ = some (.int .i64 1) := hcell 1 _ rfl
  have x2 : w.cell? ⟨b, off + 2, none⟩ = some (.string ⟨#[120]⟩) := hcell 2 _ rfl
  have x3 : w.cell? ⟨b, off + 3, none⟩ = some (.slice cA cn cc) := hcell 3 _ rfl
  have x4 : w.cell? ⟨b, off + 4, none⟩ = some (.bool false) := hcell 4 _ rfl
  have x5 : w.cell? ⟨b, off + 5, none⟩ = some (.int .i64 1) := hcell 5 _ rfl
  have x6 : w.cell? ⟨b, off + 6, none⟩ = some (.bool false) := hcell 6 _ rfl
  have hbl := World.block_lt_of_cell? w _ x0
  simp only at hbl
  clear hcell
  go_enter Tryz.func10, Tryz.ntmps10
  go_wp2
  go_loopw [8] (fun j wr => j = .int .i64 0 ∧ wr = w.alloc (.cells #[.int .i64 v, .int .i64 n, tabs, .slice (some ⟨b, off, none⟩) 1 c] 29)) (fun _ _ => 0)
  case atStart => exact ⟨rfl, rfl⟩
  case round =>
    obtain ⟨rfl, rfl⟩ := hrel
    have hal : Below w.heap.size w (w.alloc (.cells #[.int .i64 v, .int .i64 n, tabs, .slice (some ⟨b, off, none⟩) 1 c] 29)) := (Below.refl _ _).alloc (Nat.le_refl _) _
    have y0 := (hal.cell (p := ⟨b, off, none⟩) hbl).trans x0
    have y1 := (hal.cell (p := ⟨b, off + 1, none⟩) hbl).trans x1
    have y2 := (hal.cell (p := ⟨b, off + 2, none⟩) hbl).trans x2
    have y3 := (hal.cell (p := ⟨b, off + 3, none⟩) hbl).trans x3
    have y4 := (hal.cell (p := ⟨b, off + 4, none⟩) hbl).trans x4
    have y5 := (hal.cell (p := ⟨b, off + 5, none⟩) hbl).trans x5
    have y6 := (hal.cell (p := ⟨b, off + 6, none⟩) hbl).trans x6
    go_wp2
    go_ret
    exact ⟨rfl, hal.alloc hal.size _⟩
theorem first0_any (v n : Int) (tabs : Value) (w : World) :
    Calls Tryz.prog 10 #[.agg #[.int .i64 v, .int .i64 n, tabs, nl]] w fun e w' => e = .returned (.int .i64 0) ∧ Below w.heap.size w w' := by
  go_enter Tryz.func10, Tryz.ntmps10
  go_wp2
  go_loopw [8] (fun j wr => j = .int .i64 0 ∧ Below w.heap.size w wr) (fun _ _ => 0)
  case atStart => exact ⟨rfl, (Below.refl _ _).alloc (Nat.le_refl _) _⟩
  case round =>
    obtain ⟨rfl, hb⟩ := hrel
    go_wp2
    go_ret
    exact ⟨rfl, hb⟩
theorem ddlGot_nil (C : Array Value) (w : World) :
    Calls Tryz.prog 8 #[.pointer none, .agg C] w fun e w' => e = .returned (.int .i64 2) ∧ Below w.heap.size w w' := by
  go_enter Tryz.func8, Tryz.ntmps8
  go_wp2
  go_ret
  exact ⟨rfl, (Below.refl _ _).alloc (Nat.le_refl _) _⟩
theorem ddlRan_nil (C : Array Value) (w : World) :
    Calls Tryz.prog 9 #[.pointer none, .agg C] w fun e w' => e = .returned (.int .i64 2) ∧ Below w.heap.size w w' := by
  go_enter Tryz.func9, Tryz.ntmps9
  go_wp2
  go_ret
  exact ⟨rfl, (Below.refl _ _).alloc (Nat.le_refl _) _⟩
end Go.Proofs.YtdibkhphemfdeaaGreatDoor
