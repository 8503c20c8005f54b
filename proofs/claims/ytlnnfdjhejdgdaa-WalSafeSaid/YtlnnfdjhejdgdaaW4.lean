/- A write put together; contract: (*Disk).Write. -/
import Derived.Test.YtlnnfdjhejdgdaaW3
import Derived.Great.BuildSlice
namespace Go.Proofs.Ytlnnfdjhejdgdaa
open Go.RowKit

theorem fill_two (p : Nat → Option (Nat × Nat)) (Z : Array Value) (v0 v1 : Value) (a b : Nat) (h0 : p 0 = some (0, a)) (h1 : p 1 = some (a, b)) (s0 : v0.cells.size = a) (s1 : v1.cells.size = b) (hZ : Z.size = a + b) :
    Instr.fill p Z [(0, v0), (1, v1)] = some (v0.cells ++ v1.cells) := by
  unfold Instr.fill
  simp only [h0]
  have c0 : (v0.cells.size != a || decide (0 + v0.cells.size > Z.size)) = false := by simp [s0]; omega
  rw [if_neg (by simp [s0]; omega)]
  unfold Instr.fill
  simp only [h1]
  have hz1 : (v0.cells.zipIdx.foldl (fun cs (p : Value × Nat) => cs.setIfInBounds (0 + p.2) p.1) Z).size = a + b := by
    rw [← Array.length_toList, fill_part _ _ _ (by omega)]
    simp
    omega
  have hz2 : (v0.cells.zipIdx.foldl (fun cs (p : Value × Nat) => cs.setIfInBounds (0 + p.2) p.1) Z).toList = v0.cells.toList ++ Z.toList.drop a := by
    rw [fill_part _ _ _ (by omega)]
    simp [s0]
  rw [if_neg (by rw [hz1]; simp [s1])]
  unfold Instr.fill
  congr 1
  apply Array.ext'
  rw [fill_part _ _ _ (by rw [hz1]; omega), hz2]
  simp [s0, s1]
  omega
theorem fill_one (p : Nat → Option (Nat × Nat)) (Z : Array Value) (v0 : Value) (a : Nat) (h0 : p 0 = some (0, a)) (s0 : v0.cells.size = a) (hZ : Z.size = a) : Instr.fill p Z [(0, v0)] = some v0.cells := by
  unfold Instr.fill
  simp only [h0]
  rw [if_neg (by simp [s0]; omega)]
  unfold Instr.fill
  congr 1
  apply Array.ext'
  rw [fill_part _ _ _ (by omega)]
  simp [s0]
  omega
theorem Try.zeroWt (w : World) : (zeroValue 86).run Try.prog w = .ok (.agg (Array.replicate 65 undef |>.mapIdx fun i _ => if i = 0 then .int .i64 0 else .int .u8 0)) w := by kernel_rfl
theorem zWt_size : (Value.agg (Array.replicate 65 undef |>.mapIdx fun i _ => if i = 0 then .int .i64 0 else .int .u8 0)).cells.size = 65 := by simp [Value.cells]
theorem build_write (n : Int) (C : Array Value) (hC : C.size = 64) (w : World) : (Instr.build 86 #[(0, .int .i64 n), (1, .agg C)]).run Try.prog w = .ok (.agg (#[.int .i64 n] ++ C)) w := by
  unfold Instr.build
  simp only [Sem.run_bind, Try.zeroWt, Result.andThen_ok, run_underlying Try.underlying86]
  rw [show (Array.mapM (fun (f : Field) => (do let x ← sizeOf f.type; pure (f.offset, x) : Sem (Nat × Nat))) #[{ name := "at", type := 3, offset := 0, embedded := false, tag := "", pkgPath := "armoire/disk", byteOffset := 0 }, { name := "s", type := 84, offset := 1, embedded := false, tag := "", pkgPath := "armoire/disk", byteOffset := 8 }]).run Try.prog w = .ok #[(0, 1), (1, 64)] w by kernel_rfl]
  simp only [Result.andThen_ok]
  rw [fill_two _ _ (.int .i64 n) (.agg C) 1 64 rfl rfl rfl hC zWt_size]
  rfl
theorem Try.infoWt : (Try.prog.info? 86).map (fun i => (i.zero, i.size, i.bytes)) = some (some (.agg (Array.replicate 65 undef |>.mapIdx fun i _ => if i = 0 then .int .i64 0 else .int .u8 0)), 65, 72) := by kernel_rfl
theorem slice_write (C : Array Value) (hC : C.size = 65) (w : World) : (Instr.buildSlice 60 1 #[(0, .agg C)]).run Try.prog w = .ok (.slice (some ⟨w.heap.size, 0, none⟩) 1 1) (w.alloc (.cells C 86)) := by
  obtain ⟨i, hi, hz, hs, hb⟩ := info_parts Try.infoWt
  refine run_buildSlice w _ _ 1 _ C i _ Try.underlying60 hi hz (by rw [hs]; decide) (by rw [hs]; decide) ?_
  rw [hs]
  refine (fill_one _ _ (.agg C) 65 (by simp) hC (by simp)).trans rfl
end Go.Proofs.Ytlnnfdjhejdgdaa
