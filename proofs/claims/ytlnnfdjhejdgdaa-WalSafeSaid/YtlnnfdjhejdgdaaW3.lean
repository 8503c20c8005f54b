/- Structs and slices put together of parts of many cells. Contract: disk.New. -/
import Derived.Test.YtlnnfdjhejdgdaaW2
namespace Go.Proofs.Ytlnnfdjhejdgdaa
open Go.RowKit

theorem zipFold : ∀ (vs : List Value) (k off : Nat) (cs : Array Value), off + k + vs.length ≤ cs.size → ((vs.zipIdx k).foldl (fun (cs : Array Value) (p : Value × Nat) => cs.setIfInBounds (off + p.2) p.1) cs).toList = cs.toList.take (off + k) ++ vs ++ cs.toList.drop (off + k + vs.length)
  | [], k, off, cs, _ => by simp
  | v :: vs, k, off, cs, h => by
    have ih := zipFold vs (k + 1) off (cs.setIfInBounds (off + k) v) (by simp only [Array.size_setIfInBounds]; simp at h; omega)
    rw [List.zipIdx_cons, List.foldl_cons, ih, Array.toList_setIfInBounds]
    have hk : off + k < cs.toList.length := by simp at h ⊢; omega
    rw [show off + (k + 1) = (off + k) + 1 by omega, List.drop_set_of_lt (by omega), List.take_succ_eq_append_getElem (by simpa using hk), List.take_set_of_le (Nat.le_refl _), List.getElem_set_self]
    simp only [List.append_assoc, List.singleton_append, List.length_cons]
    rw [show off + k + 1 + vs.length = off + k + (vs.length + 1) by omega]
theorem fill_part (vs cs : Array Value) (off : Nat) (h : off + vs.size ≤ cs.size) : (vs.zipIdx.foldl (fun cs (p : Value × Nat) => cs.setIfInBounds (off + p.2) p.1) cs).toList = cs.toList.take off ++ vs.toList ++ cs.toList.drop (off + vs.size) := by
  have := zipFold vs.toList 0 off cs (by simpa using h)
  rw [← Array.foldl_toList, Array.toList_zipIdx]
  simpa using this
theorem Try.infoSec : (Try.prog.info? 84).map (fun i => (i.zero, i.size, i.bytes)) = some (some (.agg (Array.replicate 64 (.int .u8 0))), 64, 64) := by kernel_rfl
theorem zero_sectors : ∀ n : Nat, secCells (List.replicate n (List.replicate 64 0)) = List.replicate (n * 64) (.int .u8 0)
  | 0 => rfl
  | n + 1 => by
    rw [List.replicate_succ, secCells, zero_sectors n, show bs (List.replicate 64 0) = List.replicate 64 (.int .u8 0) by simp [bs], List.replicate_append_replicate]
    congr 1
    omega
theorem made_sectors (n : Nat) : madeCells (Array.replicate 64 (.int .u8 0)) (n * 64) = (secCells (List.replicate n (List.replicate 64 0))).toArray := by
  rw [zero_sectors]
  apply Array.ext
  · simp [madeCells]
  · intro i h1 h2
    simp only [madeCells, Array.getElem_map, Array.getElem_range, Array.size_replicate, List.getElem_toArray, List.getElem_replicate]
    rw [getElem!_pos _ _ (by simp; omega), Array.getElem_replicate]
theorem newD_ok (n : Nat) : (newD n).Ok := ⟨fun s hs => by
  have := List.eq_of_mem_replicate hs
  rw [this]; rfl, fun p hp => by cases hp⟩
set_option maxRecDepth 100000 in
theorem dNew_any (n : Nat) (h1 : 1 ≤ n) (h2 : n ≤ 65536) (w : World) : Calls Try.prog 8 #[.int .i64 (n : Int)] w fun e w' => (∃ g, e = .returned (.tuple #[.pointer (some ⟨g, 0, none⟩), .int .i64 0]) ∧ w.heap.size ≤ g ∧ DiskR (fun b => w.heap.size ≤ b) w' g (newD n)) ∧ Below w.heap.size w w' := by
  obtain ⟨i, hi, hz, hs, hb⟩ := info_parts Try.infoSec
  have hm := run_make (P := Try.prog) w 59 84 i _ Try.underlying59 hi hz .i64 .i64 (n : Int) (n : Int) (by omega) (Int.le_refl _) (by rw [hb]; omega) (by omega)
  have hm2 : (Instr.makeSlice 59 (.int .i64 (n : Int)) (.int .i64 (n : Int))).run Try.prog w = .ok (.slice (some ⟨w.heap.size, 0, none⟩) n n) (w.alloc (.cells (secCells (List.replicate n (List.replicate 64 0))).toArray 84)) := by
    rw [hm, hs]
    simp only [Int.toNat_natCast]
    rw [← made_sectors]
    rfl
  clear hm
  have t1 : decide ((n : Int) < 1) = false := decide_eq_false (by omega)
  have t2 : decide ((65536 : Int) < (n : Int)) = false := decide_eq_false (by omega)
  have t3 : decide ((n : Int) ≤ 0) = false := decide_eq_false (by omega)
  obtain ⟨C, hC⟩ : ∃ C, C = (secCells (List.replicate n (List.replicate 64 0))).toArray := ⟨_, rfl⟩
  rw [← hC] at hm2
  have HC := Lib.hid hC
  clear hC hi hz hs hb
  go_enter Try.func8, Try.ntmps8
  go_wp2
  go_ret2
  have hal : Below w.heap.size w ((w.alloc (.cells C 84)).alloc (.cells #[.slice (some ⟨w.heap.size, 0, none⟩) n n, .slice none 0 0, .bool false, .int .i64 0] 62)) := ((Below.refl _ _).alloc (Nat.le_refl _) _).alloc (by simp) _
  refine ⟨⟨w.heap.size + 1, rfl, by omega, w.heap.size, .slice none 0 0, ?_, ?_, OwnL.nil_ _ _ _ _ _, by omega, by simp [Value.ownBlock], by simp [Value.ownBlock], by omega, Nat.le_refl _, (fun b hb => by cases hb), newD_ok n, ?_⟩, hal⟩
  · have : Blk ((w.alloc (.cells C 84)).alloc (.cells #[.slice (some ⟨w.heap.size, 0, none⟩) n n, .slice none 0 0, .bool false, .int .i64 0] 62)) (w.heap.size + 1) 62 #[.slice (some ⟨w.heap.size, 0, none⟩) n n, .slice none 0 0, .bool false, .int .i64 0] := Blk.new_ (by simp)
    simpa [newD] using this
  · have : Blk ((w.alloc (.cells C 84)).alloc (.cells #[.slice (some ⟨w.heap.size, 0, none⟩) n n, .slice none 0 0, .bool false, .int .i64 0] 62)) w.heap.size 84 C := (Blk.new w _ _).alloc _
    rw [HC.out] at this ⊢
    exact this
  · simp [newD]
    omega
end Go.Proofs.Ytlnnfdjhejdgdaa
