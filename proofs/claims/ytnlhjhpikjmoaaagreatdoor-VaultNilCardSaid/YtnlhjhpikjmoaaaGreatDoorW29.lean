/- slices.Chunk and its iterator. -/
import Derived.Test.YtnlhjhpikjmoaaaGreatDoorW28
import Derived.Test.YtnlhjhpikjmoaaaGreatDoorCat
import Derived.Shelf.Abstract
import Derived.Shelf.RegionOpen
import Derived.OwnWalkIn
import Derived.TacticsInMore
import Derived.LoopNIn
import Derived.LoopIn
namespace Go.Proofs.YtnlhjhpikjmoaaaGreatDoor
open Go.RowKit Go.Shelf
attribute [local go_sem] Oper.semAt_some

/-- how long chunk k is -/
def ckN (n k : Nat) : Nat := min 48 (n - 48 * k)
def ckV (b off n k : Nat) : Value := .slice (some ⟨b, off + 48 * k, none⟩) (ckN n k) (ckN n k)
def KqC (b0 b1 : Nat) (W W' : World) : Prop := (∀ u, W.cell? ⟨b0, 0, none⟩ = some u → W'.cell? ⟨b0, 0, none⟩ = some u) ∧ (∀ u, W.cell? ⟨b1, 0, none⟩ = some u → W'.cell? ⟨b1, 0, none⟩ = some u)
set_option maxRecDepth 100000 in
set_option maxHeartbeats 3200000 in
theorem chunk1_in (n : Nat) (hn : 1 ≤ n) (l b0 b1 b off len cap : Nat) (hlen : len ≤ 1000000) (hcap : len ≤ cap) (J Jx : List Nat → World → Prop)
    (hJ : ∀ s W W', J s W → Below W.heap.size W W' → J s W')
    (hY : ∀ pre x W, J pre W → pre.length < (len + 47) / 48 → YieldAt Fence.wide (n - 1) Tryz.prog l #[ckV b off len x] W fun e W' =>
      (e = .returned (.bool true) ∧ J (pre ++ [x]) W' ∧ KqC b0 b1 W W') ∨ (e = .returned (.bool false) ∧ Jx (pre ++ [x]) W'))
    (W : World) (h0 : W.cell? ⟨b0, 0, none⟩ = some (.slice (some ⟨b, off, none⟩) len cap)) (h1 : W.cell? ⟨b1, 0, none⟩ = some (.int .i64 48)) (hJ0 : J [] W) :
    CallsIn Fence.wide n Tryz.prog 108 #[.func (.yield l) #[] #[], .pointer (some ⟨b0, 0, none⟩), .pointer (some ⟨b1, 0, none⟩)] W fun e W' => (∃ v, e = .returned v) ∧
      ((∃ ys, ys = List.range ((len + 47) / 48) ∧ J ys W') ∨ (∃ pre, (∃ k, k ≤ (len + 47) / 48 ∧ pre = List.range k) ∧ Jx pre W')) := by
  refine callsIn_of_wp Tryz.func108 rfl trivial ?_ rfl
  simp only [Tryz.ntmps108, List.size_toArray, List.length_cons, List.length_nil, Nat.reduceAdd, Nat.reduceSub, Array.replicate_succ, Array.replicate_zero, List.push_toArray, List.append_toArray, List.nil_append, List.cons_append]
  gi_wp2
  gi_loopw [4] (fun i wr => ∃ k : Nat, k ≤ (len + 47) / 48 ∧ i = .int .i64 (48 * (k : Int)) ∧ J (List.range k) wr ∧ wr.cell? ⟨b0, 0, none⟩ = some (.slice (some ⟨b, off, none⟩) len cap) ∧ wr.cell? ⟨b1, 0, none⟩ = some (.int .i64 48)) (fun i _ => 2 * len + 100 - (intOf i).toNat)
  case atStart => exact ⟨0, Nat.zero_le _, rfl, hJ0, h0, h1⟩
  case round =>
    obtain ⟨k, hk, rfl, hJs, hc0, hc1⟩ := hrel
    by_cases hlt : 48 * k < len
    · have t0 : decide (48 * (k : Int) < (len : Int)) = true := decide_eq_true (by omega)
      have y0 : ∀ s : Later wr, s.val.cell? ⟨b0, 0, none⟩ = some (.slice (some ⟨b, off, none⟩) len cap) := Later.cell hc0
      have y1 : ∀ s : Later wr, s.val.cell? ⟨b1, 0, none⟩ = some (.int .i64 48) := Later.cell hc1
      have r1 : 48 * k ≤ len := by omega
      have r2 : 48 * (k : Int) ≤ (len : Int) := by omega
      have r3 : (0 : Int) ≤ 48 * (k : Int) := by omega
      gi_wp2
      refine wpIn_wide.2 ?_
      refine wp_seqL [] (by as_aux_lemma => kernel_rfl) (by as_aux_lemma => kernel_rfl) fun w2 hb2 => ?_
      refine seqL_pre 7 (by kernel_rfl) ?_
      simp only [List.take_succ_cons, List.take_zero, List.drop_succ_cons, List.drop_zero]
      repeat (go_big_quiet_step (fail))
      refine wpQuiet_nil ?_
      refine seqL_nil ?_
      have hck : (if ((len - 48 * k : Nat) : Int) < 48 then ((len - 48 * k : Nat) : Int) else 48) = ((ckN len k : Nat) : Int) := by
        unfold ckN
        split <;> omega
      rw [hck]
      obtain ⟨m, hm⟩ : ∃ m, m = ckN len k := ⟨_, rfl⟩
      have hm1 : 48 * k + m ≤ len := by rw [hm]; unfold ckN; omega
      have hm2 : (48 * (k : Int) + (m : Int)) ≤ (len : Int) := by omega
      have hm3 : m ≤ 48 := by rw [hm]; unfold ckN; omega
      have hm4 : ¬ m = 0 := by rw [hm]; unfold ckN; omega
      have hm5 : 0 < m := by omega
      have hJ2 := hJ _ _ _ hJs hb2
      have d0 := y0 ⟨w2, hb2⟩
      have d1 := y1 ⟨w2, hb2⟩
      obtain ⟨fn, tmps, assign, body, hy, hR⟩ := hY (List.range k) k w2 hJ2 (by rw [List.length_range]; omega)
      unfold ckV at hy
      rw [← hm] at hy ⊢
      have HM := Lib.hid hm
      clear hck hm y0 y1
      simp only at d0 d1
      gi_wp2
      refine hR.mono ?_
      rintro e W3 (⟨rfl, hJ3, hk3⟩ | ⟨rfl, hJx3⟩)
      · have e0 := hk3.1 _ d0
        have e1 := hk3.2 _ d1
        clear d0 d1
        gi_wp2
        go_roundw
        case rel => exact ⟨k + 1, by omega, by go_num, by rw [List.range_succ]; exact hJ3, e0, e1⟩
        case measure => simp [intOf]; omega
      · clear d0 d1
        gi_wp2
        refine bodyPost_ret (results_none rfl _ _ _) rfl ?_
        exact ⟨⟨_, rfl⟩, .inr ⟨_, ⟨k + 1, by omega, (List.range_succ).symm⟩, hJx3⟩⟩
    · obtain rfl : k = (len + 47) / 48 := by omega
      have t0 : decide (48 * (((len + 47) / 48 : Nat) : Int) < (len : Int)) = false := decide_eq_false (by omega)
      gi_wp2
      go_end0
      exact ⟨⟨_, rfl⟩, .inl ⟨_, rfl, hJs⟩⟩
theorem chunk_stops (n : Nat) (hn : 1 ≤ n) (b0 b1 b off len cap : Nat) (hlen : len ≤ 1000000) (hcap : len ≤ cap) (w : World) (h0 : w.cell? ⟨b0, 0, none⟩ = some (.slice (some ⟨b, off, none⟩) len cap)) (h1 : w.cell? ⟨b1, 0, none⟩ = some (.int .i64 48)) :
    SeqStopsK Fence.wide n Tryz.prog 108 #[.pointer (some ⟨b0, 0, none⟩), .pointer (some ⟨b1, 0, none⟩)] (fun k : Nat => #[ckV b off len k]) (KqC b0 b1) (fun ys => ys = List.range ((len + 47) / 48)) (fun pre => ∃ k, k ≤ (len + 47) / 48 ∧ pre = List.range k) ((len + 47) / 48) w := fun l J Jx W hW hJ _ hY hj => by
  have hb0 := World.block_lt_of_cell? w _ h0
  have hb1 := World.block_lt_of_cell? w _ h1
  exact chunk1_in n hn l b0 b1 b off len cap hlen hcap J Jx (fun s X Y hs hb => hJ s X Y none hs ⟨hb.os, hb.tape, hb.output, hb.size, fun k hk _ => hb.block k hk⟩ (fun r e => by cases e)) hY W ((hW.cell (p := ⟨b0, 0, none⟩) hb0).trans h0) ((hW.cell (p := ⟨b1, 0, none⟩) hb1).trans h1) hj
set_option maxRecDepth 100000 in
theorem chunk_any (A : Option Addr) (n c : Nat) (w : World) : Calls Tryz.prog 100 #[.slice A n c, .int .i64 48] w fun e w' =>
    e = .returned (.func (.func 108) #[] #[.pointer (some ⟨w.heap.size, 0, none⟩), .pointer (some ⟨w.heap.size + 1, 0, none⟩)]) ∧ Below w.heap.size w w' ∧ w.heap.size + 2 ≤ w'.heap.size ∧ w'.cell? ⟨w.heap.size, 0, none⟩ = some (.slice A n c) ∧ w'.cell? ⟨w.heap.size + 1, 0, none⟩ = some (.int .i64 48) := by
  go_enter Tryz.func100, Tryz.ntmps100
  go_wp2
  go_ret
  exact ⟨rfl, ((Below.refl _ _).alloc (Nat.le_refl _) _).alloc (by simp) _, by simp, ((Blk.new w _ _).alloc _).cell 0, (Blk.new_ (by simp)).cell 0⟩
end Go.Proofs.YtnlhjhpikjmoaaaGreatDoor
