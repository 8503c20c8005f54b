/- Contract: (*Table).Drop at the locks of law 22. -/
import Derived.Test.YtikkknaofiafhaaM8
namespace Go.Proofs.Ytikkknaofiafhaa
open Go.RowKit

set_option maxRecDepth 100000 in
set_option maxHeartbeats 6400000 in
theorem tDrop_any {ok : Nat → Prop} (g : Nat) (o1 o2 l vT over f1 f2 gone : Value) (n : Int) (h : Option (List UInt8)) (w : World) (hg : Blk w g 90 (shCs o1 o2 l vT n over f1 f2 gone)) (hT : RSl rHe ok w vT h.toList) :
    Calls Try.prog 141 #[.pointer (some ⟨g, 3, none⟩), .int .u64 9] w fun e w' => (∃ A m c z, e = .returned (.tuple #[.agg #[.int .u64 z, nl, nl, .slice A m c], .bool h.isSome])) ∧ Kp (fun b => b ≠ g) w w' ∧ Blk w' g 90 (shCs o1 o2 l nl n over f1 f2 gone) := by
  have hgl := hg.lt
  go_enter Try.func141, Try.ntmps141
  go_upto_region 1 with fail
  refine name_world (fun w1 => Below w.heap.size w w1 ∧ Blk w1 w.heap.size 191 #[.int .u64 0, nl, nl, nl]) ⟨(Below.refl _ _).alloc (Nat.le_refl _) _, Blk.new _ _ _⟩ ?_
  rintro w1 ⟨hB1, k1⟩
  have kg1 := hg.below hB1 hgl
  have c3 : w1.cell? ⟨g, 3, none⟩ = some vT := kg1.cell 3
  go_wp2_with fail
  refine (tGet_any (ok := ok) g 3 vT h _ c3 (hT.below hB1)).mono ?_
  rintro e w2 ⟨⟨A1, n1, c1, z, rfl, _⟩, hb2⟩
  have hB2 := hB1.trans (hb2.mono hB1.size)
  have k2 := k1.below hb2 k1.lt
  have kg2 := kg1.below hb2 kg1.lt
  clear c3
  go_upto_region 2 with fail
  refine name_world (fun w3 => Below w.heap.size w w3 ∧ w.heap.size < w2.heap.size ∧ w2.heap.size < w3.heap.size ∧ Blk w3 w.heap.size 191 #[.int .u64 0, nl, nl, nl] ∧ Blk w3 w2.heap.size 191 #[.int .u64 z, nl, nl, .slice A1 n1 c1] ∧ Blk w3 g 90 (shCs o1 o2 l vT n over f1 f2 gone)) ⟨hB2.alloc hB2.size _, k2.lt, by simp, k2.alloc _, Blk.new _ _ _, kg2.alloc _⟩ ?_
  rintro w3 ⟨hB3, hz2, hz3, k3, kz3, kg3⟩
  clear k2 kg2 kg1 k1
  have c3 : w3.cell? ⟨g, 3, none⟩ = some vT := kg3.cell 3
  obtain ⟨x0, x1, x2, x3⟩ := cells4 kz3
  obtain ⟨y0, y1, y2, y3⟩ := cells4 k3
  have fg : ∀ i, w3.frozen? ⟨g, i, none⟩ = false := fun i => kg3.frozen i
  have fy : ∀ i, w3.frozen? ⟨w.heap.size, i, none⟩ = false := fun i => k3.frozen i
  have hne : w.heap.size ≠ g := by omega
  have hne2 : w2.heap.size ≠ g := by omega
  have hne3 : w2.heap.size ≠ w.heap.size := by omega
  have kgs := kg3.set_ 3 nl
  have kys := k3.far (p := ⟨g, 3, none⟩) hne nl
  have kzs := kz3.far (p := ⟨g, 3, none⟩) hne2 nl
  have hks : Kp (fun b => b ≠ g) w (w3.setCell ⟨g, 3, none⟩ nl) := (Kp.of_below hB3).setCell (fun _ h => h rfl) _
  have kfin := ((((kgs.far (p := ⟨w.heap.size, 0, none⟩) hne.symm (.int .u64 z)).far (p := ⟨w.heap.size, 1, none⟩) hne.symm nl).far (p := ⟨w.heap.size, 2, none⟩) hne.symm nl).far (p := ⟨w.heap.size, 3, none⟩) hne.symm (.slice A1 n1 c1))
  have hkf := (((hks.setCell (p := ⟨w.heap.size, 0, none⟩) (fun h => absurd h (by simp)) (.int .u64 z)).setCell (p := ⟨w.heap.size, 1, none⟩) (fun h => absurd h (by simp)) nl).setCell (p := ⟨w.heap.size, 2, none⟩) (fun h => absurd h (by simp)) nl).setCell (p := ⟨w.heap.size, 3, none⟩) (fun h => absurd h (by simp)) (.slice A1 n1 c1)
  obtain ⟨d0, d1, d2, d3⟩ := cells4 (set4' kys (.int .u64 z) nl nl (.slice A1 n1 c1))
  cases h with
  | none =>
    obtain ⟨A, c, rfl⟩ := he_nil hT
    go_wp2
    refine wp_loop_rounds 1 ?_
    rw [rounds_succ]
    go_wp2
    refine bodyPost_ret (v := .tuple #[.agg #[.int .u64 z, nl, nl, .slice A1 n1 c1], .bool false]) (by simp [results, Try.results141, go_sem, d0, d1, d2, d3]) rfl ?_
    exact ⟨⟨_, _, _, _, rfl⟩, hkf, by simpa using kfin⟩
  | some k =>
    obtain ⟨b, off, c, ws, rfl, hc1, _, q0, q1, q2, q3, hw⟩ := he_open hT
    have hbl : b < w.heap.size := World.block_lt_of_cell? w ⟨b, off, none⟩ q0
    have p0 := (hB3.cell (p := ⟨b, off, none⟩) hbl).trans q0
    clear q0 q1 q2 q3
    go_wp2
    refine wp_loop_rounds 2 ?_
    rw [rounds_succ]
    go_wp2
    rw [rounds_succ]
    go_wp2
    refine bodyPost_ret (v := .tuple #[.agg #[.int .u64 z, nl, nl, .slice A1 n1 c1], .bool true]) (by simp [results, Try.results141, go_sem, d0, d1, d2, d3]) rfl ?_
    exact ⟨⟨_, _, _, _, rfl⟩, hkf, by simpa using kfin⟩
end Go.Proofs.Ytikkknaofiafhaa
