/- Contract: law 13's awake. -/
import Derived.Test.YthjicmdmhmffmaaDoorR10
namespace Go.Proofs.YthjicmdmhmffmaaDoor
open Go.RowKit

def tD : TabD := ⟨1, ⟨#[116]⟩, [⟨⟨#[97]⟩, 1, false⟩], [0]⟩
def k5 : List Val := [⟨1, 5, ⟨#[]⟩⟩]
def k0 : List Val := [⟨1, 0, ⟨#[]⟩⟩]
theorem RV.one_ {ok : Nat → Prop} {w : World} (x : Val) (h : x.ok) (ho : ok w.heap.size) : RV ok (w.alloc (.cells #[.int .i64 x.k, .int .i64 x.i, .string x.s] 38)) (.slice (some ⟨w.heap.size, 0, none⟩) 1 1) [x] :=
  RSl.one_new (E := rVal) _ ⟨rfl, h⟩ ho (by decide)
theorem right1 (i : Int) : rightB 1 i ⟨#[]⟩ = true := by simp [rightB, ByteArray.toList_eq]
theorem name5 : nameB tD k5 = [114, 2, 128, 0, 0, 0, 0, 0, 0, 1, 2, 128, 0, 0, 0, 0, 0, 0, 5] := by
  have hf : fitAll tD tD.key k5 = true := by simp [fitAll, fitC, tD, k5, right1]
  have he : encSpec k5 = (encL k5, 0) := by simp [encSpec, allRight, Val.right, k5, right1]
  unfold nameB
  rw [if_pos hf, he]
  decide
theorem may0 : mayAll tD.cols k0 = true := by simp [mayAll, mayC, tD, k0, right1]
set_option maxRecDepth 100000 in
set_option maxHeartbeats 3200000 in
theorem awakeRow_any (w : World) :
    Calls Tryd.prog 4 #[] w fun e w' => e = .returned (.bool true) ∧ Below w.heap.size w w' := by
  go_enter Tryd.func4, Tryd.ntmps4
  go_upto_region 2 with fail
  refine name_world (fun w1 => Below w.heap.size w w1 ∧ w.heap.size + 3 ≤ w1.heap.size ∧ Blk w1 (w.heap.size + 2) 25 #[.int .i64 1, .string ⟨#[116]⟩, .slice (some ⟨w.heap.size, 0, none⟩) 1 1, .slice (some ⟨w.heap.size + 1, 0, none⟩) 1 1] ∧ TabR (fun _ => True) w1 (.slice (some ⟨w.heap.size, 0, none⟩) 1 1) (.slice (some ⟨w.heap.size + 1, 0, none⟩) 1 1) tD)
    ⟨(((Below.refl _ _).alloc (Nat.le_refl _) _).alloc (by simp) _).alloc (by simp; omega) _, by simp, Blk.new_ (by simp), ?_⟩ ?_
  · refine ⟨?_, ?_, ⟨by decide, by decide⟩, by decide⟩
    · exact ((RSl.one_new (ok := fun _ => True) (E := rCol) _ ⟨rfl, ⟨by decide, by decide⟩, by decide⟩ trivial (by decide)).below ((Below.refl _ _).alloc (Nat.le_refl _) _)).below ((Below.refl _ _).alloc (Nat.le_refl _) _)
    · have h := RSl.one_new (ok := fun _ => True) (E := rInt) (w := w.alloc (.cells #[.string ⟨#[97]⟩, .int .i64 1, .bool false] 52)) (cs := #[.int .i64 0]) (d := 0) 3 ⟨rfl, ⟨by decide, by decide⟩⟩ trivial (by decide)
      rw [World.size_alloc] at h
      exact h.below ((Below.refl _ _).alloc (Nat.le_refl _) _)
  rintro w1 ⟨hb1, hz1, kt, ht⟩
  obtain ⟨z0, z1, z2, z3⟩ := set4_cells kt
  have j0 := fun o => alloc1 z0 o
  have j1 := fun o => alloc1 z1 o
  have j2 := fun o => alloc1 z2 o
  have j3 := fun o => alloc1 z3 o
  go_wp2_with fail
  refine (name_any tD _ _ _ k5 _ (ht.below ((Below.refl _ _).alloc (Nat.le_refl _) _)) (RV.one_ (ok := fun _ => True) ⟨1, 5, ⟨#[]⟩⟩ ⟨by decide, by decide⟩ trivial)).mono ?_
  rintro e w2 ⟨⟨v, rfl, hv⟩, hb2⟩
  have hb12 := ((Below.refl w1.heap.size w1).alloc (Nat.le_refl _) (.cells #[.int .i64 1, .int .i64 5, .string ⟨#[]⟩] 38)).trans (hb2.mono (by simp))
  have hB2 := hb1.trans (hb12.mono hb1.size)
  have kt2 := kt.below hb12 kt.lt
  have ht2 := ht.below hb12
  rw [name5] at hv
  obtain ⟨b1, off1, c1', cs1, rfl, _, rfl, hcell1⟩ := hv.at_ (i := 0) (by decide)
  obtain ⟨b2, off2, c2', cs2, hv2, _, rfl, hcell2⟩ := hv.at_ (i := 18) (by decide)
  simp only [Value.slice.injEq, Option.some.injEq, Addr.mk.injEq, true_and, and_true] at hv2
  obtain ⟨⟨rfl, rfl⟩, rfl⟩ := hv2
  have p0 := hcell1 0 _ rfl
  have p1 := hcell2 0 _ rfl
  simp only [Nat.add_zero, Nat.zero_mul, show rU8.sz = 1 from rfl, Nat.mul_one, List.getElem_cons_zero, List.getElem_cons_succ, List.length_cons, List.length_nil] at p0 p1
  clear hcell1 hcell2
  obtain ⟨y0, y1, y2, y3⟩ := set4_cells kt2
  have q0 := fun o => alloc1 y0 o
  have q1 := fun o => alloc1 y1 o
  have q2 := fun o => alloc1 y2 o
  have q3 := fun o => alloc1 y3 o
  clear j0 j1 j2 j3 z0 z1 z2 z3
  simp only [List.length_cons, List.length_nil]
  go_wp2_with fail
  refine (rowRight_any tD _ _ _ k0 _ (ht2.below ((Below.refl _ _).alloc (Nat.le_refl _) _)) (RV.one_ (ok := fun _ => True) ⟨1, 0, ⟨#[]⟩⟩ ⟨by decide, by decide⟩ trivial)).mono ?_
  rw [may0]
  rintro e w3 ⟨rfl, hb3⟩
  have hB3 := hB2.trans (((Below.refl w2.heap.size w2).alloc (Nat.le_refl _) _).trans (hb3.mono (by simp)) |>.mono hB2.size)
  go_wp2
  go_ret
  exact ⟨rfl, hB3⟩
end Go.Proofs.YthjicmdmhmffmaaDoor
