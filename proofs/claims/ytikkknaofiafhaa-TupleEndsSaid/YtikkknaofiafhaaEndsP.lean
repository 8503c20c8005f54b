/- armoirelaw03.TupleEnds: for every input the law returns true, and the arguments read afterwards as before. No condition. -/
import Derived.Test.YtikkknaofiafhaaLEnds
import Derived.Test.YtikkknaofiafhaaOpen
namespace Go.Proofs.Ytikkknaofiafhaa
open Go.ChangeShapes Go.WideShapes Go.ChangeAt Go.RowKit

set_option maxRecDepth 100000 in
theorem tupleEnds_lifted (os : Os) (started : os.Started) (H : Type) (enc : TypeId × Value → H) :
    ReturnsInHanded {} Try.checked os 5 .any (Rows.tupleEndsSpec.pre6 enc Try.prog Try.f5 Rows.tupleEndsRow.domain false) (Rows.tupleEndsSpec.post enc Try.prog Try.f5 false true false false) := by
  refine returnsInHanded_of_change_sized (C := Try.checked) Try.own started (by kernel_rfl) Try.func5
    (ChangeSpec.witness6 (enc := enc) (C := Try.checked) false ⟨#[], #[.slice none 0 0, .slice none 0 0, .slice none 0 0], []⟩ 8 (by kernel_rfl) (by kernel_rfl) (by kernel_rfl) (by kernel_rfl)) ?_
  intro W base args ds gs before hval0 hW _ hsz0 _
  have hsz : (DataW.weightsEach Try.prog (Try.f5.params.toList ++ Rows.tupleEndsSpec.plain.varTypes Try.prog) (ds ++ gs)).all (· ≤ reachBytes) = true := hsz0
  clear hsz0
  have hval : ∀ (j : Nat) t v, Try.f5.params[j]? = some t → args[j]? = some v → Value.okWide Try.prog W .any base t v := hval0
  have hW' : DataW.Whole enc Try.prog Try.f5.params.toList Rows.tupleEndsSpec.vars false W args.toList ds gs before := hW
  obtain ⟨p, q, hA0, hV, rfl, _, _⟩ := hW
  have hA : DataW.TrodAll enc Try.prog W 0 (fun _ => true) true Try.f5.params.toList args.toList ds p := hA0
  rw [Try.params5] at hA hval hsz
  obtain ⟨v0, v1, v2, d0, d1, d2, p0, p1, p2, rfl, rfl, rfl, h0, h1, h2⟩ := trodAll_three hA
  obtain ⟨rfl, rfl⟩ := trodVars_none hV
  obtain ⟨A0, n0, c0, l0, rfl, hc0, _, r0, e0⟩ := open_bytes (hval 0 27 v0 rfl rfl) h0
  have b0 : n0 ≤ 140737488351232 := by
    rcases e0 with h | ⟨el, sp, rfl, hl⟩
    · omega
    · have := sized_slice hsz (j := 0) (t := 27) (e := 5) rfl rfl Try.underlying27
      rw [Try.bytesU8, hl] at this
      simp only [reachBytes] at this
      omega
  obtain ⟨A1, n1, c1, l1, rfl, hc1, _, r1, e1⟩ := open_bytes (hval 1 27 v1 rfl rfl) h1
  have b1 : n1 ≤ 140737488351232 := by
    rcases e1 with h | ⟨el, sp, rfl, hl⟩
    · omega
    · have := sized_slice hsz (j := 1) (t := 27) (e := 5) rfl rfl Try.underlying27
      rw [Try.bytesU8, hl] at this
      simp only [reachBytes] at this
      omega
  obtain ⟨A2, n2, c2, l2, rfl, hc2, _, r2, e2⟩ := open_bytes (hval 2 27 v2 rfl rfl) h2
  have b2 : n2 ≤ 140737488351232 := by
    rcases e2 with h | ⟨el, sp, rfl, hl⟩
    · omega
    · have := sized_slice hsz (j := 2) (t := 27) (e := 5) rfl rfl Try.underlying27
      rw [Try.bytesU8, hl] at this
      simp only [reachBytes] at this
      omega
  refine (lawEnds A0 A1 A2 n0 c0 n1 c1 n2 c2 l0 l1 l2 W r0 r1 r2 hc0 hc2).mono fun e W' ⟨he, hb⟩ => ⟨_, he, ?_⟩
  exact law_end (T := 4) Try.laidOut (by kernel_rfl) rfl (by kernel_rfl) Try.underlying4 hW' rfl rfl rfl hb

theorem tupleEnds_holds : Rows.TupleEndsSaid :=
  OpenClaim.holds_of_wide 5 Try.f5 rfl rfl rfl rfl rfl rfl rfl ⟨rfl, rfl, rfl, rfl, rfl⟩ rfl rfl rfl rfl rfl (by kernel_rfl) Try.func5 (by kernel_rfl)
    (of_decide_eq_true (by kernel_rfl)) (by unfold Func.isWrapper; rw [if_neg (of_decide_eq_false (by kernel_rfl))]; exact ⟨rfl, rfl⟩)
    (fun os started H enc _ => tupleEnds_lifted os started H enc)
#print axioms tupleEnds_holds
end Go.Proofs.Ytikkknaofiafhaa
