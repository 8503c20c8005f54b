/- armoirelaw03.TupleJoin: for every input the law returns true, and the arguments read afterwards as before. No condition. -/
import Derived.Test.YtikkknaofiafhaaLJoin
import Derived.Test.YtikkknaofiafhaaOpen
namespace Go.Proofs.Ytikkknaofiafhaa
open Go.ChangeShapes Go.WideShapes Go.ChangeAt Go.RowKit

set_option maxRecDepth 100000 in
theorem tupleJoin_lifted (os : Os) (started : os.Started) (H : Type) (enc : TypeId × Value → H) :
    ReturnsInHanded {} Try.checked os 9 .any (Rows.tupleJoinSpec.pre6 enc Try.prog Try.f9 Rows.tupleJoinRow.domain false) (Rows.tupleJoinSpec.post enc Try.prog Try.f9 false true false false) := by
  refine returnsInHanded_of_change_sized (C := Try.checked) Try.own started (by kernel_rfl) Try.func9
    (ChangeSpec.witness6 (enc := enc) (C := Try.checked) false ⟨#[], #[.slice none 0 0, .slice none 0 0], []⟩ 8 (by kernel_rfl) (by kernel_rfl) (by kernel_rfl) (by kernel_rfl)) ?_
  intro W base args ds gs before hval0 hW _ hsz0 _
  have hsz : (DataW.weightsEach Try.prog (Try.f9.params.toList ++ Rows.tupleJoinSpec.plain.varTypes Try.prog) (ds ++ gs)).all (· ≤ reachBytes) = true := hsz0
  clear hsz0
  have hval : ∀ (j : Nat) t v, Try.f9.params[j]? = some t → args[j]? = some v → Value.okWide Try.prog W .any base t v := hval0
  have hW' : DataW.Whole enc Try.prog Try.f9.params.toList Rows.tupleJoinSpec.vars false W args.toList ds gs before := hW
  obtain ⟨p, q, hA0, hV, rfl, _, _⟩ := hW
  have hA : DataW.TrodAll enc Try.prog W 0 (fun _ => true) true Try.f9.params.toList args.toList ds p := hA0
  rw [Try.params9] at hA hval hsz
  obtain ⟨v0, v1, d0, d1, p0, p1, rfl, rfl, rfl, h0, h1⟩ := trodAll_two hA
  obtain ⟨rfl, rfl⟩ := trodVars_none hV
  obtain ⟨A0, n0, c0, l0, rfl, hc0, _, r0, ok0, e0⟩ := open_vals (hval 0 22 v0 rfl rfl) h0
  have b0 : n0 ≤ 4398046511104 := by
    rcases e0 with h | ⟨el, sp, rfl, hl⟩
    · omega
    · have := sized_slice hsz (j := 0) (t := 22) (e := 24) rfl rfl Try.underlying22
      rw [Try.bytesVal, hl] at this
      simp only [reachBytes] at this
      omega
  obtain ⟨A1, n1, c1, l1, rfl, hc1, _, r1, ok1, e1⟩ := open_vals (hval 1 22 v1 rfl rfl) h1
  have b1 : n1 ≤ 4398046511104 := by
    rcases e1 with h | ⟨el, sp, rfl, hl⟩
    · omega
    · have := sized_slice hsz (j := 1) (t := 22) (e := 24) rfl rfl Try.underlying22
      rw [Try.bytesVal, hl] at this
      simp only [reachBytes] at this
      omega
  refine (lawJoin A0 A1 n0 c0 n1 c1 l0 l1 W r0 r1 b0 b1 ok0 ok1).mono fun e W' ⟨he, hb⟩ => ⟨_, he, ?_⟩
  exact law_end (T := 4) Try.laidOut (by kernel_rfl) rfl (by kernel_rfl) Try.underlying4 hW' rfl rfl rfl hb

theorem tupleJoin_holds : Rows.TupleJoinSaid :=
  OpenClaim.holds_of_wide 9 Try.f9 rfl rfl rfl rfl rfl rfl rfl ⟨rfl, rfl, rfl, rfl, rfl⟩ rfl rfl rfl rfl rfl (by kernel_rfl) Try.func9 (by kernel_rfl)
    (of_decide_eq_true (by kernel_rfl)) (by unfold Func.isWrapper; rw [if_neg (of_decide_eq_false (by kernel_rfl))]; exact ⟨rfl, rfl⟩)
    (fun os started H enc _ => tupleJoin_lifted os started H enc)
#print axioms tupleJoin_holds
end Go.Proofs.Ytikkknaofiafhaa
