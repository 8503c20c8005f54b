/- armoirelaw03.TupleBegins: for every input the law returns true, and the arguments read afterwards as before. No condition. -/
import Derived.Test.YtikkknaofiafhaaLBegins
import Derived.Test.YtikkknaofiafhaaOpen
namespace Go.Proofs.Ytikkknaofiafhaa
open Go.ChangeShapes Go.WideShapes Go.ChangeAt Go.RowKit

set_option maxRecDepth 100000 in
theorem tupleBegins_lifted (os : Os) (started : os.Started) (H : Type) (enc : TypeId × Value → H) :
    ReturnsInHanded {} Try.checked os 4 .any (Rows.tupleBeginsSpec.pre6 enc Try.prog Try.f4 Rows.tupleBeginsRow.domain false) (Rows.tupleBeginsSpec.post enc Try.prog Try.f4 false true false false) := by
  refine returnsInHanded_of_change_sized (C := Try.checked) Try.own started (by kernel_rfl) Try.func4
    (ChangeSpec.witness6 (enc := enc) (C := Try.checked) false ⟨#[], #[.slice none 0 0, .slice none 0 0, .slice none 0 0], []⟩ 8 (by kernel_rfl) (by kernel_rfl) (by kernel_rfl) (by kernel_rfl)) ?_
  intro W base args ds gs before hval0 hW _ hsz0 _
  have hsz : (DataW.weightsEach Try.prog (Try.f4.params.toList ++ Rows.tupleBeginsSpec.plain.varTypes Try.prog) (ds ++ gs)).all (· ≤ reachBytes) = true := hsz0
  clear hsz0
  have hval : ∀ (j : Nat) t v, Try.f4.params[j]? = some t → args[j]? = some v → Value.okWide Try.prog W .any base t v := hval0
  have hW' : DataW.Whole enc Try.prog Try.f4.params.toList Rows.tupleBeginsSpec.vars false W args.toList ds gs before := hW
  obtain ⟨p, q, hA0, hV, rfl, _, _⟩ := hW
  have hA : DataW.TrodAll enc Try.prog W 0 (fun _ => true) true Try.f4.params.toList args.toList ds p := hA0
  rw [Try.params4] at hA hval hsz
  obtain ⟨v0, v1, v2, d0, d1, d2, p0, p1, p2, rfl, rfl, rfl, h0, h1, h2⟩ := trodAll_three hA
  obtain ⟨rfl, rfl⟩ := trodVars_none hV
  obtain ⟨A0, n0, c0, l0, rfl, hc0, _, r0, ok0, e0⟩ := open_vals (hval 0 22 v0 rfl rfl) h0
  have b0 : n0 ≤ 4398046511104 := by
    rcases e0 with h | ⟨el, sp, rfl, hl⟩
    · omega
    · have := sized_slice hsz (j := 0) (t := 22) (e := 24) rfl rfl Try.underlying22
      rw [Try.bytesVal, hl] at this
      simp only [reachBytes] at this
      omega
  obtain ⟨A1, n1, c1, l1, rfl, hc1, _, r1, ok1, e1⟩ := open_vals (hval 1 22 v1 rfl rfl) h1
  have b1 : n1 ≤ 4398046511104 := by
    rcases e1 with h | ⟨el, sp, rfl, hl⟩
    · omega
    · have := sized_slice hsz (j := 1) (t := 22) (e := 24) rfl rfl Try.underlying22
      rw [Try.bytesVal, hl] at this
      simp only [reachBytes] at this
      omega
  obtain ⟨A2, n2, c2, l2, rfl, hc2, _, r2, ok2, e2⟩ := open_vals (hval 2 22 v2 rfl rfl) h2
  have b2 : n2 ≤ 4398046511104 := by
    rcases e2 with h | ⟨el, sp, rfl, hl⟩
    · omega
    · have := sized_slice hsz (j := 2) (t := 22) (e := 24) rfl rfl Try.underlying22
      rw [Try.bytesVal, hl] at this
      simp only [reachBytes] at this
      omega
  refine (lawBegins A0 A1 A2 n0 c0 n1 c1 n2 c2 l0 l1 l2 W r0 r1 r2 b0 b1 b2 hc2 ok0 ok1 ok2).mono fun e W' ⟨he, hb⟩ => ⟨_, he, ?_⟩
  exact law_end (T := 4) Try.laidOut (by kernel_rfl) rfl (by kernel_rfl) Try.underlying4 hW' rfl rfl rfl hb

theorem tupleBegins_holds : Rows.TupleBeginsSaid :=
  OpenClaim.holds_of_wide 4 Try.f4 rfl rfl rfl rfl rfl rfl rfl ⟨rfl, rfl, rfl, rfl, rfl⟩ rfl rfl rfl rfl rfl (by kernel_rfl) Try.func4 (by kernel_rfl)
    (of_decide_eq_true (by kernel_rfl)) (by unfold Func.isWrapper; rw [if_neg (of_decide_eq_false (by kernel_rfl))]; exact ⟨rfl, rfl⟩)
    (fun os started H enc _ => tupleBegins_lifted os started H enc)
#print axioms tupleBegins_holds
end Go.Proofs.Ytikkknaofiafhaa
