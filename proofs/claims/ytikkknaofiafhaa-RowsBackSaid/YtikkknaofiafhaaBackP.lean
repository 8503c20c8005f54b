/- armoirelaw13.RowsBack: for every input the law returns true, and the arguments read afterwards as before. No condition. -/
import Derived.Test.YtikkknaofiafhaaLBack
import Derived.Test.YtikkknaofiafhaaOpn
namespace Go.Proofs.Ytikkknaofiafhaa
open Go.ChangeShapes Go.WideShapes Go.ChangeAt Go.RowKit

set_option maxRecDepth 100000 in
theorem rowsBack_lifted (os : Os) (started : os.Started) (H : Type) (enc : TypeId × Value → H) :
    ReturnsInHanded {} Try.checked os 13 .any (Rows.rowsBackSpec.pre6 enc Try.prog Try.f13 Rows.rowsBackRow.domain false) (Rows.rowsBackSpec.post enc Try.prog Try.f13 false true false false) := by
  refine returnsInHanded_of_change_sized (C := Try.checked) Try.own started (by kernel_rfl) Try.func13
    (ChangeSpec.witness6 (enc := enc) (C := Try.checked) false ⟨#[], #[.agg #[.int .i64 0, .string ⟨#[]⟩, .slice none 0 0, .slice none 0 0], .agg #[.int .i64 0, .int .i64 0, .string ⟨#[]⟩, .slice none 0 0, .bool false, .int .i64 0, .bool false], .slice none 0 0, .slice none 0 0], []⟩ 8 (by kernel_rfl) (by kernel_rfl) (by kernel_rfl) (by kernel_rfl)) ?_
  intro W base args ds gs before hval0 hW _ hsz0 _
  have hsz : (DataW.weightsEach Try.prog (Try.f13.params.toList ++ Rows.rowsBackSpec.plain.varTypes Try.prog) (ds ++ gs)).all (· ≤ reachBytes) = true := hsz0
  clear hsz0
  have hval : ∀ (j : Nat) t v, Try.f13.params[j]? = some t → args[j]? = some v → Value.okWide Try.prog W .any base t v := hval0
  have hW' : DataW.Whole enc Try.prog Try.f13.params.toList Rows.rowsBackSpec.vars false W args.toList ds gs before := hW
  obtain ⟨p, q, hA0, hV, rfl, _, _⟩ := hW
  have hA : DataW.TrodAll enc Try.prog W 0 (fun _ => true) true Try.f13.params.toList args.toList ds p := hA0
  rw [Try.params13] at hA hval hsz
  obtain ⟨v0, v1, v2, v3, d0, d1, d2, d3, p0, p1, p2, p3, rfl, rfl, rfl, h0, h1, h2, h3⟩ := trodAll_four hA
  obtain ⟨rfl, rfl⟩ := trodVars_none hV
  obtain ⟨cs0, rfl, D0, a0, b0, g0, t0⟩ := opens_agg (E := rTab) Try.underlying56 (hval 0 56 v0 rfl rfl) h0 hsz (j := 0) rfl rfl opens_tab
  obtain rfl : cs0 = tabCs D0 a0 b0 := Array.ext' g0
  obtain ⟨cs1, rfl, D1, a1, g1, t1⟩ := opens_agg (E := rIdx) Try.underlying58 (hval 1 58 v1 rfl rfl) h1 hsz (j := 1) rfl rfl opens_idx
  obtain rfl : cs1 = idxCs D1 a1 := Array.ext' g1
  obtain ⟨l2, r2⟩ := opens_list (E := rVal) Try.underlying22 (hval 2 22 v2 rfl rfl) h2 hsz (j := 2) rfl rfl (by decide) opens_vals
  obtain ⟨l3, r3⟩ := opens_list (E := rVal) Try.underlying22 (hval 3 22 v3 rfl rfl) h3 hsz (j := 3) rfl rfl (by decide) opens_vals
  refine (lawBack D0 D1 a0 b0 a1 v2 v3 l2 l3 W t0 t1 r2 r3).mono fun e W' ⟨he, hb⟩ => ⟨_, he, ?_⟩
  exact law_end (T := 4) Try.laidOut (by kernel_rfl) rfl (by kernel_rfl) Try.underlying4 hW' rfl rfl rfl hb

theorem rowsBack_holds : Rows.RowsBackSaid :=
  OpenClaim.holds_of_wide 13 Try.f13 rfl rfl rfl rfl rfl rfl rfl ⟨rfl, rfl, rfl, rfl, rfl⟩ rfl rfl rfl rfl rfl (by kernel_rfl) Try.func13 (by kernel_rfl)
    (of_decide_eq_true (by kernel_rfl)) (by unfold Func.isWrapper; rw [if_neg (of_decide_eq_false (by kernel_rfl))]; exact ⟨rfl, rfl⟩)
    (fun os started H enc _ => rowsBack_lifted os started H enc)
#print axioms rowsBack_holds
end Go.Proofs.Ytikkknaofiafhaa
