/- armoirelaw06.WalSafe: for every input the law returns true, and the arguments read afterwards as before. No condition. -/
import Derived.Test.YtlnnfdjhejdgdaaLWSafe
import Derived.Test.YtlnnfdjhejdgdaaOpL
namespace Go.Proofs.Ytlnnfdjhejdgdaa
open Go.ChangeShapes Go.WideShapes Go.ChangeAt Go.RowKit

set_option maxRecDepth 100000 in
theorem walSafe_lifted (os : Os) (started : os.Started) (H : Type) (enc : TypeId × Value → H) :
    ReturnsInHanded {} Try.checked os 6 .any (Rows.walSafeSpec.pre6 enc Try.prog Try.f6 Rows.walSafeRow.domain false) (Rows.walSafeSpec.post enc Try.prog Try.f6 false true false false) := by
  refine returnsInHanded_of_change_sized (C := Try.checked) Try.own started (by kernel_rfl) Try.func6
    (ChangeSpec.witness6 (enc := enc) (C := Try.checked) false ⟨#[], #[.slice none 0 0, .slice none 0 0, .slice none 0 0], []⟩ 8 (by kernel_rfl) (by kernel_rfl) (by kernel_rfl) (by kernel_rfl)) ?_
  intro W base args ds gs before hval0 hW _ hsz0 _
  have hsz : (DataW.weightsEach Try.prog (Try.f6.params.toList ++ Rows.walSafeSpec.plain.varTypes Try.prog) (ds ++ gs)).all (· ≤ reachBytes) = true := hsz0
  clear hsz0
  have hval : ∀ (j : Nat) t v, Try.f6.params[j]? = some t → args[j]? = some v → Value.okWide Try.prog W .any base t v := hval0
  have hW' : DataW.Whole enc Try.prog Try.f6.params.toList Rows.walSafeSpec.vars false W args.toList ds gs before := hW
  obtain ⟨p, q, hA0, hV, rfl, _, _⟩ := hW
  have hA : DataW.TrodAll enc Try.prog W 0 (fun _ => true) true Try.f6.params.toList args.toList ds p := hA0
  rw [Try.params6] at hA hval hsz
  obtain ⟨v0, v1, v2, d0, d1, d2, p0, p1, p2, rfl, rfl, rfl, h0, h1, h2⟩ := trodAll_three hA
  obtain ⟨rfl, rfl⟩ := trodVars_none hV
  obtain ⟨l0, r0⟩ := opens_list (E := rSl rU8 (by decide)) Try.underlying36 (hval 0 36 v0 rfl rfl) h0 hsz (j := 0) rfl rfl (by decide) opens_bss
  obtain ⟨l1, r1⟩ := opens_list (E := rSl rU8 (by decide)) Try.underlying36 (hval 1 36 v1 rfl rfl) h1 hsz (j := 1) rfl rfl (by decide) opens_bss
  obtain ⟨l2, r2⟩ := opens_list (E := rInt) Try.underlying22 (hval 2 22 v2 rfl rfl) h2 hsz (j := 2) rfl rfl (by decide) opens_ints
  refine (lawWalSafe v0 v1 v2 l0 l1 l2 W (RSl.mono (by decide) (fun b _ h => h) (show RSl rBs (fun _ => True) W v0 l0 from r0)) (RSl.mono (by decide) (fun b _ h => h) (show RSl rBs (fun _ => True) W v1 l1 from r1)) (RSl.mono (by decide) (fun b _ h => h) r2)).mono fun e W' ⟨he, hb⟩ => ⟨_, he, ?_⟩
  exact law_end (T := 4) Try.laidOut (by kernel_rfl) rfl (by kernel_rfl) Try.underlying4 hW' rfl rfl rfl hb

theorem walSafe_holds : Rows.WalSafeSaid :=
  OpenClaim.holds_of_wide 6 Try.f6 rfl rfl rfl rfl rfl rfl rfl ⟨rfl, rfl, rfl, rfl, rfl⟩ rfl rfl rfl rfl rfl (by kernel_rfl) Try.func6 (by kernel_rfl)
    (of_decide_eq_true (by kernel_rfl)) (by unfold Func.isWrapper; rw [if_neg (of_decide_eq_false (by kernel_rfl))]; exact ⟨rfl, rfl⟩)
    (fun os started H enc _ => walSafe_lifted os started H enc)
#print axioms walSafe_holds
end Go.Proofs.Ytlnnfdjhejdgdaa
