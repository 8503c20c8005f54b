/- armoirelaw07.VaultGrows: for every input the law returns true, and the arguments read afterwards as before; the package variable errors.errorType is tied to the program's text by the given tie. No further condition. -/
import Derived.Test.YtnlhjhpikjmoaaaGreatDoorLVGrows
import Derived.Test.YtnlhjhpikjmoaaaGreatDoorV9
import Derived.Test.YtnlhjhpikjmoaaaGreatDoorCards
import Derived.Test.YtnlhjhpikjmoaaaGreatDoorTie
import Derived.ChangeSame
import Derived.ChangeVars
import Derived.JoinedOf
import Derived.LaidLaws
import Derived.LaidHandle
import Derived.Stop.Joined
import Derived.SevenTiedAt
namespace Go.Proofs.YtnlhjhpikjmoaaaGreatDoor
open Go.ChangeShapes Go.WideShapes Go.ChangeAt Go.RowKit
noncomputable def laidWorld (os : Os) : World :=
  let w0 := World.holding Tryz.prog os ⟨#[], #[], []⟩
  { w0 with heap := w0.heap.modify 0 fun
      | .cells _ t frozen => .cells #[.iface 149 (.agg #[typeHandle Tryz.prog 37])] t frozen
      | o => o }
theorem laidWorld_met (os : Os) (args : Array Value) : laidMetH Tryz.prog Rows.vaultGrowsRow.laid ((laidWorld os).forCall (fun _ _ => 0) ⟨#[], args, []⟩).memory :=
  laidMetH_of_parts (laidMet_nil _ _) (by kernel_rfl)
set_option maxRecDepth 100000 in
theorem vaultGrows_lifted (os : Os) (started : os.Started) (H : Type) (enc : TypeId × Value → H) :
    ReturnsInHanded {} Tryz.checked os 5 .any (fun w args => (Rows.vaultGrowsSpec.pre enc Tryz.prog Tryz.f5 [] false w args ∧ laidMetH Tryz.prog Rows.vaultGrowsRow.laid w) ∧ sizedMet enc Tryz.prog Tryz.f5 (OpenSpec.ofChange Rows.vaultGrowsSpec) false w args)
      (Rows.vaultGrowsSpec.post enc Tryz.prog Tryz.f5 false true false false) := by
  refine returnsInHanded_of_change_and (C := Tryz.checked) (X := fun w _ => laidMetH Tryz.prog Rows.vaultGrowsRow.laid w) (fun _ _ _ hh h => h.of_heap hh) Tryz.own started (by kernel_rfl) Tryz.func5
    (ChangeSpec.witness_at (enc := enc) (C := Tryz.checked) (os := os) (X := fun w _ => laidMetH Tryz.prog Rows.vaultGrowsRow.laid w) false (laidWorld os) #[.slice none 0 0, .slice none 0 0, .slice none 0 0] 8 rfl (by kernel_rfl) (by kernel_rfl) (by kernel_rfl) (by kernel_rfl) (by kernel_rfl) (laidWorld_met os _)) ?_
  intro W base args ds gs before hval0 hW _ hsz0 hL _
  have hsz : (DataW.weightsEach Tryz.prog (Tryz.f5.params.toList ++ Rows.vaultGrowsSpec.plain.varTypes Tryz.prog) (ds ++ gs)).all (· ≤ reachBytes) = true := hsz0
  clear hsz0
  have hval : ∀ (j : Nat) t v, Tryz.f5.params[j]? = some t → args[j]? = some v → Value.okWide Tryz.prog W .any base t v := hval0
  have hW' : DataW.Whole enc Tryz.prog Tryz.f5.params.toList Rows.vaultGrowsSpec.vars false W args.toList ds gs before := hW
  obtain ⟨p, q, hA0, hV, rfl, _, _⟩ := hW
  have hA : DataW.TrodAll enc Tryz.prog W 0 (fun _ => true) true Tryz.f5.params.toList args.toList ds p := hA0
  rw [Tryz.params5] at hA hval hsz
  obtain ⟨v0, v1, v2, d0, d1, d2, p0, p1, p2, rfl, rfl, rfl, h0, h1, h2⟩ := trodAll_three hA
  obtain ⟨rfl, rfl⟩ := trodVars_none hV
  obtain ⟨l0, r0⟩ := opens_list (E := rSl rU8 (by decide)) Tryz.underlying44 (hval 0 44 v0 rfl rfl) h0 hsz (j := 0) rfl rfl (by decide) opens_bss
  obtain ⟨l1, r1⟩ := opens_list (E := rBool) Tryz.underlying45 (hval 1 45 v1 rfl rfl) h1 hsz (j := 1) rfl rfl (by decide) opens_bools
  obtain ⟨l2, r2⟩ := opens_list (E := rBool) Tryz.underlying45 (hval 2 45 v2 rfl rfl) h2 hsz (j := 2) rfl rfl (by decide) opens_bools
  refine (lawVaultGrows v0 v1 v2 l0 l1 l2 W (RSl.mono (by decide) (fun b _ h => h) (show RSl rBs (fun _ => True) W v0 l0 from r0)) (RSl.mono (by decide) (fun b _ h => h) r1) (RSl.mono (by decide) (fun b _ h => h) r2)).mono fun e W' ⟨he, hb⟩ => ⟨_, he, ?_⟩
  exact law_end (T := 4) Tryz.laidOut (by kernel_rfl) rfl (by kernel_rfl) Tryz.underlying4 hW' rfl rfl rfl hb
theorem vaultGrows_row : Rows.VaultGrowsSaid :=
  OpenClaim.holds_of_wide 5 Tryz.f5 rfl rfl rfl rfl rfl rfl rfl ⟨rfl, rfl, rfl, rfl, rfl⟩ rfl rfl rfl rfl rfl (by kernel_rfl) Tryz.func5 (by kernel_rfl)
    (of_decide_eq_true (by kernel_rfl)) (by unfold Func.isWrapper; rw [if_neg (of_decide_eq_false (by kernel_rfl))]; exact ⟨rfl, rfl⟩)
    (fun os started H enc _ => vaultGrows_lifted os started H enc)
theorem vaultGrows_holds : Rows.VaultGrowsCardSaid :=
  Claim7.holds_tied_plain_at .later [] [.handle] true (true, "8d7f0da85dced1974d6d2f4459b580ffb52f2341e5f8ee761b58e1118bb13d1b") true
    vaultGrows_row (fun _ h => by cases h) (by kernel_rfl) (fun _ h => by cases h) vaultGrows_row_tie rfl ⟨rfl, rfl⟩ (by kernel_rfl) rfl
    (fun f fn hf hfn => by
      obtain rfl : f = 5 := Option.some.inj ((show Tryz.prog.funcNamed "armoire/armoirelaw07.VaultGrows" = some 5 by kernel_rfl).symm.trans hf) |>.symm
      obtain rfl : fn = Tryz.f5 := (Option.some.inj (Tryz.func5.symm.trans hfn)).symm
      refine ⟨by kernel_rfl, fun j t ht => ?_⟩
      rw [Tryz.params5] at ht
      have hm : t ∈ [44, 45, 45] := by
        rcases j with _ | _ | _ | j <;> simp at ht <;> simp [ht]
      have ha : ∀ t ∈ [44, 45, 45], Tryz.prog.wantsStandIn t = false := by
        intro t ht
        rcases List.mem_cons.1 ht with rfl | ht
        · kernel_rfl
        rcases List.mem_cons.1 ht with rfl | ht
        · kernel_rfl
        rcases List.mem_cons.1 ht with rfl | ht
        · kernel_rfl
        cases ht
      exact ha t hm)
    (by kernel_rfl)
#print axioms vaultGrows_holds
end Go.Proofs.YtnlhjhpikjmoaaaGreatDoor
