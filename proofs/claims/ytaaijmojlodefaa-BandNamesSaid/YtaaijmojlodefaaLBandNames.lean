/- BandNames: for every input the law returns true, and each argument reads afterwards as it read before. No conditions. -/
import Derived.Test.YtaaijmojlodefaaRows
import Derived.Test.YtaaijmojlodefaaBr
import Derived.Test.YtaaijmojlodefaaBO
import Derived.WalkKit
import Derived.ProofKit
import Derived.OpenShut
import Derived.ChangeOld
import Derived.Below
namespace Go.Proofs.Ytaaijmojlodefaa
open Go.ChangeShapes Go.WideShapes Go.ChangeAt Go.RowKit
open Go.Pv
set_option linter.unusedVariables false

theorem bandNamesOwn : ownKnob Try.prog.godebug = none := by kernel_rfl
theorem bandNamesLaid : laidOutB Try.prog = true := by kernel_rfl

set_option maxRecDepth 100000 in
theorem bandNamesLifted (os : Os) (started : os.Started) (H : Type) (enc : TypeId × Value → H) :
    ReturnsInHanded {} Try.checked os 9 .any (Rows.bandNamesSpec.pre6 enc Try.prog Try.f9 Rows.bandNamesRow.domain false) (Rows.bandNamesSpec.post enc Try.prog Try.f9 false true false false) := by
  refine returnsInHanded_of_change (C := Try.checked) bandNamesOwn started (by kernel_rfl) Try.func9
    (ChangeSpec.witness6 (enc := enc) (C := Try.checked) false ⟨#[], #[], []⟩ 8 (by kernel_rfl) (by kernel_rfl) (by kernel_rfl) (by kernel_rfl)) ?_
  intro W base args ds gs before hval0 hW hcnd _
  have hval : ∀ (j : Nat) t v, Try.f9.params[j]? = some t → args[j]? = some v → Value.okWide Try.prog W .any base t v := hval0
  have hW' := hW
  obtain ⟨p, q, hA0, hV, rfl, hfz, hnd⟩ := hW
  have hA : DataW.TrodAll enc Try.prog W 0 (fun _ => true) true Try.f9.params.toList args.toList ds p := hA0
  rw [Try.params9] at hA hval
  obtain ⟨rfl, rfl, rfl⟩ := trodAll_none hA0
  obtain ⟨rfl, rfl⟩ := trodVars_none hV

  refine (walk_of (Go.Pv.bandNames) (xs := []) (repL_nil)).mono fun e W' ⟨he, bel⟩ => ?_
  subst he
  have hback := below_all (enc := enc) bandNamesLaid bel (ts := Try.f9.params.toList) (by kernel_rfl) hA0
  exact ⟨_, rfl, _, _, _, [], _, [], hW', trodAll_mk1 (shut_bool Try.underlying4 _), hback, rfl, bel.frame _, fun h => by cases h⟩

theorem bandNamesOver : Rows.bandNamesRow.holds Try.pinned (OpenSpec.ofChange Rows.bandNamesSpec) :=
  OpenClaim.holds_of_wide 9 Try.f9 rfl rfl rfl rfl rfl rfl rfl ⟨rfl, rfl, rfl, rfl, rfl⟩ rfl rfl rfl rfl rfl (by kernel_rfl) Try.func9 (by kernel_rfl)
    (of_decide_eq_true (by kernel_rfl)) (by unfold Func.isWrapper; first | (rw [if_pos (by decide +kernel)]; kernel_rfl) | (rw [if_neg (by decide +kernel)]; exact ⟨rfl, rfl⟩))
    (fun os started H enc _ => bandNamesLifted os started H enc)

theorem bandNames_holds : Rows.BandNamesSaid := bandNamesOver
#print axioms bandNames_holds
end Go.Proofs.Ytaaijmojlodefaa
