/- JonesNames: for every input the law returns true, and each argument reads afterwards as it read before. No conditions. -/
import Derived.Test.YtljahbpkhienkaaRows
import Derived.Test.YtljahbpkhienkaaJr
import Derived.Test.YtljahbpkhienkaaJnO
import Derived.WalkKit
import Derived.ProofKit
import Derived.OpenShut
import Derived.ChangeOld
import Derived.Below
namespace Go.Proofs.Ytljahbpkhienkaa
open Go.ChangeShapes Go.WideShapes Go.ChangeAt Go.RowKit
open Go.Pv
set_option linter.unusedVariables false

theorem jonesNamesOwn : ownKnob Try.prog.godebug = none := by kernel_rfl
theorem jonesNamesLaid : laidOutB Try.prog = true := by kernel_rfl

set_option maxRecDepth 100000 in
theorem jonesNamesLifted (os : Os) (started : os.Started) (H : Type) (enc : TypeId × Value → H) :
    ReturnsInHanded {} Try.checked os 7 .any (Rows.jonesNamesSpec.pre6 enc Try.prog Try.f7 Rows.jonesNamesRow.domain false) (Rows.jonesNamesSpec.post enc Try.prog Try.f7 false true false false) := by
  refine returnsInHanded_of_change (C := Try.checked) jonesNamesOwn started (by kernel_rfl) Try.func7
    (ChangeSpec.witness6 (enc := enc) (C := Try.checked) false ⟨#[], #[], []⟩ 8 (by kernel_rfl) (by kernel_rfl) (by kernel_rfl) (by kernel_rfl)) ?_
  intro W base args ds gs before hval0 hW hcnd _
  have hval : ∀ (j : Nat) t v, Try.f7.params[j]? = some t → args[j]? = some v → Value.okWide Try.prog W .any base t v := hval0
  have hW' := hW
  obtain ⟨p, q, hA0, hV, rfl, hfz, hnd⟩ := hW
  have hA : DataW.TrodAll enc Try.prog W 0 (fun _ => true) true Try.f7.params.toList args.toList ds p := hA0
  rw [Try.params7] at hA hval
  obtain ⟨rfl, rfl, rfl⟩ := trodAll_none hA0
  obtain ⟨rfl, rfl⟩ := trodVars_none hV

  refine (walk_of (Go.Pv.jonesNames) (xs := []) (repL_nil)).mono fun e W' ⟨he, bel⟩ => ?_
  subst he
  have hback := below_all (enc := enc) jonesNamesLaid bel (ts := Try.f7.params.toList) (by kernel_rfl) hA0
  exact ⟨_, rfl, _, _, _, [], _, [], hW', trodAll_mk1 (shut_bool Try.underlying4 _), hback, rfl, bel.frame _, fun h => by cases h⟩

theorem jonesNamesOver : Rows.jonesNamesRow.holds Try.pinned (OpenSpec.ofChange Rows.jonesNamesSpec) :=
  OpenClaim.holds_of_wide 7 Try.f7 rfl rfl rfl rfl rfl rfl rfl ⟨rfl, rfl, rfl, rfl, rfl⟩ rfl rfl rfl rfl rfl (by kernel_rfl) Try.func7 (by kernel_rfl)
    (of_decide_eq_true (by kernel_rfl)) (by unfold Func.isWrapper; first | (rw [if_pos (by decide +kernel)]; kernel_rfl) | (rw [if_neg (by decide +kernel)]; exact ⟨rfl, rfl⟩))
    (fun os started H enc _ => jonesNamesLifted os started H enc)

theorem jonesNames_holds : Rows.JonesNamesSaid := jonesNamesOver
#print axioms jonesNames_holds
end Go.Proofs.Ytljahbpkhienkaa
