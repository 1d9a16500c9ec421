/- CorruptAlike: for every input the law returns true, and each argument reads afterwards as it read before. No conditions. -/
import Derived.Test.YtilmadidjihfkaaRows
import Derived.Test.YtilmadidjihfkaaKp
import Derived.Test.YtilmadidjihfkaaKO
import Derived.WalkKit
import Derived.ProofKit
import Derived.OpenShut
import Derived.ChangeOld
import Derived.Below
namespace Go.Proofs.Ytilmadidjihfkaa
open Go.ChangeShapes Go.WideShapes Go.ChangeAt Go.RowKit
open Go.Pv
set_option linter.unusedVariables false

theorem corruptAlikeOwn : ownKnob Try.prog.godebug = none := by kernel_rfl
theorem corruptAlikeLaid : laidOutB Try.prog = true := by kernel_rfl

set_option maxRecDepth 100000 in
theorem corruptAlikeLifted (os : Os) (started : os.Started) (H : Type) (enc : TypeId × Value → H) :
    ReturnsInHanded {} Try.checked os 9 .any (Rows.corruptAlikeSpec.pre6 enc Try.prog Try.f9 Rows.corruptAlikeRow.domain false) (Rows.corruptAlikeSpec.post enc Try.prog Try.f9 false true false false) := by
  refine returnsInHanded_of_change (C := Try.checked) corruptAlikeOwn started (by kernel_rfl) Try.func9
    (ChangeSpec.witness6 (enc := enc) (C := Try.checked) false ⟨#[], #[.slice none 0 0, .slice none 0 0], []⟩ 8 (by kernel_rfl) (by kernel_rfl) (by kernel_rfl) (by kernel_rfl)) ?_
  intro W base args ds gs before hval0 hW hcnd _
  have hval : ∀ (j : Nat) t v, Try.f9.params[j]? = some t → args[j]? = some v → Value.okWide Try.prog W .any base t v := hval0
  have hW' := hW
  obtain ⟨p, q, hA0, hV, rfl, hfz, hnd⟩ := hW
  have hA : DataW.TrodAll enc Try.prog W 0 (fun _ => true) true Try.f9.params.toList args.toList ds p := hA0
  rw [Try.params9] at hA hval
  obtain ⟨v0, vs0, d0, ds0, p0, q0, hargs, rfl, rfl, h0, r0⟩ := trodAll_cons hA
  obtain ⟨v1, vs1, d1, ds1, p1, q1, rfl, rfl, rfl, h1, r1⟩ := trodAll_cons r0
  obtain ⟨rfl, rfl, rfl⟩ := trodAll_nil r1
  obtain rfl : args = #[v0, v1] := by cases args; simp_all
  obtain ⟨rfl, rfl⟩ := trodVars_none hV
  obtain ⟨x0, rep0, k0⟩ := arg_slice (P := Try.prog) (t := 37) (e := 48) (by kernel_rfl) is_Serie (hval 0 37 v0 rfl rfl) h0
  obtain ⟨x1, rep1, k1⟩ := arg_slice (P := Try.prog) (t := 32) (e := 25) (by kernel_rfl) is_Spos (hval 1 32 v1 rfl rfl) h1
  refine (walk_of (Go.Pv.corruptAlike x0 x1 (by have := k0.1; simp only [maxLen] at this; omega) (fun l h v hv => (k0.2 l h).2 v hv) k1.2) (xs := [v0, v1]) (repL_cons rep0 (repL_cons rep1 (repL_nil)))).mono fun e W' ⟨he, bel⟩ => ?_
  subst he
  have hback := below_all (enc := enc) corruptAlikeLaid bel (ts := Try.f9.params.toList) (by kernel_rfl) hA0
  exact ⟨_, rfl, _, _, _, [], _, [], hW', trodAll_mk1 (shut_bool Try.underlying4 _), hback, rfl, bel.frame _, fun h => by cases h⟩

theorem corruptAlikeOver : Rows.corruptAlikeRow.holds Try.pinned (OpenSpec.ofChange Rows.corruptAlikeSpec) :=
  OpenClaim.holds_of_wide 9 Try.f9 rfl rfl rfl rfl rfl rfl rfl ⟨rfl, rfl, rfl, rfl, rfl⟩ rfl rfl rfl rfl rfl (by kernel_rfl) Try.func9 (by kernel_rfl)
    (of_decide_eq_true (by kernel_rfl)) (by unfold Func.isWrapper; first | (rw [if_pos (by decide +kernel)]; kernel_rfl) | (rw [if_neg (by decide +kernel)]; exact ⟨rfl, rfl⟩))
    (fun os started H enc _ => corruptAlikeLifted os started H enc)

theorem corruptAlike_holds : Rows.CorruptAlikeSaid := corruptAlikeOver
#print axioms corruptAlike_holds
end Go.Proofs.Ytilmadidjihfkaa
