/- JonesLoops: for every input the law returns true, and each argument reads afterwards as it read before. No conditions. -/
import Derived.Test.YtljahbpkhienkaaRows
import Derived.Test.YtljahbpkhienkaaJq
import Derived.Test.YtljahbpkhienkaaJnO
import Derived.WalkKit
import Derived.ProofKit
import Derived.OpenShut
import Derived.ChangeOld
import Derived.Below
namespace Go.Proofs.Ytljahbpkhienkaa
open Go.ChangeShapes Go.WideShapes Go.ChangeAt Go.RowKit
open Go.Pv
set_option linter.unusedVariables false

theorem jonesLoopsOwn : ownKnob Try.prog.godebug = none := by kernel_rfl
theorem jonesLoopsLaid : laidOutB Try.prog = true := by kernel_rfl

set_option maxRecDepth 100000 in
theorem jonesLoopsLifted (os : Os) (started : os.Started) (H : Type) (enc : TypeId × Value → H) :
    ReturnsInHanded {} Try.checked os 8 .any (Rows.jonesLoopsSpec.pre6 enc Try.prog Try.f8 Rows.jonesLoopsRow.domain false) (Rows.jonesLoopsSpec.post enc Try.prog Try.f8 false true false false) := by
  refine returnsInHanded_of_change (C := Try.checked) jonesLoopsOwn started (by kernel_rfl) Try.func8
    (ChangeSpec.witness6 (enc := enc) (C := Try.checked) false ⟨#[], #[.slice none 0 0, .slice none 0 0, .int .i64 0, .int .i64 0, .int .i64 0, .int .i64 0], []⟩ 8 (by kernel_rfl) (by kernel_rfl) (by kernel_rfl) (by kernel_rfl)) ?_
  intro W base args ds gs before hval0 hW hcnd _
  have hval : ∀ (j : Nat) t v, Try.f8.params[j]? = some t → args[j]? = some v → Value.okWide Try.prog W .any base t v := hval0
  have hW' := hW
  obtain ⟨p, q, hA0, hV, rfl, hfz, hnd⟩ := hW
  have hA : DataW.TrodAll enc Try.prog W 0 (fun _ => true) true Try.f8.params.toList args.toList ds p := hA0
  rw [Try.params8] at hA hval
  obtain ⟨v0, vs0, d0, ds0, p0, q0, hargs, rfl, rfl, h0, r0⟩ := trodAll_cons hA
  obtain ⟨v1, vs1, d1, ds1, p1, q1, rfl, rfl, rfl, h1, r1⟩ := trodAll_cons r0
  obtain ⟨v2, vs2, d2, ds2, p2, q2, rfl, rfl, rfl, h2, r2⟩ := trodAll_cons r1
  obtain ⟨v3, vs3, d3, ds3, p3, q3, rfl, rfl, rfl, h3, r3⟩ := trodAll_cons r2
  obtain ⟨v4, vs4, d4, ds4, p4, q4, rfl, rfl, rfl, h4, r4⟩ := trodAll_cons r3
  obtain ⟨v5, vs5, d5, ds5, p5, q5, rfl, rfl, rfl, h5, r5⟩ := trodAll_cons r4
  obtain ⟨rfl, rfl, rfl⟩ := trodAll_nil r5
  obtain rfl : args = #[v0, v1, v2, v3, v4, v5] := by cases args; simp_all
  obtain ⟨rfl, rfl⟩ := trodVars_none hV
  obtain ⟨x0, rep0, k0⟩ := arg_slice (P := Try.prog) (t := 38) (e := 25) (by kernel_rfl) is_Jns (hval 0 38 v0 rfl rfl) h0
  obtain ⟨x1, rep1, k1⟩ := arg_slice (P := Try.prog) (t := 39) (e := 57) (by kernel_rfl) is_Pols (hval 1 39 v1 rfl rfl) h1
  obtain ⟨x2, rep2, k2⟩ := arg_int (P := Try.prog) (t := 3) (by kernel_rfl) (hval 2 3 v2 rfl rfl) h2
  obtain ⟨x3, rep3, k3⟩ := arg_int (P := Try.prog) (t := 3) (by kernel_rfl) (hval 3 3 v3 rfl rfl) h3
  obtain ⟨x4, rep4, k4⟩ := arg_int (P := Try.prog) (t := 3) (by kernel_rfl) (hval 4 3 v4 rfl rfl) h4
  obtain ⟨x5, rep5, k5⟩ := arg_int (P := Try.prog) (t := 3) (by kernel_rfl) (hval 5 3 v5 rfl rfl) h5
  refine (walk_of (Go.Pv.jonesLoops x0 x1 x2 x3 x4 x5 k0.2 k1.2) (xs := [v0, v1, v2, v3, v4, v5]) (repL_cons rep0 (repL_cons rep1 (repL_cons rep2 (repL_cons rep3 (repL_cons rep4 (repL_cons rep5 (repL_nil)))))))).mono fun e W' ⟨he, bel⟩ => ?_
  subst he
  have hback := below_all (enc := enc) jonesLoopsLaid bel (ts := Try.f8.params.toList) (by kernel_rfl) hA0
  exact ⟨_, rfl, _, _, _, [], _, [], hW', trodAll_mk1 (shut_bool Try.underlying4 _), hback, rfl, bel.frame _, fun h => by cases h⟩

theorem jonesLoopsOver : Rows.jonesLoopsRow.holds Try.pinned (OpenSpec.ofChange Rows.jonesLoopsSpec) :=
  OpenClaim.holds_of_wide 8 Try.f8 rfl rfl rfl rfl rfl rfl rfl ⟨rfl, rfl, rfl, rfl, rfl⟩ rfl rfl rfl rfl rfl (by kernel_rfl) Try.func8 (by kernel_rfl)
    (of_decide_eq_true (by kernel_rfl)) (by unfold Func.isWrapper; first | (rw [if_pos (by decide +kernel)]; kernel_rfl) | (rw [if_neg (by decide +kernel)]; exact ⟨rfl, rfl⟩))
    (fun os started H enc _ => jonesLoopsLifted os started H enc)

theorem jonesLoops_holds : Rows.JonesLoopsSaid := jonesLoopsOver
#print axioms jonesLoops_holds
end Go.Proofs.Ytljahbpkhienkaa
