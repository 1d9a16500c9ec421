/- JonesDets: for every input the law returns true, and each argument reads afterwards as it read before. No conditions. -/
import Derived.Test.YtljahbpkhienkaaRows
import Derived.Test.YtljahbpkhienkaaJg
import Derived.Test.YtljahbpkhienkaaJnO
import Derived.WalkKit
import Derived.ProofKit
import Derived.OpenShut
import Derived.ChangeOld
import Derived.Below
namespace Go.Proofs.Ytljahbpkhienkaa
open Go.ChangeShapes Go.WideShapes Go.ChangeAt Go.RowKit
open Go.Pv
set_option linter.unusedVariables false

theorem jonesDetsOwn : ownKnob Try.prog.godebug = none := by kernel_rfl
theorem jonesDetsLaid : laidOutB Try.prog = true := by kernel_rfl

set_option maxRecDepth 100000 in
theorem jonesDetsLifted (os : Os) (started : os.Started) (H : Type) (enc : TypeId × Value → H) :
    ReturnsInHanded {} Try.checked os 5 .any (Rows.jonesDetsSpec.pre6 enc Try.prog Try.f5 Rows.jonesDetsRow.domain false) (Rows.jonesDetsSpec.post enc Try.prog Try.f5 false true false false) := by
  refine returnsInHanded_of_change (C := Try.checked) jonesDetsOwn started (by kernel_rfl) Try.func5
    (ChangeSpec.witness6 (enc := enc) (C := Try.checked) false ⟨#[], #[.agg #[.int .i64 0, .int .i64 0, .int .i64 0, .int .i64 0, .int .i64 0, .int .i64 0, .int .i64 0, .int .i64 0, .int .i64 0, .int .i64 0, .int .i64 0, .int .i64 0], .agg #[.int .i64 0, .int .i64 0, .int .i64 0, .int .i64 0, .int .i64 0, .int .i64 0, .int .i64 0, .int .i64 0, .int .i64 0, .int .i64 0, .int .i64 0, .int .i64 0]], []⟩ 8 (by kernel_rfl) (by kernel_rfl) (by kernel_rfl) (by kernel_rfl)) ?_
  intro W base args ds gs before hval0 hW hcnd _
  have hval : ∀ (j : Nat) t v, Try.f5.params[j]? = some t → args[j]? = some v → Value.okWide Try.prog W .any base t v := hval0
  have hW' := hW
  obtain ⟨p, q, hA0, hV, rfl, hfz, hnd⟩ := hW
  have hA : DataW.TrodAll enc Try.prog W 0 (fun _ => true) true Try.f5.params.toList args.toList ds p := hA0
  rw [Try.params5] at hA hval
  obtain ⟨v0, vs0, d0, ds0, p0, q0, hargs, rfl, rfl, h0, r0⟩ := trodAll_cons hA
  obtain ⟨v1, vs1, d1, ds1, p1, q1, rfl, rfl, rfl, h1, r1⟩ := trodAll_cons r0
  obtain ⟨rfl, rfl, rfl⟩ := trodAll_nil r1
  obtain rfl : args = #[v0, v1] := by cases args; simp_all
  obtain ⟨rfl, rfl⟩ := trodVars_none hV
  obtain ⟨x0, rep0, k0⟩ := arg_arr (P := Try.prog) (t := 25) (n := 4) (e := 23) (by kernel_rfl) is_Jn (hval 0 25 v0 rfl rfl) h0
  obtain ⟨x1, rep1, k1⟩ := arg_arr (P := Try.prog) (t := 25) (n := 4) (e := 23) (by kernel_rfl) is_Jn (hval 1 25 v1 rfl rfl) h1
  refine (walk_of (Go.Pv.jonesDets x0 x1 k0 k1) (xs := [v0, v1]) (repL_cons rep0 (repL_cons rep1 (repL_nil)))).mono fun e W' ⟨he, bel⟩ => ?_
  subst he
  have hback := below_all (enc := enc) jonesDetsLaid bel (ts := Try.f5.params.toList) (by kernel_rfl) hA0
  exact ⟨_, rfl, _, _, _, [], _, [], hW', trodAll_mk1 (shut_bool Try.underlying4 _), hback, rfl, bel.frame _, fun h => by cases h⟩

theorem jonesDetsOver : Rows.jonesDetsRow.holds Try.pinned (OpenSpec.ofChange Rows.jonesDetsSpec) :=
  OpenClaim.holds_of_wide 5 Try.f5 rfl rfl rfl rfl rfl rfl rfl ⟨rfl, rfl, rfl, rfl, rfl⟩ rfl rfl rfl rfl rfl (by kernel_rfl) Try.func5 (by kernel_rfl)
    (of_decide_eq_true (by kernel_rfl)) (by unfold Func.isWrapper; first | (rw [if_pos (by decide +kernel)]; kernel_rfl) | (rw [if_neg (by decide +kernel)]; exact ⟨rfl, rfl⟩))
    (fun os started H enc _ => jonesDetsLifted os started H enc)

theorem jonesDets_holds : Rows.JonesDetsSaid := jonesDetsOver
#print axioms jonesDets_holds
end Go.Proofs.Ytljahbpkhienkaa
