/- The arguments of the laws: numbers, visibilities. -/
import Derived.Test.YtilmadidjihfkaaT
import Derived.Test.YtilmadidjihfkaaPlCxm
namespace Go.Pv
open Go.Proofs

theorem is_Cx : Is Try.prog 23 Cx := by
  refine is_of (opens_structB (ts := [2, 2, 2]) [IsInt, IsInt, IsInt] (by kernel_rfl) rfl ?_) ?_
  · intro i u Q hu hQ
    have hint : Opens Try.prog 2 IsInt := opens_int (intB_und (by kernel_rfl)).1 (intB_und (by kernel_rfl)).2
    match i, hu, hQ with
    | 0, hu, hQ => cases hu; cases hQ; exact @hint
    | 1, hu, hQ => cases hu; cases hQ; exact @hint
    | 2, hu, hQ => cases hu; cases hQ; exact @hint
    | i + 3, hu, _ => simp at hu
  · rintro l ⟨_, _, rfl, ⟨a, rfl, ha⟩, _, _, rfl, ⟨b, rfl, hb⟩, _, _, rfl, ⟨c, rfl, hc⟩, rfl⟩
    exact ⟨⟨a, b, c⟩, rfl, ha, hb, hc⟩

theorem is_Vis : Is Try.prog 50 Vis := by
  refine is_of (opens_structB (ts := [3, 3, 23, 3]) [IsInt, IsInt, (fun l => ∃ x : Cx, l = Enc.cs x ∧ Enc.ok x), IsInt] (by kernel_rfl) rfl ?_) ?_
  · intro i u Q hu hQ
    have hint : Opens Try.prog 3 IsInt := opens_int (intB_und (by kernel_rfl)).1 (intB_und (by kernel_rfl)).2
    match i, hu, hQ with
    | 0, hu, hQ => cases hu; cases hQ; exact @hint
    | 1, hu, hQ => cases hu; cases hQ; exact @hint
    | 2, hu, hQ => cases hu; cases hQ; exact @is_Cx
    | 3, hu, hQ => cases hu; cases hQ; exact @hint
    | i + 4, hu, _ => simp at hu
  · rintro l ⟨_, _, rfl, ⟨a, rfl, ha⟩, _, _, rfl, ⟨b, rfl, hb⟩, _, _, rfl, ⟨c, rfl, hc⟩, _, _, rfl, ⟨d, rfl, hd⟩, rfl⟩
    exact ⟨⟨a, b, c, d⟩, rfl, ha, hb, hc, hd⟩

theorem is_Viss : Is Try.prog 48 (List Vis) := is_slice (e := 50) (by kernel_rfl) is_Vis
theorem is_Cxs : Is Try.prog 28 (List Cx) := is_slice (e := 23) (by kernel_rfl) is_Cx
theorem is_Ints : Is Try.prog 56 (List Int) := is_slice (e := 3) (by kernel_rfl) (is_int (by kernel_rfl))
end Go.Pv
