/- The arguments of the laws: numbers, visibilities. -/
import Derived.Test.YtljahbpkhienkaaT
import Derived.Test.YtljahbpkhienkaaPlCxm
namespace Go.Pv
open Go.Proofs

theorem is_Cx : Is Try.prog 23 Cx := by
  refine is_of (opens_structB (ts := [2, 2, 2]) [IsInt, IsInt, IsInt] (by kernel_rfl) rfl ?_) ?_
  · intro i u Q hu hQ
    have hint : Opens Try.prog 2 IsInt := opens_int (intB_und (by kernel_rfl)).1 (intB_und (by kernel_rfl)).2
    match i, hu, hQ with
    | 0, hu, hQ => cases hu; cases hQ; exact @hint
    | 1, hu, hQ => cases hu; cases hQ; exact @hint
    | 2, hu, hQ => cases hu; cases hQ; exact @hint
    | i + 3, hu, _ => simp at hu
  · rintro l ⟨_, _, rfl, ⟨a, rfl, ha⟩, _, _, rfl, ⟨b, rfl, hb⟩, _, _, rfl, ⟨c, rfl, hc⟩, rfl⟩
    exact ⟨⟨a, b, c⟩, rfl, ha, hb, hc⟩

end Go.Pv
