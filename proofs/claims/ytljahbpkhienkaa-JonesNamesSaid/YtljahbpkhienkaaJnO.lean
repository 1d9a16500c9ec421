/- The arguments of the laws: matrices. -/
import Derived.Test.YtljahbpkhienkaaClO
import Derived.Test.YtljahbpkhienkaaPlCxm
namespace Go.Pv
open Go.Proofs

theorem is_Jn : Is Try.prog 25 Jn := by
  refine is_of (opens_array (n := 4) (e := 23) (arrB_und (by kernel_rfl)).1 (arrB_und (by kernel_rfl)).2 is_Cx) ?_
  rintro l ⟨_, _, rfl, ⟨a, rfl, ha⟩, _, _, rfl, ⟨b, rfl, hb⟩, _, _, rfl, ⟨c, rfl, hc⟩, _, _, rfl, ⟨d, rfl, hd⟩, rfl⟩
  exact ⟨⟨a, b, c, d⟩, rfl, ha, hb, hc, hd⟩

theorem is_Jns : Is Try.prog 38 (List Jn) := is_slice (e := 25) (by kernel_rfl) is_Jn
theorem is_Pol : Is Try.prog 57 Pol := by
  refine is_of (opens_structB (ts := [3, 3, 25, 3]) [IsInt, IsInt, (fun l => ∃ x : Jn, l = Enc.cs x ∧ Enc.ok x), IsInt] (by kernel_rfl) rfl ?_) ?_
  · intro i u Q hu hQ
    have hint : Opens Try.prog 3 IsInt := opens_int (intB_und (by kernel_rfl)).1 (intB_und (by kernel_rfl)).2
    match i, hu, hQ with
    | 0, hu, hQ => cases hu; cases hQ; exact @hint
    | 1, hu, hQ => cases hu; cases hQ; exact @hint
    | 2, hu, hQ => cases hu; cases hQ; exact @is_Jn
    | 3, hu, hQ => cases hu; cases hQ; exact @hint
    | i + 4, hu, _ => simp at hu
  · rintro l ⟨_, _, rfl, ⟨a, rfl, ha⟩, _, _, rfl, ⟨b, rfl, hb⟩, _, _, rfl, ⟨c, rfl, hc⟩, _, _, rfl, ⟨d, rfl, hd⟩, rfl⟩
    exact ⟨⟨a, b, c, d⟩, rfl, ha, hb, hc, hd⟩

theorem is_Pols : Is Try.prog 39 (List Pol) := is_slice (e := 57) (by kernel_rfl) is_Pol
end Go.Pv
