/- The arguments of the laws: bandpasses, spectra. -/
import Derived.Test.YtaaijmojlodefaaClO
import Derived.Test.YtaaijmojlodefaaPlBandBm
namespace Go.Pv
open Go.Proofs

theorem is_Bands : Is Try.prog 22 (List (List Cx)) := is_slice (e := 23) (by kernel_rfl) is_Cxs

theorem is_Spec : Is Try.prog 58 Spec := by
  refine is_of (opens_structB (ts := [3, 3, 23, 3]) [IsInt, IsInt, (fun l => ∃ x : List Cx, l = Enc.cs x ∧ Enc.ok x), IsInt] (by kernel_rfl) rfl ?_) ?_
  · intro i u Q hu hQ
    have hint : Opens Try.prog 3 IsInt := opens_int (intB_und (by kernel_rfl)).1 (intB_und (by kernel_rfl)).2
    match i, hu, hQ with
    | 0, hu, hQ => cases hu; cases hQ; exact @hint
    | 1, hu, hQ => cases hu; cases hQ; exact @hint
    | 2, hu, hQ => cases hu; cases hQ; exact @is_Cxs
    | 3, hu, hQ => cases hu; cases hQ; exact @hint
    | i + 4, hu, _ => simp at hu
  · rintro l ⟨_, _, rfl, ⟨a, rfl, ha⟩, _, _, rfl, ⟨b, rfl, hb⟩, _, _, rfl, ⟨c, rfl, hc⟩, _, _, rfl, ⟨d, rfl, hd⟩, rfl⟩
    exact ⟨⟨a, b, c, d⟩, rfl, ha, hb, hc, hd⟩

theorem is_Specs : Is Try.prog 40 (List Spec) := is_slice (e := 58) (by kernel_rfl) is_Spec
end Go.Pv
