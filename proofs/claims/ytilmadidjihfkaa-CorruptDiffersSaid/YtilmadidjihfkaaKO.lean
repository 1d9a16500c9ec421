/- The arguments of the laws: events, series. -/
import Derived.Test.YtilmadidjihfkaaClO
import Derived.Test.YtilmadidjihfkaaPlCxm
namespace Go.Pv
open Go.Proofs

theorem is_Spo : Is Try.prog 25 Spo := by
  refine is_of (opens_structB (ts := [5, 3, 3, 3, 23, 3]) [IsU8, IsInt, IsInt, IsInt, (fun l => ∃ x : Cx, l = Enc.cs x ∧ Enc.ok x), IsInt] (by kernel_rfl) rfl ?_) ?_
  · intro i u Q hu hQ
    have hint : Opens Try.prog 3 IsInt := opens_int (intB_und (by kernel_rfl)).1 (intB_und (by kernel_rfl)).2
    have hu8 : Opens Try.prog 5 IsU8 := opens_u8 (u8B_und (by kernel_rfl)).1 (u8B_und (by kernel_rfl)).2
    match i, hu, hQ with
    | 0, hu, hQ => cases hu; cases hQ; exact @hu8
    | 1, hu, hQ => cases hu; cases hQ; exact @hint
    | 2, hu, hQ => cases hu; cases hQ; exact @hint
    | 3, hu, hQ => cases hu; cases hQ; exact @hint
    | 4, hu, hQ => cases hu; cases hQ; exact @is_Cx
    | 5, hu, hQ => cases hu; cases hQ; exact @hint
    | i + 6, hu, _ => simp at hu
  · rintro l ⟨_, _, rfl, ⟨a, rfl, ha⟩, _, _, rfl, ⟨b, rfl, hb⟩, _, _, rfl, ⟨c, rfl, hc⟩, _, _, rfl, ⟨d, rfl, hd⟩, _, _, rfl, ⟨e, rfl, he⟩, _, _, rfl, ⟨f, rfl, hf⟩, rfl⟩
    exact ⟨⟨a, b, c, d, e, f⟩, rfl, ha, hb, hc, hd, he, hf⟩

theorem is_Spos : Is Try.prog 32 (List Spo) := is_slice (e := 25) (by kernel_rfl) is_Spo
theorem is_Serie : Is Try.prog 37 (List (List Vis)) := is_slice (e := 48) (by kernel_rfl) is_Viss
end Go.Pv
