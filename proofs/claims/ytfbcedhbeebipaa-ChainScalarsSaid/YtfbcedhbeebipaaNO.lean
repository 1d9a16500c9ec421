/- The arguments of the laws: chains, cubes. -/
import Derived.Test.YtfbcedhbeebipaaClO
import Derived.Test.YtfbcedhbeebipaaPlCxm
namespace Go.Pv
open Go.Proofs

theorem is_Jn : Is Try.prog 26 Jn := by
  refine is_of (opens_array (n := 4) (e := 23) (arrB_und (by kernel_rfl)).1 (arrB_und (by kernel_rfl)).2 is_Cx) ?_
  rintro l ⟨_, _, rfl, ⟨a, rfl, ha⟩, _, _, rfl, ⟨b, rfl, hb⟩, _, _, rfl, ⟨c, rfl, hc⟩, _, _, rfl, ⟨d, rfl, hd⟩, rfl⟩
  exact ⟨⟨a, b, c, d⟩, rfl, ha, hb, hc, hd⟩

theorem is_Jns : Is Try.prog 30 (List Jn) := is_slice (e := 26) (by kernel_rfl) is_Jn

theorem is_IntsN : Is Try.prog 31 (List Int) := is_slice (e := 3) (by kernel_rfl) (is_int (by kernel_rfl))
theorem is_CxsN : Is Try.prog 29 (List (List Cx)) := is_slice (e := 28) (by kernel_rfl) is_Cxs
theorem is_JnsN : Is Try.prog 32 (List (List Jn)) := is_slice (e := 30) (by kernel_rfl) is_Jns

theorem is_Stg : Is Try.prog 34 Stg := by
  refine is_of (opens_structB (ts := [5, 28, 29, 30, 31, 32]) [IsU8, (fun l => ∃ x : List Cx, l = Enc.cs x ∧ Enc.ok x), (fun l => ∃ x : List (List Cx), l = Enc.cs x ∧ Enc.ok x), (fun l => ∃ x : List Jn, l = Enc.cs x ∧ Enc.ok x), (fun l => ∃ x : List Int, l = Enc.cs x ∧ Enc.ok x), (fun l => ∃ x : List (List Jn), l = Enc.cs x ∧ Enc.ok x)] (by kernel_rfl) rfl ?_) ?_
  · intro i u Q hu hQ
    have hu8 : Opens Try.prog 5 IsU8 := opens_u8 (u8B_und (by kernel_rfl)).1 (u8B_und (by kernel_rfl)).2
    match i, hu, hQ with
    | 0, hu, hQ => cases hu; cases hQ; exact @hu8
    | 1, hu, hQ => cases hu; cases hQ; exact @is_Cxs
    | 2, hu, hQ => cases hu; cases hQ; exact @is_CxsN
    | 3, hu, hQ => cases hu; cases hQ; exact @is_Jns
    | 4, hu, hQ => cases hu; cases hQ; exact @is_IntsN
    | 5, hu, hQ => cases hu; cases hQ; exact @is_JnsN
    | i + 6, hu, _ => simp at hu
  · rintro l ⟨_, _, rfl, ⟨a, rfl, ha⟩, _, _, rfl, ⟨b, rfl, hb⟩, _, _, rfl, ⟨c, rfl, hc⟩, _, _, rfl, ⟨d, rfl, hd⟩, _, _, rfl, ⟨e, rfl, he⟩, _, _, rfl, ⟨f, rfl, hf⟩, rfl⟩
    exact ⟨⟨a, b, c, d, e, f⟩, rfl, ha, hb, hc, hd, he, hf⟩

theorem is_Stgs : Is Try.prog 35 (List Stg) := is_slice (e := 34) (by kernel_rfl) is_Stg

theorem is_Cube : Is Try.prog 49 Cube := by
  refine is_of (opens_structB (ts := [3, 3, 30]) [IsInt, IsInt, (fun l => ∃ x : List Jn, l = Enc.cs x ∧ Enc.ok x)] (by kernel_rfl) rfl ?_) ?_
  · intro i u Q hu hQ
    have hint : Opens Try.prog 3 IsInt := opens_int (intB_und (by kernel_rfl)).1 (intB_und (by kernel_rfl)).2
    match i, hu, hQ with
    | 0, hu, hQ => cases hu; cases hQ; exact @hint
    | 1, hu, hQ => cases hu; cases hQ; exact @hint
    | 2, hu, hQ => cases hu; cases hQ; exact @is_Jns
    | i + 3, hu, _ => simp at hu
  · rintro l ⟨_, _, rfl, ⟨a, rfl, ha⟩, _, _, rfl, ⟨b, rfl, hb⟩, _, _, rfl, ⟨c, rfl, hc⟩, rfl⟩
    exact ⟨⟨a, b, c⟩, rfl, ha, hb, hc⟩

theorem is_Cubes : Is Try.prog 45 (List Cube) := is_slice (e := 49) (by kernel_rfl) is_Cube
end Go.Pv
