/- The arguments of the sky's laws. -/
import Derived.Test.YtiahapcnajnlkaaT
import Derived.Test.YtiahapcnajnlkaaPlSky
namespace Go.Pv
open Go.Proofs

theorem is_Lamp : Is Try.prog 33 Lamp := by
  refine is_of (opens_structB (ts := [3, 3, 3]) [IsInt, IsInt, IsInt] (by kernel_rfl) rfl ?_) ?_
  · intro i u Q hu hQ
    have hint : Opens Try.prog 3 IsInt := opens_int (intB_und (by kernel_rfl)).1 (intB_und (by kernel_rfl)).2
    match i, hu, hQ with
    | 0, hu, hQ => cases hu; cases hQ; exact @hint
    | 1, hu, hQ => cases hu; cases hQ; exact @hint
    | 2, hu, hQ => cases hu; cases hQ; exact @hint
    | i + 3, hu, _ => simp at hu
  · rintro l ⟨_, _, rfl, ⟨a, rfl, ha⟩, _, _, rfl, ⟨b, rfl, hb⟩, _, _, rfl, ⟨c, rfl, hc⟩, rfl⟩
    exact ⟨⟨a, b, c⟩, rfl, ha, hb, hc⟩

theorem is_Place : Is Try.prog 41 Place := by
  refine is_of (opens_structB (ts := [3, 3]) [IsInt, IsInt] (by kernel_rfl) rfl ?_) ?_
  · intro i u Q hu hQ
    have hint : Opens Try.prog 3 IsInt := opens_int (intB_und (by kernel_rfl)).1 (intB_und (by kernel_rfl)).2
    match i, hu, hQ with
    | 0, hu, hQ => cases hu; cases hQ; exact @hint
    | 1, hu, hQ => cases hu; cases hQ; exact @hint
    | i + 2, hu, _ => simp at hu
  · rintro l ⟨_, _, rfl, ⟨a, rfl, ha⟩, _, _, rfl, ⟨b, rfl, hb⟩, rfl⟩
    exact ⟨⟨a, b⟩, rfl, ha, hb⟩

theorem is_Lamps : Is Try.prog 22 (List Lamp) := is_slice (e := 33) (by kernel_rfl) is_Lamp
theorem is_Places : Is Try.prog 35 (List Place) := is_slice (e := 41) (by kernel_rfl) is_Place
end Go.Pv
