/- The arguments of the laws: matrices. -/
import Derived.Test.YtljahbpkhienkaaClO
import Derived.Test.YtljahbpkhienkaaPlCxm
namespace Go.Pv
open Go.Proofs

theorem is_Jn : Is Try.prog 25 Jn := by
  refine is_of (opens_array (n := 4) (e := 23) (arrB_und (by kernel_rfl)).1 (arrB_und (by kernel_rfl)).2 is_Cx) ?_
  rintro l ⟨_, _, rfl, ⟨a, rfl, ha⟩, _, _, rfl, ⟨b, rfl, hb⟩, _, _, rfl, ⟨c, rfl, hc⟩, _, _, rfl, ⟨d, rfl, hd⟩, rfl⟩
  exact ⟨⟨a, b, c, d⟩, rfl, ha, hb, hc, hd⟩
end Go.Pv
