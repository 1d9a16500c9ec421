/- Triples of stations, in plain Lean. -/
import Derived.Test.YtilmadidjihfkaaPlVis
namespace Go.Pv
open Go.Vc

theorem tris_b (l : List Vis) {a : Nat} (ha : a < 8) : tris l (a * 64 + (a + 1) * 8) = tris l (a * 64) := by
  refine tris_skip l _ _ fun m h1 h2 => ?_
  have e1 : m / 64 = a := by omega
  have e2 : ¬ (m / 64 < m / 8 % 8) := by omega
  simp [isTri, e2]

theorem tris_c (l : List Vis) {a b : Nat} (ha : a < 8) (hb : b < 8) : tris l (a * 64 + b * 8 + (b + 1)) = tris l (a * 64 + b * 8) := by
  refine tris_skip l _ _ fun m h1 h2 => ?_
  have e2 : ¬ (m / 8 % 8 < m % 8) := by omega
  simp [isTri, e2]

theorem isTri_at (l : List Vis) {a b c : Nat} (hab : a < b) (hbc : b < c) (hc : c < 8) : isTri l (a * 64 + b * 8 + c) = (hit l (a * 8 + b) && hit l (b * 8 + c) && hit l (a * 8 + c)) := by
  have e1 : (a * 64 + b * 8 + c) / 64 = a := by omega
  have e2 : (a * 64 + b * 8 + c) / 8 % 8 = b := by omega
  have e3 : (a * 64 + b * 8 + c) % 8 = c := by omega
  simp [isTri, e1, e2, e3, hab, hbc]

theorem tris_at (l : List Vis) {a b c : Nat} (hab : a < b) (hbc : b < c) (hc : c < 8) : tris l (a * 64 + b * 8 + (c + 1)) = tris l (a * 64 + b * 8 + c) ++ if (hit l (a * 8 + b) && hit l (b * 8 + c) && hit l (a * 8 + c)) then [⟨a, b, c⟩] else [] := by
  rw [← Nat.add_assoc, tris, isTri_at l hab hbc hc]
  have e1 : (a * 64 + b * 8 + c) / 64 = a := by omega
  have e2 : (a * 64 + b * 8 + c) / 8 % 8 = b := by omega
  have e3 : (a * 64 + b * 8 + c) % 8 = c := by omega
  rw [e1, e2, e3]

end Go.Pv
