/- Events over time, in plain Lean. -/
import Derived.Test.YtilmadidjihfkaaPlCor
import Derived.Test.YtilmadidjihfkaaPlClo
namespace Go.Pv
open Go.Vc

theorem quart_nn {q : Int} (h : 0 ≤ q) : quart q = (q % 4).toNat := by
  unfold quart
  rw [Int.tmod_eq_emod_of_nonneg h, Int.tmod_eq_emod_of_nonneg (by omega)]
  congr 1
  omega

theorem rotN_rotN {a b c : Nat} (ha : a < 4) (hb : b < 4) (hc : c = (a + b) % 4) : rotN a (rotN b one) = rotN c one := by
  subst hc
  obtain rfl | rfl | rfl | rfl : a = 0 ∨ a = 1 ∨ a = 2 ∨ a = 3 := by omega
  all_goals
    obtain rfl | rfl | rfl | rfl : b = 0 ∨ b = 1 ∨ b = 2 ∨ b = 3 := by omega
    all_goals decide

def row1 (x : Spo) (t : Int) : List Cx := (List.range 8).map fun (i : Nat) => if x.st = (i : Int) then num x t else one

theorem row1_length (x : Spo) (t : Int) : (row1 x t).length = 8 := by simp [row1]
theorem row1_get (x : Spo) (t : Int) {k : Nat} (h : k < (row1 x t).length) : (row1 x t)[k] = if x.st = (k : Int) then num x t else one := by simp [row1]

theorem stn1 {x : Spo} (h : x.ok) (t : Int) (i : Nat) : stn [x] t i = (if x.st = (i : Int) then num x t else one, 0) := by
  unfold stn
  split
  · rename_i e
    have : nums [x] t i = [num x t] := by simp [nums, e]
    rw [this]
    show accStep (one, 0) (num x t) = _
    rw [accStep, if_neg (by simp), mul_one_left (num_valid h t)]
    simp
  · rename_i e
    have : nums [x] t i = [] := by simp [nums, e]
    rw [this]; rfl

theorem table1 {x : Spo} (h : x.ok) {t : Int} (ht : 0 ≤ t ∧ t < 32) : table [x] t = (row1 x t, 0) := by
  rw [table, if_neg (by omega), if_neg (by simp), if_pos (by simpa using h), if_pos (show allOk [x] t 8 from fun i _ => by rw [stn1 h])]
  congr 1
  unfold rowOf row1
  simp only [stn1 h]

theorem num_off {x : Spo} {t : Int} (h : t < x.fr ∨ x.to ≤ t) : num x t = one := by rw [num, if_pos h]
theorem num_gain {x : Spo} {t : Int} (h : ¬ (t < x.fr ∨ x.to ≤ t)) (hk : x.kind = 1) : num x t = x.v := by rw [num, if_neg h, if_pos hk]
theorem num_sky {x : Spo} {t : Int} (h : ¬ (t < x.fr ∨ x.to ≤ t)) (hk : x.kind = 2) : num x t = rotN (quart x.q) one := by rw [num, if_neg h, if_neg (by omega), if_neg (by omega)]
theorem num_clock {x : Spo} {t : Int} (h : ¬ (t < x.fr ∨ x.to ≤ t)) (hk : x.kind = 3) : num x t = rotN (quart (x.q * (t - x.fr))) one := by rw [num, if_neg h, if_neg (by omega), if_pos hk]

theorem clock_from {x : Spo} (h : ¬ (x.fr < x.fr ∨ x.to ≤ x.fr)) (hk : x.kind = 3) : num x x.fr = one := by
  rw [num_clock h hk, show x.q * (x.fr - x.fr) = 0 by rw [Int.sub_self, Int.mul_zero]]; rfl

theorem clock_4 {x : Spo} {t : Int} (hq : 0 ≤ x.q) (h : x.fr ≤ t) (h4 : t + 4 < x.to) (hk : x.kind = 3) : num x (t + 4) = num x t := by
  have h0 : 0 ≤ x.q * (t - x.fr) := Int.mul_nonneg hq (by omega)
  rw [num_clock (by omega) hk, num_clock (by omega) hk, show x.q * (t + 4 - x.fr) = x.q * (t - x.fr) + 4 * x.q by rw [show t + 4 - x.fr = (t - x.fr) + 4 by omega, Int.mul_add]; omega]
  rw [quart_nn (by omega), quart_nn h0]
  congr 2
  omega

theorem clock_1 {x : Spo} {t : Int} (hq : 0 ≤ x.q) (h : x.fr ≤ t) (h4 : t + 1 < x.to) (hk : x.kind = 3) : rotN (quart x.q) (num x t) = num x (t + 1) := by
  have h0 : 0 ≤ x.q * (t - x.fr) := Int.mul_nonneg hq (by omega)
  rw [num_clock (by omega) hk, num_clock (by omega) hk, show x.q * (t + 1 - x.fr) = x.q * (t - x.fr) + x.q by rw [show t + 1 - x.fr = (t - x.fr) + 1 by omega, Int.mul_add]; omega]
  refine rotN_rotN (quart_lt _) (quart_lt _) ?_
  rw [quart_nn (by omega), quart_nn h0, quart_nn hq]
  omega
end Go.Pv
