/- Contracts of the closure's functions: the reference's amplitudes; the law ClosurePhases. -/
import Derived.Test.YtilmadidjihfkaaCq
namespace Go.Pv
open Go.Vc
open Go.Proofs
set_option maxRecDepth 10000

theorem r_amp (l : List Vis) (a b c d : Int) : Ret Try.prog 56 [sl l, i64 a, i64 b, i64 c, i64 d] [] (resF (amp l a b c d)) := by
  refine ret (fn := Try.f56) (by kernel_rfl) (by kernel_rfl) rfl ?_
  refine ⟨[], _, r_check27 l, rfl, ?_⟩
  refine ⟨fun h1 => ?_, fun h1 => ?_⟩
  · simp at h1
    refine ⟨[], _, r_check27 l, rfl, ?_⟩
    rw [amp, if_pos h1]; rfl
  simp at h1
  obtain ⟨hlen, hgood, _⟩ := ck27_0 h1
  refine ⟨[], _, r_apart27 [a, b, c, d] (by simp), rfl, ?_⟩
  refine ⟨fun h2 => ?_, fun h2 => ?_⟩
  · simp at h2
    rw [amp, if_neg (by omega), if_pos h2]; rfl
  simp at h2
  refine ⟨[], _, r_got l a b hlen hgood, rfl, ?_⟩
  refine ⟨[], _, r_got l c d hlen hgood, rfl, ?_⟩
  refine ⟨[], _, r_got l a c hlen hgood, rfl, ?_⟩
  refine ⟨[], _, r_got l b d hlen hgood, rfl, ?_⟩
  have none6 : ∀ s ∈ [(⟨a, b⟩ : Pr), ⟨c, d⟩, ⟨a, c⟩, ⟨b, d⟩], (got s.a s.b l).isSome = false → SV.tup [.p (fr f0), .p (i64 6)] = resF (amp l a b c d) := fun s hs h => by
    have e : along27 l [⟨a, b⟩, ⟨c, d⟩, ⟨a, c⟩, ⟨b, d⟩] = ([], 6) := by
      rw [along27, if_neg]
      rw [List.all_eq_true]
      intro h'
      have := h' s hs
      rw [h] at this
      cases this
    rw [amp, if_neg (by omega), if_neg (by simp [h2]), e, if_pos (by simp)]
  refine ⟨fun hw => ?_, fun hw => ?_⟩
  rotate_left
  · exact none6 ⟨a, b⟩ (by simp) (by simpa using hw)
  refine ⟨fun hx => ?_, fun hx => ?_⟩
  rotate_left
  · exact none6 ⟨c, d⟩ (by simp) (by simpa using hx)
  refine ⟨fun hy => ?_, fun hy => ?_⟩
  rotate_left
  · exact none6 ⟨a, c⟩ (by simp) (by simpa using hy)
  refine ⟨fun hz => ?_, fun hz => ?_⟩
  · exact none6 ⟨b, d⟩ (by simp) (by simpa using hz)
  have hw : (got a b l).isSome = true := by simpa using hw
  have hx : (got c d l).isSome = true := by simpa using hx
  have hy : (got a c l).isSome = true := by simpa using hy
  have hz : (got b d l).isSome = true := by simpa using hz
  have hall : ([(⟨a, b⟩ : Pr), ⟨c, d⟩, ⟨a, c⟩, ⟨b, d⟩].all fun s => (got s.a s.b l).isSome) = true := by simp [hw, hx, hy, hz]
  have zero18 : ∀ s ∈ [(⟨a, b⟩ : Pr), ⟨c, d⟩, ⟨a, c⟩, ⟨b, d⟩], (gD l s).zero → SV.tup [.p (fr f0), .p (i64 18)] = resF (amp l a b c d) := fun s hs h => by
    have e : along27 l [⟨a, b⟩, ⟨c, d⟩, ⟨a, c⟩, ⟨b, d⟩] = ([], 18) := by
      rw [along27, if_pos hall, if_pos]
      rw [List.any_eq_true]
      exact ⟨s, hs, by simpa using h⟩
    rw [amp, if_neg (by omega), if_neg (by simp [h2]), e, if_pos (by simp)]
  have vA : (gD l ⟨a, b⟩).valid := gD_valid hgood hw
  have vB : (gD l ⟨c, d⟩).valid := gD_valid hgood hx
  have vC : (gD l ⟨a, c⟩).valid := gD_valid hgood hy
  have vD : (gD l ⟨b, d⟩).valid := gD_valid hgood hz
  refine ⟨[], _, r_zero (gD l ⟨a, b⟩), rfl, ?_⟩
  refine ⟨fun zA => ?_, fun zA => ?_⟩
  rotate_left
  · exact zero18 ⟨a, b⟩ (by simp) (by simpa using zA)
  refine ⟨[], _, r_zero (gD l ⟨c, d⟩), rfl, ?_⟩
  refine ⟨fun zB => ?_, fun zB => ?_⟩
  rotate_left
  · exact zero18 ⟨c, d⟩ (by simp) (by simpa using zB)
  refine ⟨[], _, r_zero (gD l ⟨a, c⟩), rfl, ?_⟩
  refine ⟨fun zC => ?_, fun zC => ?_⟩
  rotate_left
  · exact zero18 ⟨a, c⟩ (by simp) (by simpa using zC)
  refine ⟨[], _, r_zero (gD l ⟨b, d⟩), rfl, ?_⟩
  refine ⟨fun zD => ?_, fun zD => ?_⟩
  · exact zero18 ⟨b, d⟩ (by simp) (by simpa using zD)
  simp at zA zB zC zD
  have hal : along27 l [⟨a, b⟩, ⟨c, d⟩, ⟨a, c⟩, ⟨b, d⟩] = ([⟨a, b⟩, ⟨c, d⟩, ⟨a, c⟩, ⟨b, d⟩].map (gD l), 0) := by
    rw [along27, if_pos hall, if_neg]
    simp [zA, zB, zC, zD]
  have ha : amp l a b c d = amp4 (gD l ⟨a, b⟩) (gD l ⟨c, d⟩) (gD l ⟨a, c⟩) (gD l ⟨b, d⟩) := by rw [amp, if_neg (by omega), if_neg (by simp [h2]), hal, if_neg (by simp)]
  refine ⟨[], _, r_mul (gD l ⟨a, b⟩) (gD l ⟨c, d⟩), rfl, ?_⟩
  refine ⟨[], _, r_mul (gD l ⟨a, c⟩) (gD l ⟨b, d⟩), rfl, ?_⟩
  rw [ha]
  generalize gD l ⟨a, b⟩ = A at *
  generalize gD l ⟨c, d⟩ = B at *
  generalize gD l ⟨a, c⟩ = C at *
  generalize gD l ⟨b, d⟩ = D at *
  have e1 := mul_err vA vB
  have e2 := mul_err vC vD
  refine ⟨fun h4 => ?_, fun h4 => ?_⟩
  rotate_left
  · have h4 : (mul A B).2 ≠ 0 := by simpa using h4
    rcases e1 with e1 | e1
    · exact absurd e1 h4
    · show SV.tup [.p (fr f0), .p (i64 16)] = _
      rw [amp4, if_pos h4, e1]
  have h4 : (mul A B).2 = 0 := by simpa using h4
  refine ⟨fun h5 => ?_, fun h5 => ?_⟩
  · have h5 : (mul C D).2 ≠ 0 := by simpa using h5
    rcases e2 with e2 | e2
    · exact absurd e2 h5
    · show SV.tup [.p (fr f0), .p (i64 16)] = _
      rw [amp4, if_neg (by simp [h4]), if_pos h5, e2]
  have h5 : (mul C D).2 = 0 := by simpa using h5
  have v1 := (mul_ok vA vB h4).2
  have v2 := (mul_ok vC vD h5).2
  have nz : ¬ (mul C D).1.zero := by
    rw [mul_zero_iff vC vD h5]
    rintro (h | h)
    · exact zC h
    · exact zD h
  refine ⟨[], _, r_div (mul A B).1 (mul C D).1, rfl, ?_⟩
  refine ⟨fun h6 => ?_, fun h6 => ?_⟩
  · have h6 : (div (mul A B).1 (mul C D).1).2 ≠ 0 := by simpa using h6
    rcases div_errQ v1 v2 nz with e3 | e3
    · exact absurd e3 h6
    · show SV.tup [.p (fr f0), .p (i64 16)] = _
      rw [amp4, if_neg (by simp [h4]), if_neg (by simp [h5]), if_pos h6, e3]
  have h6 : (div (mul A B).1 (mul C D).1).2 = 0 := by simpa using h6
  have e4 : amp4 A B C D = nrm (div (mul A B).1 (mul C D).1).1 := by rw [amp4, if_neg (by simp [h4]), if_neg (by simp [h5]), if_neg (by simp [h6])]
  have v3 := div_ok v1 v2 h6
  refine ⟨[], _, r_norm (div (mul A B).1 (mul C D).1).1, rfl, ?_⟩
  refine ⟨fun h7 => ?_, fun h7 => ?_⟩
  · have h7 : (nrm (div (mul A B).1 (mul C D).1).1).2 ≠ 0 := by simpa using h7
    rcases nrm_errQ v3 with e5 | e5
    · exact absurd e5 h7
    · show SV.tup [.p (fr f0), .p (i64 16)] = _
      rw [e4, e5]
  have h7 : (nrm (div (mul A B).1 (mul C D).1).1).2 = 0 := by simpa using h7
  show SV.tup [.p (fr (nrm (div (mul A B).1 (mul C D).1).1).1), .p (i64 0)] = resF _
  rw [e4]
  show SV.tup [_, _] = SV.tup [_, .p (i64 (nrm (div (mul A B).1 (mul C D).1).1).2)]
  rw [h7]

theorem eqPL_fr (a b : Frac) : eqPL [i64 a.num, i64 a.den] [i64 b.num, i64 b.den] = decide (a = b) := by
  cases a; cases b
  rw [Bool.eq_iff_iff]
  simp [eqPL, eqP]

end Go.Pv
