/- Closure phases and amplitudes, in plain Lean. -/
import Derived.Test.YtilmadidjihfkaaPlTri
import Derived.Test.YtilmadidjihfkaaPlGain
namespace Go.Pv
open Go.Vc

structure Pr where
  a : Int
  b : Int
deriving DecidableEq

instance : Enc Pr where
  sz := 2
  cs l := [i64 l.a, i64 l.b]
  ok l := I64 l.a ∧ I64 l.b
  len _ := rfl
  pos := by decide

def gD (l : List Vis) (s : Pr) : Cx := (got s.a s.b l).getD c0

/-- The visibilities of some steps. -/
def along27 (l : List Vis) (st : List Pr) : List Cx × Int :=
  if st.all (fun s => (got s.a s.b l).isSome) then (if st.any (fun s => decide (gD l s).zero) then ([], 18) else (st.map (gD l), 0)) else ([], 6)

/-- A circle's steps. -/
def pairs (c : List Int) : List Pr := (List.range c.length).map fun k => ⟨c.getD k 0, c.getD ((k + 1) % c.length) 0⟩

def turned (r v : Cx) : Cx × Int :=
  if (ray v).2 ≠ 0 then (c0, (ray v).2) else if (mul r (ray v).1).2 ≠ 0 then (c0, (mul r (ray v).1).2) else ray (mul r (ray v).1).1

def fold27 (r : Cx) : List Cx → Cx × Int
  | [] => (r, 0)
  | v :: t => if (turned r v).2 ≠ 0 then (c0, (turned r v).2) else fold27 (turned r v).1 t

def circle (c : List Int) : Prop := 3 ≤ c.length ∧ c.length ≤ 8 ∧ apart c
instance (c : List Int) : Decidable (circle c) := by unfold circle; infer_instance

def phase (l : List Vis) (c : List Int) : Cx × Int :=
  if ck27 l ≠ 0 then (c0, ck27 l) else if ¬ circle c then (c0, 2) else if (along27 l (pairs c)).2 ≠ 0 then (c0, (along27 l (pairs c)).2) else fold27 one (along27 l (pairs c)).1

def f0 : Frac := ⟨0, 0⟩

def amp4 (p q r s : Cx) : Frac × Int :=
  if (mul p q).2 ≠ 0 then (f0, (mul p q).2) else if (mul r s).2 ≠ 0 then (f0, (mul r s).2) else if (div (mul p q).1 (mul r s).1).2 ≠ 0 then (f0, (div (mul p q).1 (mul r s).1).2) else nrm (div (mul p q).1 (mul r s).1).1

def amp (l : List Vis) (a b c d : Int) : Frac × Int :=
  if ck27 l ≠ 0 then (f0, ck27 l) else if ¬ apart [a, b, c, d] then (f0, 2) else if (along27 l [⟨a, b⟩, ⟨c, d⟩, ⟨a, c⟩, ⟨b, d⟩]).2 ≠ 0 then (f0, (along27 l [⟨a, b⟩, ⟨c, d⟩, ⟨a, c⟩, ⟨b, d⟩]).2)
  else amp4 (gD l ⟨a, b⟩) (gD l ⟨c, d⟩) (gD l ⟨a, c⟩) (gD l ⟨b, d⟩)

theorem got_valid {l : List Vis} (hl : ∀ v ∈ l, v.good 8) {i j : Int} {c : Cx} (h : got i j l = some c) : c.valid := by
  induction l with
  | nil => cases h
  | cons v r ih =>
    have g := (hl v (by simp)).2.2.2.2
    unfold got at h
    split at h
    · cases h; exact g
    · split at h
      · cases h; exact conj_valid g
      · exact ih (fun u hu => hl u (by simp [hu])) h

theorem gD_valid {l : List Vis} (hl : ∀ v ∈ l, v.good 8) {s : Pr} (h : (got s.a s.b l).isSome = true) : (gD l s).valid := by
  unfold gD
  cases hg : got s.a s.b l with
  | none => rw [hg] at h; cases h
  | some c => exact got_valid hl hg

theorem along27_0 {l : List Vis} (hl : ∀ v ∈ l, v.good 8) {st : List Pr} (h : (along27 l st).2 = 0) : (along27 l st).1 = st.map (gD l) ∧ (∀ s ∈ st, (got s.a s.b l).isSome = true) ∧ ∀ s ∈ st, (gD l s).valid ∧ ¬ (gD l s).zero := by
  unfold along27 at h ⊢
  split at h
  · rename_i h1
    split at h
    · simp at h
    · rename_i h2
      rw [if_pos h1, if_neg h2]
      rw [List.all_eq_true] at h1
      refine ⟨rfl, h1, fun s hs => ⟨gD_valid hl (h1 s hs), fun hz => h2 ?_⟩⟩
      rw [List.any_eq_true]
      exact ⟨s, hs, by simpa using hz⟩
  · simp at h

theorem nz_gcd {a : Cx} (h : ¬ a.zero) : 0 < Int.gcd a.re a.im := by
  rcases Nat.eq_zero_or_pos (Int.gcd a.re a.im) with h0 | h0
  · rw [Int.gcd_eq_zero_iff] at h0; exact absurd h0 h
  · exact h0

/-- A ray is a valid number, and its own ray. -/
theorem ray_ok {a : Cx} (ha : a.valid) (hz : ¬ a.zero) : (ray a).2 = 0 ∧ (ray a).1.valid ∧ ¬ (ray a).1.zero ∧ (ray a).1 = ⟨a.re / Int.gcd a.re a.im, a.im / Int.gcd a.re a.im, 1⟩ ∧ Int.gcd (ray a).1.re (ray a).1.im = 1 := by
  have hg := nz_gcd hz
  have e : ray a = (⟨a.re / Int.gcd a.re a.im, a.im / Int.gcd a.re a.im, 1⟩, 0) := by rw [ray, if_pos ha, if_neg hz]
  have d1 : ((Int.gcd a.re a.im : Nat) : Int) ∣ a.re := Int.gcd_dvd_left ..
  have d2 : ((Int.gcd a.re a.im : Nat) : Int) ∣ a.im := Int.gcd_dvd_right ..
  have l1 := ediv_le hg d1
  have l2 := ediv_le hg d2
  have hc : Int.gcd (a.re / Int.gcd a.re a.im) (a.im / Int.gcd a.re a.im) = 1 := cop_div hg
  obtain ⟨f1, f2, _, _⟩ := valid_fits ha
  unfold fits at f1 f2
  rw [e]
  refine ⟨rfl, ⟨by simp, by simp, by unfold fits; simp only; omega, by unfold fits; simp only; omega, ?_⟩, ?_, rfl, hc⟩
  · unfold g3; simp only; rw [hc]; rfl
  · rintro ⟨z1, z2⟩
    simp only at z1 z2
    rw [z1, z2] at hc
    simp at hc

theorem ray_ray {a : Cx} (h1 : a.den = 1) (h2 : Int.gcd a.re a.im = 1) (hv : a.valid) (hz : ¬ a.zero) : ray a = (a, 0) := by
  rw [ray, if_pos hv, if_neg hz, h2]
  cases a
  simp at h1
  simp [h1]

theorem one_valid : one.valid := by decide

theorem mul_one_left {a : Cx} (ha : a.valid) : mul one a = (a, 0) := by
  rw [mul, if_pos ⟨one_valid, ha⟩]
  have e : make (one.re * a.re - one.im * a.im) (one.re * a.im + one.im * a.re) (one.den * a.den) = make a.re a.im a.den := by simp [one]
  rw [e, make_valid (by have := ha.1; omega), norm_low (by have := ha.1; omega) ha.2.2.2.2]
  exact if_pos ha

theorem turned_one {v : Cx} (hv : v.valid) (hz : ¬ v.zero) : turned one v = ray v := by
  obtain ⟨h1, h2, h3, h4, h5⟩ := ray_ok hv hz
  rw [turned, if_neg (by simp [h1]), mul_one_left h2, if_neg (by simp), ray_ray (by rw [h4]) h5 h2 h3]
  rw [← h1]

/-- Numbers are zero only if a factor is. -/
theorem mul_zero_iff {a b : Cx} (ha : a.valid) (hb : b.valid) (h : (mul a b).2 = 0) : (mul a b).1.zero ↔ a.zero ∨ b.zero := by
  obtain ⟨h1, h2⟩ := mul_ok ha hb h
  have hp : 0 < a.den * b.den := mul_pos' ha.1 hb.1
  obtain ⟨g, hg, e1, e2, e3, _, _⟩ := norm_spec (x := a.re * b.re - a.im * b.im) (y := a.re * b.im + a.im * b.re) hp
  rw [← h1] at e1 e2
  have key : (a.re * b.re - a.im * b.im) * (a.re * b.re - a.im * b.im) + (a.re * b.im + a.im * b.re) * (a.re * b.im + a.im * b.re) = (a.re * a.re + a.im * a.im) * (b.re * b.re + b.im * b.im) := by grind
  have nz : ∀ c : Cx, c.re * c.re + c.im * c.im = 0 ↔ c.zero := by
    intro c
    constructor
    · intro h
      have s1 := sq_nonneg c.re
      have s2 := sq_nonneg c.im
      have t1 : c.re * c.re = 0 := by omega
      have t2 : c.im * c.im = 0 := by omega
      exact ⟨by rcases Int.mul_eq_zero.1 t1 with h | h <;> exact h, by rcases Int.mul_eq_zero.1 t2 with h | h <;> exact h⟩
    · rintro ⟨h1, h2⟩; rw [h1, h2]; rfl
  constructor
  · rintro ⟨z1, z2⟩
    rw [z1] at e1
    rw [z2] at e2
    rw [e1, e2] at key
    have : (a.re * a.re + a.im * a.im) * (b.re * b.re + b.im * b.im) = 0 := by rw [← key]; simp
    rcases Int.mul_eq_zero.1 this with h | h
    · exact .inl ((nz a).1 h)
    · exact .inr ((nz b).1 h)
  · intro h
    have hx : a.re * b.re - a.im * b.im = 0 ∧ a.re * b.im + a.im * b.re = 0 := by
      rcases h with ⟨z1, z2⟩ | ⟨z1, z2⟩ <;> simp [z1, z2]
    rw [hx.1] at e1
    rw [hx.2] at e2
    have hgz : ((g : Nat) : Int) ≠ 0 := by omega
    exact ⟨(Int.mul_eq_zero.1 e1.symm).resolve_right hgz, (Int.mul_eq_zero.1 e2.symm).resolve_right hgz⟩

/-- One more step: it fails only by range, and gives a ray. -/
theorem turned_err {r v : Cx} (hr : r.valid) (hrz : ¬ r.zero) (hv : v.valid) (hz : ¬ v.zero) :
    ((mul r (ray v).1).2 = 0 ∧ turned r v = ray (mul r (ray v).1).1 ∧ (turned r v).2 = 0 ∧ (turned r v).1.valid ∧ ¬ (turned r v).1.zero ∧ (turned r v).1.den = 1 ∧ Int.gcd (turned r v).1.re (turned r v).1.im = 1) ∨ (mul r (ray v).1 = (c0, 16) ∧ turned r v = (c0, 16)) := by
  obtain ⟨h1, h2, h3, _, _⟩ := ray_ok hv hz
  rcases mul_err hr h2 with h | h
  · refine .inl ?_
    have e : turned r v = ray (mul r (ray v).1).1 := by rw [turned, if_neg (by simp [h1]), if_neg (by simp [h])]
    have hnz : ¬ (mul r (ray v).1).1.zero := by
      rw [mul_zero_iff hr h2 h]
      rintro (h | h)
      · exact hrz h
      · exact h3 h
    obtain ⟨k1, k2, k3, k4, k5⟩ := ray_ok (mul_ok hr h2 h).2 hnz
    refine ⟨h, e, ?_, ?_, ?_, ?_, ?_⟩
    · rw [e]; exact k1
    · rw [e]; exact k2
    · rw [e]; exact k3
    · rw [e, k4]
    · rw [e]; exact k5
  · exact .inr ⟨h, by rw [turned, if_neg (by simp [h1]), h, if_pos (by simp)]⟩

theorem one_nz : ¬ one.zero := by decide

end Go.Pv
