/- Closure amplitudes: what they are, and exchanges of stations. -/
import Derived.Test.YteihdjifhnkhpaaPlPar
namespace Go.Pv
open Go.Vc

def ns (c : Cx) : Int := c.re * c.re + c.im * c.im
def ds (c : Cx) : Int := c.den * c.den

theorem ns_pos {c : Cx} (h : ¬ c.zero) : 0 < ns c := by
  have s1 := sq_nonneg c.re
  have s2 := sq_nonneg c.im
  unfold ns
  rcases Int.lt_trichotomy (c.re * c.re + c.im * c.im) 0 with h' | h' | h'
  · omega
  · have t1 : c.re * c.re = 0 := by omega
    have t2 : c.im * c.im = 0 := by omega
    exact absurd ⟨by rcases Int.mul_eq_zero.1 t1 with h | h <;> exact h, by rcases Int.mul_eq_zero.1 t2 with h | h <;> exact h⟩ h
  · exact h'

theorem ds_pos {c : Cx} (h : c.valid) : 0 < ds c := Int.mul_pos (by have := h.1; omega) (by have := h.1; omega)

theorem ns_conj (c : Cx) : ns (conj c) = ns c := by unfold ns conj; simp only; rw [Int.neg_mul_neg]
theorem ds_conj (c : Cx) : ds (conj c) = ds c := rfl

theorem norm_ns {x y z : Int} (hz : 0 < z) : ∃ g : Int, 0 < g ∧ x * x + y * y = ns (norm x y z) * g ∧ z * z = ds (norm x y z) * g := by
  obtain ⟨g, hg, e1, e2, e3, _⟩ := norm_spec (x := x) (y := y) hz
  refine ⟨(g : Int) * g, Int.mul_pos (by omega) (by omega), ?_, ?_⟩
  · unfold ns
    generalize norm x y z = m at *
    rw [e1, e2]; grind
  · unfold ds
    generalize norm x y z = m at *
    rw [e3]; grind

theorem mul_ns {a b : Cx} (ha : a.valid) (hb : b.valid) (h : (mul a b).2 = 0) : ns (mul a b).1 * (ds a * ds b) = ds (mul a b).1 * (ns a * ns b) := by
  rw [(mul_ok ha hb h).1]
  obtain ⟨g, hg, e1, e2⟩ := norm_ns (x := a.re * b.re - a.im * b.im) (y := a.re * b.im + a.im * b.re) (mul_pos' ha.1 hb.1)
  generalize norm (a.re * b.re - a.im * b.im) (a.re * b.im + a.im * b.re) (a.den * b.den) = m at *
  have f1 : ns a * ns b = ns m * g := by rw [← e1]; unfold ns; grind
  have f2 : ds a * ds b = ds m * g := by rw [← e2]; unfold ds; grind
  rw [f1, f2]; grind

theorem div_ns {a b : Cx} (ha : a.valid) (hb : b.valid) (hz : ¬ b.zero) (h : (div a b).2 = 0) : (div a b).1.valid ∧ ns (div a b).1 * (ds a * ns b) = ds (div a b).1 * (ns a * ds b) := by
  have hn := ns_pos hz
  rw [div, if_pos ⟨ha, hb⟩, if_neg hz] at h ⊢
  have hp : 0 < (b.re * b.re + b.im * b.im) * a.den := Int.mul_pos hn (by have := ha.1; omega)
  obtain ⟨h1, h2⟩ := make_ok hp h
  rw [h1]
  refine ⟨h2, ?_⟩
  obtain ⟨g, hg, e1, e2⟩ := norm_ns (x := (a.re * b.re + a.im * b.im) * b.den) (y := (a.im * b.re - a.re * b.im) * b.den) hp
  generalize norm ((a.re * b.re + a.im * b.im) * b.den) ((a.im * b.re - a.re * b.im) * b.den) ((b.re * b.re + b.im * b.im) * a.den) = m at *
  have f1 : ns a * ns b * ds b = ns m * g := by rw [← e1]; unfold ns ds; grind
  have f2 : ns b * ns b * ds a = ds m * g := by rw [← e2]; unfold ns ds; grind
  have hgz : g * ns b ≠ 0 := by
    have := Int.mul_pos hg hn
    omega
  apply Int.eq_of_mul_eq_mul_right hgz
  have : ns m * (ds a * ns b) * (g * ns b) = (ns m * g) * (ds a * ns b * ns b) := by grind
  rw [this, ← f1]
  have : ds m * (ns a * ds b) * (g * ns b) = (ds m * g) * (ns a * ds b * ns b) := by grind
  rw [this, ← f2]
  grind

theorem nrm_ns {a : Cx} (ha : a.valid) (hz : ¬ a.zero) (h : (nrm a).2 = 0) : 0 < (nrm a).1.num ∧ 0 < (nrm a).1.den ∧ Int.gcd (nrm a).1.num (nrm a).1.den = 1 ∧ (nrm a).1.num * ds a = (nrm a).1.den * ns a := by
  have hn := ns_pos hz
  have hd := ds_pos ha
  rw [nrm, if_pos ha] at h ⊢
  split at h
  · simp at h
  · rename_i h'
    rw [if_neg h']
    unfold ns at hn
    unfold ds at hd
    show 0 < (a.re * a.re + a.im * a.im) / _ ∧ 0 < (a.den * a.den) / _ ∧ _
    unfold ns ds
    generalize a.re * a.re + a.im * a.im = n at *
    generalize a.den * a.den = d at *
    have hg : 0 < Int.gcd n d := Int.gcd_pos_of_ne_zero_left _ (by omega)
    have d1 : ((Int.gcd n d : Nat) : Int) ∣ n := Int.gcd_dvd_left ..
    have d2 : ((Int.gcd n d : Nat) : Int) ∣ d := Int.gcd_dvd_right ..
    refine ⟨ediv_pos hg d1 hn, ediv_pos hg d2 hd, cop_div hg, ?_⟩
    show n / _ * d = d / _ * n
    obtain ⟨u, hu⟩ := d1
    obtain ⟨v, hv⟩ := d2
    have hG : ((Int.gcd n d : Nat) : Int) ≠ 0 := by omega
    generalize ((Int.gcd n d : Nat) : Int) = G at hu hv hG ⊢
    rw [hu, hv, Int.mul_ediv_cancel_left _ hG, Int.mul_ediv_cancel_left _ hG]
    grind

theorem frac_unique {a b c d : Int} (ha : 0 < a) (hb : 0 < b) (hc : 0 < c) (hd : 0 < d) (h1 : Int.gcd a b = 1) (h2 : Int.gcd c d = 1) (e : a * d = c * b) : a = c ∧ b = d := by
  have hp : par (a, b) (c, d) := ⟨d, b, hd, hb, e, Int.mul_comm b d⟩
  have := par_unique hp h1 h2
  simpa using this

/-- What an amplitude is. -/
theorem amp4_spec {p q r s : Cx} (hp : p.valid) (hq : q.valid) (hr : r.valid) (hs : s.valid) (zp : ¬ p.zero) (zq : ¬ q.zero) (zr : ¬ r.zero) (zs : ¬ s.zero) :
    amp4 p q r s = (f0, 16) ∨ ((amp4 p q r s).2 = 0 ∧ 0 < (amp4 p q r s).1.num ∧ 0 < (amp4 p q r s).1.den ∧ Int.gcd (amp4 p q r s).1.num (amp4 p q r s).1.den = 1 ∧
      (amp4 p q r s).1.num * ((ds p * ds q) * (ns r * ns s)) = (amp4 p q r s).1.den * ((ns p * ns q) * (ds r * ds s))) := by
  unfold amp4
  rcases mul_err hp hq with h1 | h1
  · rw [if_neg (by simp [h1])]
    rcases mul_err hr hs with h2 | h2
    · rw [if_neg (by simp [h2])]
      have v1 := (mul_ok hp hq h1).2
      have v2 := (mul_ok hr hs h2).2
      have z1 : ¬ (mul p q).1.zero := by
        rw [mul_zero_iff hp hq h1]; exact fun h => h.elim zp zq
      have z2 : ¬ (mul r s).1.zero := by
        rw [mul_zero_iff hr hs h2]; exact fun h => h.elim zr zs
      have m1 := mul_ns hp hq h1
      have m2 := mul_ns hr hs h2
      have w1 := ds_pos v1
      have w2 := ds_pos v2
      have w3 := ns_pos z1
      have w4 := ns_pos z2
      generalize (mul p q).1 = x at *
      generalize (mul r s).1 = y at *
      have he : (div x y).2 = 0 ∨ div x y = (c0, 16) := by
        rw [div, if_pos ⟨v1, v2⟩, if_neg z2]; exact make_err _ _ _
      rcases he with h3 | h3
      · rw [if_neg (by simp [h3])]
        obtain ⟨v3, e3⟩ := div_ns v1 v2 z2 h3
        have z3 : ¬ (div x y).1.zero := fun h => by
          have : ns (div x y).1 = 0 := by unfold ns; rw [h.1, h.2]; rfl
          rw [this, Int.zero_mul] at e3
          have := Int.mul_pos (ds_pos v3) (Int.mul_pos w3 w2)
          omega
        have w5 := ds_pos v3
        have w6 := ns_pos z3
        generalize (div x y).1 = u at *
        rcases (show (nrm u).2 = 0 ∨ nrm u = (f0, 16) from by rw [nrm, if_pos v3]; split <;> first | exact .inr rfl | exact .inl rfl) with h4 | h4
        · obtain ⟨n1, n2, n3, n4⟩ := nrm_ns v3 z3 h4
          refine .inr ⟨h4, n1, n2, n3, ?_⟩
          generalize (nrm u).1.num = N at *
          generalize (nrm u).1.den = D at *
          generalize ds p * ds q = a1 at *
          generalize ns p * ns q = a2 at *
          generalize ds r * ds s = a3 at *
          generalize ns r * ns s = a4 at *
          generalize ns x = nx at *
          generalize ds x = dx at *
          generalize ns y = ny at *
          generalize ds y = dy at *
          generalize ns u = nu at *
          generalize ds u = du at *
          -- m1: nx a1 = dx a2; m2: ny a3 = dy a4; e3: nu (dx ny) = du (nx dy); n4: N du = D nu
          have i1 : N * dx * ny = D * nx * dy := by
            apply Int.eq_of_mul_eq_mul_right (a := du) (by omega)
            have t1 : N * dx * ny * du = (N * du) * (dx * ny) := by grind
            have t2 : D * nu * (dx * ny) = D * (nu * (dx * ny)) := by grind
            rw [t1, n4, t2, e3]; grind
          have hk : dx * dy ≠ 0 := by
            have := Int.mul_pos w1 w2
            omega
          apply Int.eq_of_mul_eq_mul_right hk
          have t1 : N * (a1 * a4) * (dx * dy) = N * dx * (dy * a4) * a1 := by grind
          have t2 : N * dx * (ny * a3) * a1 = (N * dx * ny) * (a3 * a1) := by grind
          have t3 : D * nx * dy * (a3 * a1) = D * dy * a3 * (nx * a1) := by grind
          rw [t1, ← m2, t2, i1, t3, m1]; grind
        · exact .inl h4
      · rw [h3, if_pos (by simp)]; exact .inl rfl
    · rw [h2, if_pos (by simp)]; exact .inl rfl
  · rw [h1, if_pos (by simp)]; exact .inl rfl


theorem amp_cases {l : List Vis} (h0 : ck27 l = 0) (a b c d : Int) :
    (¬ apart [a, b, c, d] ∧ amp l a b c d = (f0, 2)) ∨ (apart [a, b, c, d] ∧ (along27 l [⟨a, b⟩, ⟨c, d⟩, ⟨a, c⟩, ⟨b, d⟩]).2 ≠ 0 ∧ amp l a b c d = (f0, (along27 l [⟨a, b⟩, ⟨c, d⟩, ⟨a, c⟩, ⟨b, d⟩]).2)) ∨
    (apart [a, b, c, d] ∧ (along27 l [⟨a, b⟩, ⟨c, d⟩, ⟨a, c⟩, ⟨b, d⟩]).2 = 0 ∧ (amp l a b c d = (f0, 16) ∨ ((amp l a b c d).2 = 0 ∧ 0 < (amp l a b c d).1.num ∧ 0 < (amp l a b c d).1.den ∧ Int.gcd (amp l a b c d).1.num (amp l a b c d).1.den = 1 ∧
      (amp l a b c d).1.num * ((ds (gD l ⟨a, b⟩) * ds (gD l ⟨c, d⟩)) * (ns (gD l ⟨a, c⟩) * ns (gD l ⟨b, d⟩))) = (amp l a b c d).1.den * ((ns (gD l ⟨a, b⟩) * ns (gD l ⟨c, d⟩)) * (ds (gD l ⟨a, c⟩) * ds (gD l ⟨b, d⟩)))))) := by
  obtain ⟨hlen, hgood, _⟩ := ck27_0 h0
  by_cases h1 : apart [a, b, c, d]
  · by_cases h2 : (along27 l [⟨a, b⟩, ⟨c, d⟩, ⟨a, c⟩, ⟨b, d⟩]).2 = 0
    · refine .inr (.inr ⟨h1, h2, ?_⟩)
      have e : amp l a b c d = amp4 (gD l ⟨a, b⟩) (gD l ⟨c, d⟩) (gD l ⟨a, c⟩) (gD l ⟨b, d⟩) := by rw [amp, if_neg (by simp [h0]), if_neg (by simp [h1]), if_neg (by simp [h2])]
      obtain ⟨_, _, e3⟩ := along27_0 hgood h2
      rw [e]
      have hA := e3 ⟨a, b⟩ (by simp)
      have hB := e3 ⟨c, d⟩ (by simp)
      have hC := e3 ⟨a, c⟩ (by simp)
      have hD := e3 ⟨b, d⟩ (by simp)
      exact amp4_spec hA.1 hB.1 hC.1 hD.1 hA.2 hB.2 hC.2 hD.2
    · exact .inr (.inl ⟨h1, h2, by rw [amp, if_neg (by simp [h0]), if_neg (by simp [h1]), if_pos h2]⟩)
  · exact .inl ⟨h1, by rw [amp, if_neg (by simp [h0]), if_pos h1]⟩

/-- Errors of two amplitudes of the same baselines. -/
theorem amp_like {l : List Vis} (h0 : ck27 l = 0) {a b c d a' b' c' d' : Int} (h1 : apart [a, b, c, d] ↔ apart [a', b', c', d'])
    (h2 : (along27 l [⟨a, b⟩, ⟨c, d⟩, ⟨a, c⟩, ⟨b, d⟩]).2 = (along27 l [⟨a', b'⟩, ⟨c', d'⟩, ⟨a', c'⟩, ⟨b', d'⟩]).2) :
    (amp l a b c d).2 = (amp l a' b' c' d').2 ∨ (amp l a b c d).2 = 16 ∨ (amp l a' b' c' d').2 = 16 := by
  rcases amp_cases h0 a b c d with ⟨p1, p2⟩ | ⟨p1, p2, p3⟩ | ⟨p1, p2, p3⟩
  · rcases amp_cases h0 a' b' c' d' with ⟨q1, q2⟩ | ⟨q1, q2, q3⟩ | ⟨q1, q2, q3⟩
    · rw [p2, q2]; exact .inl rfl
    · exact absurd (h1.2 q1) p1
    · exact absurd (h1.2 q1) p1
  · rcases amp_cases h0 a' b' c' d' with ⟨q1, q2⟩ | ⟨q1, q2, q3⟩ | ⟨q1, q2, q3⟩
    · exact absurd (h1.1 p1) q1
    · rw [p3, q3]; exact .inl h2
    · exact absurd (h2.trans q2) p2
  · rcases amp_cases h0 a' b' c' d' with ⟨q1, q2⟩ | ⟨q1, q2, q3⟩ | ⟨q1, q2, q3⟩
    · exact absurd (h1.1 p1) q1
    · exact absurd (h2.symm.trans p2) q2
    · rcases p3 with p3 | p3
      · rw [p3]; exact .inr (.inl rfl)
      · rcases q3 with q3 | q3
        · rw [q3]; exact .inr (.inr rfl)
        · rw [p3.1, q3.1]; exact .inl rfl

theorem amp_ok {l : List Vis} (h0 : ck27 l = 0) {a b c d : Int} (h : (amp l a b c d).2 = 0) : (along27 l [⟨a, b⟩, ⟨c, d⟩, ⟨a, c⟩, ⟨b, d⟩]).2 = 0 ∧ 0 < (amp l a b c d).1.num ∧ 0 < (amp l a b c d).1.den ∧ Int.gcd (amp l a b c d).1.num (amp l a b c d).1.den = 1 ∧
      (amp l a b c d).1.num * ((ds (gD l ⟨a, b⟩) * ds (gD l ⟨c, d⟩)) * (ns (gD l ⟨a, c⟩) * ns (gD l ⟨b, d⟩))) = (amp l a b c d).1.den * ((ns (gD l ⟨a, b⟩) * ns (gD l ⟨c, d⟩)) * (ds (gD l ⟨a, c⟩) * ds (gD l ⟨b, d⟩))) := by
  rcases amp_cases h0 a b c d with ⟨p1, p2⟩ | ⟨p1, p2, p3⟩ | ⟨p1, p2, p3 | p3⟩
  · rw [p2] at h; simp at h
  · rw [p3] at h; exact absurd h p2
  · rw [p3] at h; simp at h
  · exact ⟨p2, p3.2⟩

theorem prod4_pos {x y z w : Int} (h1 : 0 < x) (h2 : 0 < y) (h3 : 0 < z) (h4 : 0 < w) : 0 < (x * y) * (z * w) := Int.mul_pos (Int.mul_pos h1 h2) (Int.mul_pos h3 h4)

/-- Exchanges of stations. -/
theorem amp_swaps {l : List Vis} (h0 : ck27 l = 0) (a b c d : Int) :
    ((amp l a b c d).2 = (amp l a c b d).2 ∨ (amp l a b c d).2 = 16 ∨ (amp l a c b d).2 = 16) ∧ ((amp l a b c d).2 = (amp l d c b a).2 ∨ (amp l a b c d).2 = 16 ∨ (amp l d c b a).2 = 16) ∧
    ((amp l a b c d).2 = 0 → 1 ≤ (amp l a b c d).1.num ∧ 1 ≤ (amp l a b c d).1.den ∧ ((amp l a c b d).2 = 0 → (amp l a b c d).1.num = (amp l a c b d).1.den ∧ (amp l a b c d).1.den = (amp l a c b d).1.num) ∧ ((amp l d c b a).2 = 0 → (amp l a b c d).1 = (amp l d c b a).1)) := by
  obtain ⟨_, hgood, _⟩ := ck27_0 h0
  have P1 : [a, b, c, d].Perm [a, c, b, d] := .cons a (.swap c b [d])
  have P2 : [a, b, c, d].Perm [d, c, b, a] := (List.reverse_perm [a, b, c, d]).symm
  have S1 : List.Perm [Pr.mk a b, ⟨c, d⟩, ⟨a, c⟩, ⟨b, d⟩] [⟨a, c⟩, ⟨b, d⟩, ⟨a, b⟩, ⟨c, d⟩] := List.perm_append_comm (l₁ := [Pr.mk a b, Pr.mk c d]) (l₂ := [Pr.mk a c, Pr.mk b d])
  have S2 : List.Perm ([Pr.mk a b, ⟨c, d⟩, ⟨a, c⟩, ⟨b, d⟩].map swap) [⟨d, c⟩, ⟨b, a⟩, ⟨d, b⟩, ⟨c, a⟩] := (List.Perm.swap (Pr.mk d c) (Pr.mk b a) [Pr.mk c a, Pr.mk d b]).trans (.cons _ (.cons _ (.swap (Pr.mk d b) (Pr.mk c a) [])))
  have L1 := along_perm (l := l) S1
  have L2 : (along27 l [⟨a, b⟩, ⟨c, d⟩, ⟨a, c⟩, ⟨b, d⟩]).2 = (along27 l [⟨d, c⟩, ⟨b, a⟩, ⟨d, b⟩, ⟨c, a⟩]).2 := by rw [← along_swap hgood, along_perm S2]
  refine ⟨amp_like h0 (apart_perm P1) L1, amp_like h0 (apart_perm P2) L2, fun h => ?_⟩
  obtain ⟨k0, k1, k2, k3, k4⟩ := amp_ok h0 h
  obtain ⟨_, _, e3⟩ := along27_0 hgood k0
  have hA := e3 ⟨a, b⟩ (by simp)
  have hB := e3 ⟨c, d⟩ (by simp)
  have hC := e3 ⟨a, c⟩ (by simp)
  have hD := e3 ⟨b, d⟩ (by simp)
  have u1 := prod4_pos (ds_pos hA.1) (ds_pos hB.1) (ns_pos hC.2) (ns_pos hD.2)
  have u2 := prod4_pos (ns_pos hA.2) (ns_pos hB.2) (ds_pos hC.1) (ds_pos hD.1)
  refine ⟨by omega, by omega, fun h' => ?_, fun h' => ?_⟩
  · obtain ⟨_, q1, q2, q3, q4⟩ := amp_ok h0 h'
    generalize (amp l a b c d).1.num = N at *
    generalize (amp l a b c d).1.den = D at *
    generalize (amp l a c b d).1.num = N' at *
    generalize (amp l a c b d).1.den = D' at *
    rw [Int.mul_comm (ds (gD l ⟨a, c⟩) * ds (gD l ⟨b, d⟩)), Int.mul_comm (ns (gD l ⟨a, c⟩) * ns (gD l ⟨b, d⟩))] at q4
    generalize ds (gD l ⟨a, b⟩) * ds (gD l ⟨c, d⟩) * (ns (gD l ⟨a, c⟩) * ns (gD l ⟨b, d⟩)) = B at *
    generalize ns (gD l ⟨a, b⟩) * ns (gD l ⟨c, d⟩) * (ds (gD l ⟨a, c⟩) * ds (gD l ⟨b, d⟩)) = A at *
    refine frac_unique k1 k2 q2 q1 k3 (by rw [Int.gcd_comm]; exact q3) ?_
    apply Int.eq_of_mul_eq_mul_right (a := B) (by omega)
    have t1 : N * N' * B = (N * B) * N' := by grind
    have t2 : D * A * N' = D * (N' * A) := by grind
    rw [t1, k4, t2, q4]; grind
  · obtain ⟨_, q1, q2, q3, q4⟩ := amp_ok h0 h'
    have g1 : gD l ⟨d, c⟩ = conj (gD l ⟨c, d⟩) := gD_swap hgood ⟨c, d⟩
    have g2 : gD l ⟨b, a⟩ = conj (gD l ⟨a, b⟩) := gD_swap hgood ⟨a, b⟩
    have g3 : gD l ⟨d, b⟩ = conj (gD l ⟨b, d⟩) := gD_swap hgood ⟨b, d⟩
    have g4 : gD l ⟨c, a⟩ = conj (gD l ⟨a, c⟩) := gD_swap hgood ⟨a, c⟩
    rw [g1, g2, g3, g4] at q4
    simp only [ns_conj, ds_conj] at q4
    rw [Int.mul_comm (ds (gD l ⟨c, d⟩)), Int.mul_comm (ns (gD l ⟨c, d⟩)), Int.mul_comm (ds (gD l ⟨b, d⟩)), Int.mul_comm (ns (gD l ⟨b, d⟩))] at q4
    have : (amp l a b c d).1.num = (amp l d c b a).1.num ∧ (amp l a b c d).1.den = (amp l d c b a).1.den := by
      generalize (amp l a b c d).1.num = N at *
      generalize (amp l a b c d).1.den = D at *
      generalize (amp l d c b a).1.num = N' at *
      generalize (amp l d c b a).1.den = D' at *
      generalize ds (gD l ⟨a, b⟩) * ds (gD l ⟨c, d⟩) * (ns (gD l ⟨a, c⟩) * ns (gD l ⟨b, d⟩)) = B at *
      generalize ns (gD l ⟨a, b⟩) * ns (gD l ⟨c, d⟩) * (ds (gD l ⟨a, c⟩) * ds (gD l ⟨b, d⟩)) = A at *
      refine frac_unique k1 k2 q1 q2 k3 q3 ?_
      apply Int.eq_of_mul_eq_mul_right (a := B) (by omega)
      have t1 : N * D' * B = (N * B) * D' := by grind
      have t2 : D * A * D' = D * (D' * A) := by grind
      rw [t1, k4, t2, ← q4]; grind
    cases hx : (amp l a b c d).1
    cases hy : (amp l d c b a).1
    rw [hx, hy] at this
    simp only at this
    simp [this.1, this.2]

end Go.Pv
