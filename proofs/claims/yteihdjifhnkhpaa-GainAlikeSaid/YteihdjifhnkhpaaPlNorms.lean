/- Norms under tables of gains, in plain Lean. -/
import Derived.Test.YteihdjifhnkhpaaPlAlike
import Derived.Test.YteihdjifhnkhpaaPlAmp
import Derived.Test.YteihdjifhnkhpaaPlPar
import Derived.Test.YteihdjifhnkhpaaPlGains
namespace Go.Pv
open Go.Vc

theorem nrm_frac {a : Cx} (ha : a.valid) (h : (nrm a).2 = 0) : (nrm a).1.num * ds a = (nrm a).1.den * ns a ∧ 0 < (nrm a).1.den ∧ 0 ≤ (nrm a).1.num := by
  rw [nrm, if_pos ha] at h ⊢
  split at h
  · cases h
  rename_i hle
  rw [if_neg hle]
  simp only
  have hd : 0 < a.den * a.den := Int.mul_pos (by have := ha.1; omega) (by have := ha.1; omega)
  have hn : 0 ≤ a.re * a.re + a.im * a.im := by have := sq_nonneg a.re; have := sq_nonneg a.im; omega
  have hns : ns a = a.re * a.re + a.im * a.im := rfl
  have hds : ds a = a.den * a.den := rfl
  rw [hns, hds]
  generalize a.re * a.re + a.im * a.im = n at *
  generalize a.den * a.den = d at *
  have hg : 0 < Int.gcd n d := Int.gcd_pos_of_ne_zero_right _ (by omega)
  obtain ⟨u, hu⟩ := Int.gcd_dvd_left n d
  obtain ⟨v, hv⟩ := Int.gcd_dvd_right n d
  generalize hG : (Int.gcd n d : Int) = G at *
  have hGp : 0 < G := by omega
  have e1 : n / G = u := by rw [hu]; exact Int.mul_ediv_cancel_left _ (by omega)
  have e2 : d / G = v := by rw [hv]; exact Int.mul_ediv_cancel_left _ (by omega)
  rw [e1, e2]
  refine ⟨by rw [hu, hv]; grind, ?_, ?_⟩
  · rw [hv] at hd
    exact Int.pos_of_mul_pos_right hd (by omega)
  · rw [hu] at hn
    exact Int.nonneg_of_mul_nonneg_right hn hGp

theorem act1_ok {g : List Cx} {v : Vis} (h : (act1 g v).2 = 0) : (mul (at_ g v.i) v.v).2 = 0 ∧ (mul (mul (at_ g v.i) v.v).1 (conj (at_ g v.j))).2 = 0 ∧ act1 g v = mul (mul (at_ g v.i) v.v).1 (conj (at_ g v.j)) := by
  unfold act1 at h ⊢
  split at h
  · cases h
  rename_i h1
  split at h
  · cases h
  rename_i h2
  rw [if_neg h1, if_neg h2]
  exact ⟨by omega, by omega, rfl⟩

theorem act1_valid {g : List Cx} (hg : ck26 g = 0) {v : Vis} (hv : v.good g.length) (h : (act1 g v).2 = 0) : (act1 g v).1.valid := by
  obtain ⟨_, _, hc⟩ := ck26_0 hg
  obtain ⟨h1, h2, h3⟩ := act1_ok h
  unfold Vis.good at hv
  have hi := (hc _ (at_mem (g := g) (i := v.i) (by omega) (by omega))).1
  have hj := (hc _ (at_mem (g := g) (i := v.j) (by omega) (by omega))).1
  rw [h3]
  exact (mul_ok (mul_ok hi hv.2.2.2.2 h1).2 (conj_valid hj) h2).2

theorem act1_ns {g : List Cx} (hg : ck26 g = 0) {v : Vis} (hv : v.good g.length) (h : (act1 g v).2 = 0) :
    ns (act1 g v).1 * (ds (at_ g v.i) * ds v.v * ds (at_ g v.j)) = ds (act1 g v).1 * (ns (at_ g v.i) * ns v.v * ns (at_ g v.j)) := by
  obtain ⟨_, _, hc⟩ := ck26_0 hg
  obtain ⟨h1, h2, h3⟩ := act1_ok h
  unfold Vis.good at hv
  have hi := (hc _ (at_mem (g := g) (i := v.i) (by omega) (by omega))).1
  have hj := (hc _ (at_mem (g := g) (i := v.j) (by omega) (by omega))).1
  have vp := (mul_ok hi hv.2.2.2.2 h1).2
  have e1 := mul_ns hi hv.2.2.2.2 h1
  have e2 := mul_ns vp (conj_valid hj) h2
  rw [ns_conj, ds_conj] at e2
  rw [h3]
  have hd := ds_pos vp
  generalize mul (mul (at_ g v.i) v.v).1 (conj (at_ g v.j)) = w at *
  generalize ns (mul (at_ g v.i) v.v).1 = np at *
  generalize ds (mul (at_ g v.i) v.v).1 = dp at *
  generalize ns w.1 = nw at *
  generalize ds w.1 = dw at *
  generalize ns (at_ g v.i) = ni at *
  generalize ds (at_ g v.i) = di at *
  generalize ns (at_ g v.j) = nj at *
  generalize ds (at_ g v.j) = dj at *
  generalize ns v.v = nv at *
  generalize ds v.v = dv at *
  have : dp * (nw * (di * dv * dj)) = dp * (dw * (ni * nv * nj)) := by grind
  exact Int.eq_of_mul_eq_mul_left (by omega) this

/-- Norms change by both gains. -/
theorem act1_norms {g : List Cx} (hg : ck26 g = 0) {v : Vis} (hv : v.good g.length) (h : (act1 g v).2 = 0)
    (hx : (nrm v.v).2 = 0) (hy : (nrm (act1 g v).1).2 = 0) (hp : (nrm (at_ g v.i)).2 = 0) (hq : (nrm (at_ g v.j)).2 = 0) :
    (nrm v.v).1.num * (nrm (at_ g v.i)).1.num * (nrm (at_ g v.j)).1.num * (nrm (act1 g v).1).1.den = (nrm v.v).1.den * (nrm (at_ g v.i)).1.den * (nrm (at_ g v.j)).1.den * (nrm (act1 g v).1).1.num := by
  have hw := act1_valid hg hv h
  have e := act1_ns hg hv h
  obtain ⟨_, _, hc⟩ := ck26_0 hg
  have hv' := hv
  unfold Vis.good at hv'
  have hi := (hc _ (at_mem (g := g) (i := v.i) (by omega) (by omega))).1
  have hj := (hc _ (at_mem (g := g) (i := v.j) (by omega) (by omega))).1
  obtain ⟨x1, x2, x3⟩ := nrm_frac hv'.2.2.2.2 hx
  obtain ⟨y1, y2, y3⟩ := nrm_frac hw hy
  obtain ⟨p1, p2, p3⟩ := nrm_frac hi hp
  obtain ⟨q1, q2, q3⟩ := nrm_frac hj hq
  have dv := ds_pos hv'.2.2.2.2
  have dw := ds_pos hw
  have di := ds_pos hi
  have dj := ds_pos hj
  generalize (nrm v.v).1.num = xn at *
  generalize (nrm v.v).1.den = xd at *
  generalize (nrm (act1 g v).1).1.num = yn at *
  generalize (nrm (act1 g v).1).1.den = yd at *
  generalize (nrm (at_ g v.i)).1.num = pn at *
  generalize (nrm (at_ g v.i)).1.den = pd at *
  generalize (nrm (at_ g v.j)).1.num = qn at *
  generalize (nrm (at_ g v.j)).1.den = qd at *
  generalize ns (act1 g v).1 = nw at *
  generalize ds (act1 g v).1 = dw' at *
  generalize ns (at_ g v.i) = ni at *
  generalize ds (at_ g v.i) = di' at *
  generalize ns (at_ g v.j) = nj at *
  generalize ds (at_ g v.j) = dj' at *
  generalize ns v.v = nv at *
  generalize ds v.v = dv' at *
  have hpos : 0 < dv' * di' * dj' * dw' := Int.mul_pos (Int.mul_pos (Int.mul_pos dv di) dj) dw
  have k : (dv' * di' * dj' * dw') * (xn * pn * qn * yd) = (dv' * di' * dj' * dw') * (xd * pd * qd * yn) := by
    have l : (dv' * di' * dj' * dw') * (xn * pn * qn * yd) = (xn * dv') * (pn * di') * (qn * dj') * (yd * dw') := by grind
    have r : (dv' * di' * dj' * dw') * (xd * pd * qd * yn) = (yn * dw') * (xd * pd * qd * (di' * dv' * dj')) := by grind
    rw [l, r, x1, p1, q1, y1]
    have : yd * (xd * pd * qd) * (dw' * (ni * nv * nj)) = yd * (xd * pd * qd) * (nw * (di' * dv' * dj')) := by rw [e]
    grind
  exact Int.eq_of_mul_eq_mul_left (by omega) k

theorem le_max_if (a b c : Int) : (if b > a then b else a) ≤ c ↔ a ≤ c ∧ b ≤ c := by
  split <;> omega

theorem four_bound {a b c d : Int} (ha : 0 ≤ a ∧ a ≤ 10000) (hb : 0 ≤ b ∧ b ≤ 10000) (hc : 0 ≤ c ∧ c ≤ 10000) (hd : 0 ≤ d ∧ d ≤ 10000) :
    IntKind.i64.wrap (IntKind.i64.wrap (IntKind.i64.wrap (a * b) * c) * d) = a * b * c * d := by
  have b1 : 0 ≤ a * b ∧ a * b ≤ 100000000 := ⟨Int.mul_nonneg ha.1 hb.1, by have := Int.mul_le_mul ha.2 hb.2 hb.1 (by omega); omega⟩
  have b2 : 0 ≤ a * b * c ∧ a * b * c ≤ 1000000000000 := ⟨Int.mul_nonneg b1.1 hc.1, by have := Int.mul_le_mul b1.2 hc.2 hc.1 (by omega); omega⟩
  have b3 : 0 ≤ a * b * c * d ∧ a * b * c * d ≤ 10000000000000000 := ⟨Int.mul_nonneg b2.1 hd.1, by have := Int.mul_le_mul b2.2 hd.2 hd.1 (by omega); omega⟩
  rw [wrap_id (n := a * b) (by omega) (by omega), wrap_id (n := a * b * c) (by omega) (by omega), wrap_id (by omega) (by omega)]

theorem act26_len {g : List Cx} {l : List Vis} (h : (act26 g l).2 = 0) : (act26 g l).1.length = l.length := by
  rw [(act26_ok h).2.1]; simp

theorem act26_err' {g : List Cx} {l : List Vis} (h0 : ck26 g = 0) (h1 : all26 l g.length = 0) : (act26 g l).2 = 0 ∨ act26 g l = ([], 16) := by
  rw [act26, if_neg (by simp [h0]), if_neg (by simp [h1])]
  split
  · exact .inl rfl
  · exact .inr rfl
end Go.Pv
