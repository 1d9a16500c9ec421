/- Complex numbers with rational parts, in plain Lean. -/
import Derived.Test.YtilmadidjihfkaaPvL
namespace Go.Pv
open Go.Vc

structure Cx where
  re : Int
  im : Int
  den : Int
deriving DecidableEq

instance : Enc Cx where
  sz := 3
  cs l := [i64 l.re, i64 l.im, i64 l.den]
  ok l := I64 l.re ∧ I64 l.im ∧ I64 l.den
  len _ := rfl
  pos := by decide

abbrev cx (a : Cx) : PV := .agg [i64 a.re, i64 a.im, i64 a.den]

structure Frac where
  num : Int
  den : Int
deriving DecidableEq

instance : Enc Frac where
  sz := 2
  cs l := [i64 l.num, i64 l.den]
  ok l := I64 l.num ∧ I64 l.den
  len _ := rfl
  pos := by decide

abbrev fr (a : Frac) : PV := .agg [i64 a.num, i64 a.den]

/-- The common divisor of three numbers. -/
def g3 (x y z : Int) : Nat := Int.gcd (Int.gcd x y) z

def fits (x : Int) : Prop := -1000000000 ≤ x ∧ x ≤ 1000000000
instance (x : Int) : Decidable (fits x) := by unfold fits; infer_instance

/-- Valid numbers. -/
def Cx.valid (a : Cx) : Prop := 1 ≤ a.den ∧ a.den ≤ 1000000000 ∧ fits a.re ∧ fits a.im ∧ g3 a.re a.im a.den = 1
instance (a : Cx) : Decidable a.valid := by unfold Cx.valid; infer_instance

def chk (a : Cx) : Int := if a.valid then 0 else 8

def Cx.zero (a : Cx) : Prop := a.re = 0 ∧ a.im = 0
instance (a : Cx) : Decidable a.zero := by unfold Cx.zero; infer_instance

def c0 : Cx := ⟨0, 0, 0⟩
def one : Cx := ⟨1, 0, 1⟩

/-- In lowest terms. -/
def norm (x y z : Int) : Cx := ⟨x / g3 x y z, y / g3 x y z, z / g3 x y z⟩

/-- The number, or an error: its parts are too great. -/
def make (x y z : Int) : Cx × Int :=
  if fits (norm x y z).re ∧ fits (norm x y z).im ∧ fits (norm x y z).den then (norm x y z, 0) else (c0, 16)

theorem g3_dvd (x y z : Int) : ((g3 x y z : Nat) : Int) ∣ x ∧ ((g3 x y z : Nat) : Int) ∣ y ∧ ((g3 x y z : Nat) : Int) ∣ z := by
  have h1 : ((g3 x y z : Nat) : Int) ∣ ((Int.gcd x y : Nat) : Int) := Int.gcd_dvd_left ..
  exact ⟨Int.dvd_trans h1 (Int.gcd_dvd_left ..), Int.dvd_trans h1 (Int.gcd_dvd_right ..), Int.gcd_dvd_right ..⟩

theorem dvd_g3 {d : Nat} {x y z : Int} (hx : (d : Int) ∣ x) (hy : (d : Int) ∣ y) (hz : (d : Int) ∣ z) : d ∣ g3 x y z := by
  have h1 : (d : Int) ∣ ((Int.gcd x y : Nat) : Int) := Int.dvd_coe_gcd hx hy
  exact Int.ofNat_dvd.1 (Int.dvd_coe_gcd h1 hz)

theorem g3_pos {x y z : Int} (h : z ≠ 0) : 0 < g3 x y z := Int.gcd_pos_of_ne_zero_right _ h

theorem g3_mul (k : Nat) (x y z : Int) : g3 (x * k) (y * k) (z * k) = g3 x y z * k := by
  unfold g3
  rw [Int.gcd_mul_right, Int.natCast_mul]
  have : ((Int.natAbs (k : Int) : Nat) : Int) = k := by simp
  rw [this, Int.gcd_mul_right]
  simp

/-- A multiple in lowest terms. -/
theorem norm_spec {x y z : Int} (h : 0 < z) : ∃ g : Nat, 0 < g ∧ x = (norm x y z).re * g ∧ y = (norm x y z).im * g ∧ z = (norm x y z).den * g ∧ 0 < (norm x y z).den ∧ g3 (norm x y z).re (norm x y z).im (norm x y z).den = 1 := by
  have hp := g3_pos (x := x) (y := y) (z := z) (by omega)
  obtain ⟨h1, h2, h3⟩ := g3_dvd x y z
  have e1 : x = (norm x y z).re * (g3 x y z : Nat) := (Int.ediv_mul_cancel h1).symm
  have e2 : y = (norm x y z).im * (g3 x y z : Nat) := (Int.ediv_mul_cancel h2).symm
  have e3 : z = (norm x y z).den * (g3 x y z : Nat) := (Int.ediv_mul_cancel h3).symm
  refine ⟨g3 x y z, hp, e1, e2, e3, ?_, ?_⟩
  · have : 0 < (norm x y z).den * ((g3 x y z : Nat) : Int) := by rw [← e3]; exact h
    exact Int.pos_of_mul_pos_left this (by omega)
  · have := g3_mul (g3 x y z) (norm x y z).re (norm x y z).im (norm x y z).den
    rw [← e1, ← e2, ← e3] at this
    have h5 : 1 * g3 x y z = g3 (norm x y z).re (norm x y z).im (norm x y z).den * g3 x y z := by omega
    exact (Nat.eq_of_mul_eq_mul_right hp h5).symm

/-- There is just one number in lowest terms. -/
theorem low_unique {x y z u v t : Int} (hz : 0 < z) (ht : 0 < t) (h1 : g3 x y z = 1) (h2 : g3 u v t = 1) (e1 : x * t = u * z) (e2 : y * t = v * z) : x = u ∧ y = v ∧ z = t := by
  have dv : ∀ {x y z u v t : Int}, 0 < z → 0 < t → g3 x y z = 1 → x * t = u * z → y * t = v * z → z ∣ t := by
    intro x y z u v t hz ht h1 e1 e2
    have hzn : ((z.natAbs : Nat) : Int) = z := by omega
    have htn : ((t.natAbs : Nat) : Int) = t := by omega
    have h3 := dvd_g3 (d := z.natAbs) (x := x * t) (y := y * t) (z := z * t) (by rw [hzn, e1]; exact Int.dvd_mul_left ..) (by rw [hzn, e2]; exact Int.dvd_mul_left ..) (by rw [hzn]; exact Int.dvd_mul_right ..)
    rw [← htn, g3_mul, h1, Nat.one_mul] at h3
    exact Int.natAbs_dvd_natAbs.1 h3
  have a1 := dv hz ht h1 e1 e2
  have a2 := dv ht hz h2 e1.symm e2.symm
  have hzt : z = t := Int.dvd_antisymm (by omega) (by omega) a1 a2
  subst hzt
  exact ⟨Int.eq_of_mul_eq_mul_right (by omega) e1, Int.eq_of_mul_eq_mul_right (by omega) e2, rfl⟩

theorem norm_eq {x y z u v t : Int} (hz : 0 < z) (ht : 0 < t) (h2 : g3 u v t = 1) (e1 : x * t = u * z) (e2 : y * t = v * z) : norm x y z = ⟨u, v, t⟩ := by
  obtain ⟨g, hg, f1, f2, f3, hp, hc⟩ := norm_spec (x := x) (y := y) hz
  have hgz : ((g : Nat) : Int) ≠ 0 := by omega
  obtain ⟨a1, a2, a3⟩ := low_unique (x := (norm x y z).re) (y := (norm x y z).im) (z := (norm x y z).den) hp ht hc h2
    (by have : (norm x y z).re * t * g = u * (norm x y z).den * g := by
          rw [Int.mul_right_comm, ← f1, e1, Int.mul_assoc, ← f3]
        exact Int.eq_of_mul_eq_mul_right hgz this)
    (by have : (norm x y z).im * t * g = v * (norm x y z).den * g := by
          rw [Int.mul_right_comm, ← f2, e2, Int.mul_assoc, ← f3]
        exact Int.eq_of_mul_eq_mul_right hgz this)
  cases hn : norm x y z
  simp only [hn] at a1 a2 a3
  rw [a1, a2, a3]

theorem norm_low {x y z : Int} (hz : 0 < z) (h : g3 x y z = 1) : norm x y z = ⟨x, y, z⟩ := norm_eq hz hz h rfl rfl

theorem valid_norm {x y z : Int} (hz : 0 < z) : (norm x y z).valid ↔ fits (norm x y z).re ∧ fits (norm x y z).im ∧ fits (norm x y z).den := by
  obtain ⟨g, _, _, _, _, hp, hc⟩ := norm_spec (x := x) (y := y) hz
  unfold Cx.valid fits
  constructor
  · intro h; exact ⟨h.2.2.1, h.2.2.2.1, by omega, h.2.1⟩
  · intro h; exact ⟨by omega, h.2.2.2, h.1, h.2.1, hc⟩

theorem make_valid {x y z : Int} (hz : 0 < z) : make x y z = if (norm x y z).valid then (norm x y z, 0) else (c0, 16) := by
  unfold make
  by_cases h : (norm x y z).valid
  · rw [if_pos ((valid_norm hz).1 h), if_pos h]
  · rw [if_neg (fun h' => h ((valid_norm hz).2 h')), if_neg h]

/-- Valid numbers are the same if they are as much. -/
theorem Cx.eq_of {a b : Cx} (ha : a.valid) (hb : b.valid) (e1 : a.re * b.den = b.re * a.den) (e2 : a.im * b.den = b.im * a.den) : a = b := by
  obtain ⟨h1, h2, h3⟩ := low_unique (x := a.re) (y := a.im) (z := a.den) (by have := ha.1; omega) (by have := hb.1; omega) ha.2.2.2.2 hb.2.2.2.2 e1 e2
  cases a; cases b
  simp_all

/-! ### The four kinds of reckoning -/

def mul (a b : Cx) : Cx × Int := if a.valid ∧ b.valid then make (a.re * b.re - a.im * b.im) (a.re * b.im + a.im * b.re) (a.den * b.den) else (c0, 8)
def add (a b : Cx) : Cx × Int := if a.valid ∧ b.valid then make (a.re * b.den + b.re * a.den) (a.im * b.den + b.im * a.den) (a.den * b.den) else (c0, 8)
def sub (a b : Cx) : Cx × Int := if a.valid ∧ b.valid then make (a.re * b.den - b.re * a.den) (a.im * b.den - b.im * a.den) (a.den * b.den) else (c0, 8)
def div (a b : Cx) : Cx × Int := if a.valid ∧ b.valid then (if b.zero then (c0, 18) else make ((a.re * b.re + a.im * b.im) * b.den) ((a.im * b.re - a.re * b.im) * b.den) ((b.re * b.re + b.im * b.im) * a.den)) else (c0, 8)
def neg (a : Cx) : Cx := ⟨-a.re, -a.im, a.den⟩
def conj (a : Cx) : Cx := ⟨a.re, -a.im, a.den⟩

/-- A number and an error code. -/
abbrev resC (r : Cx × Int) : SV := .tup [.p (cx r.1), .p (i64 r.2)]
abbrev resF (r : Frac × Int) : SV := .tup [.p (fr r.1), .p (i64 r.2)]

theorem mul_bound {a b : Int} (ha : fits a) (hb : fits b) : -1000000000000000000 ≤ a * b ∧ a * b ≤ 1000000000000000000 := by
  unfold fits at ha hb
  have h1 : (a * b).natAbs ≤ 1000000000 * 1000000000 := by
    rw [Int.natAbs_mul]
    exact Nat.mul_le_mul (by omega) (by omega)
  omega

theorem valid_fits {a : Cx} (h : a.valid) : fits a.re ∧ fits a.im ∧ fits a.den ∧ 1 ≤ a.den := by
  obtain ⟨h1, h2, h3, h4, _⟩ := h
  exact ⟨h3, h4, by unfold fits; omega, h1⟩

theorem mul_pos' {a b : Int} (ha : 1 ≤ a) (hb : 1 ≤ b) : 0 < a * b := Int.mul_pos (by omega) (by omega)

theorem gcd_step (x y : Int) : Int.gcd y (x.tmod y) = Int.gcd x y := by
  unfold Int.gcd
  rw [Int.natAbs_tmod, Nat.gcd_comm x.natAbs, Nat.gcd_rec y.natAbs x.natAbs, Nat.gcd_comm]

theorem tdiv_g {x g : Int} (h : g ∣ x) (hg : 0 < g) : x.tdiv g = x / g := by
  rw [Int.tdiv_eq_ediv_of_dvd h]

/-- Division by a common divisor, as the machine does it. -/
theorem quo_w {x : Int} {g : Nat} (hg : 0 < g) (hd : ((g : Nat) : Int) ∣ x) (hx : -9223372036854775807 ≤ x ∧ x ≤ 9223372036854775807) : IntKind.i64.wrap (x.tdiv (g : Int)) = x / g := by
  have e : x.tdiv (g : Int) = x / g := tdiv_g hd (by omega)
  rw [e]
  obtain ⟨c, rfl⟩ := hd
  rw [Int.mul_ediv_cancel_left _ (by omega)]
  have hle : c.natAbs ≤ (((g : Nat) : Int) * c).natAbs := by
    rw [Int.natAbs_mul]
    exact Nat.le_mul_of_pos_left _ (by omega)
  exact wrap_id (by omega) (by omega)

theorem ediv_le {x : Int} {g : Nat} (hg : 0 < g) (hd : ((g : Nat) : Int) ∣ x) : (x / g).natAbs ≤ x.natAbs := by
  obtain ⟨c, rfl⟩ := hd
  rw [Int.mul_ediv_cancel_left _ (by omega), Int.natAbs_mul]
  exact Nat.le_mul_of_pos_left _ (by omega)

theorem ediv_pos {x : Int} {g : Nat} (hg : 0 < g) (hd : ((g : Nat) : Int) ∣ x) (hx : 0 < x) : 0 < x / g := by
  obtain ⟨c, rfl⟩ := hd
  rw [Int.mul_ediv_cancel_left _ (by omega)]
  exact Int.pos_of_mul_pos_right hx (by omega)

/-! The quotient's parts, made prime to each other before anything is multiplied. -/
section
variable (p q n d e : Int)
def rg1 : Nat := g3 p q n
def rg2 : Nat := Int.gcd d e
def rre : Int := p / rg1 p q n
def rim : Int := q / rg1 p q n
def rden : Int := n / rg1 p q n
def rtop : Int := d / rg2 d e
def rbot : Int := e / rg2 d e
def rg3 : Nat := g3 (rre p q n) (rim p q n) (rbot d e)
def rg4 : Nat := Int.gcd (rtop d e) (rden p q n)
def fre : Int := rre p q n / rg3 p q n d e
def fim : Int := rim p q n / rg3 p q n d e
def fbot : Int := rbot d e / rg3 p q n d e
def ftop : Int := rtop d e / rg4 p q n d e
def fden : Int := rden p q n / rg4 p q n d e
end

theorem cop_div {a b : Int} (h : 0 < Int.gcd a b) : Int.gcd (a / Int.gcd a b) (b / Int.gcd a b) = 1 := Int.gcd_ediv_gcd_ediv_gcd h

theorem gcd_dvd_one {a b a' b' : Int} (h : Int.gcd a b = 1) (ha : a' ∣ a) (hb : b' ∣ b) : Int.gcd a' b' = 1 := by
  have h1 : ((Int.gcd a' b' : Nat) : Int) ∣ ((Int.gcd a b : Nat) : Int) := Int.dvd_coe_gcd (Int.dvd_trans (Int.gcd_dvd_left ..) ha) (Int.dvd_trans (Int.gcd_dvd_right ..) hb)
  rw [h] at h1
  have := Int.ofNat_dvd.1 h1
  exact Nat.eq_one_of_dvd_one this

theorem red_facts {p q n d e : Int} (hn : 0 < n) (hd : 0 < d) (he : 0 < e) :
    0 < rg1 p q n ∧ 0 < rg2 d e ∧ 0 < rg3 p q n d e ∧ 0 < rg4 p q n d e ∧ 0 < rden p q n ∧ 0 < rtop d e ∧ 0 < rbot d e ∧ 0 < fden p q n d e ∧ 0 < ftop p q n d e ∧ 0 < fbot p q n d e ∧
    ((rg1 p q n : Nat) : Int) ∣ p ∧ ((rg1 p q n : Nat) : Int) ∣ q ∧ ((rg1 p q n : Nat) : Int) ∣ n ∧ ((rg2 d e : Nat) : Int) ∣ d ∧ ((rg2 d e : Nat) : Int) ∣ e ∧
    ((rg3 p q n d e : Nat) : Int) ∣ rre p q n ∧ ((rg3 p q n d e : Nat) : Int) ∣ rim p q n ∧ ((rg3 p q n d e : Nat) : Int) ∣ rbot d e ∧ ((rg4 p q n d e : Nat) : Int) ∣ rtop d e ∧ ((rg4 p q n d e : Nat) : Int) ∣ rden p q n := by
  have h1 : 0 < rg1 p q n := g3_pos (by omega)
  have h2 : 0 < rg2 d e := Int.gcd_pos_of_ne_zero_right _ (by omega)
  obtain ⟨a1, a2, a3⟩ := g3_dvd p q n
  have b1 : ((rg2 d e : Nat) : Int) ∣ d := Int.gcd_dvd_left ..
  have b2 : ((rg2 d e : Nat) : Int) ∣ e := Int.gcd_dvd_right ..
  have c1 : 0 < rden p q n := ediv_pos h1 a3 hn
  have c2 : 0 < rtop d e := ediv_pos h2 b1 hd
  have c3 : 0 < rbot d e := ediv_pos h2 b2 he
  have h3 : 0 < rg3 p q n d e := g3_pos (by omega)
  have h4 : 0 < rg4 p q n d e := Int.gcd_pos_of_ne_zero_right _ (by omega)
  obtain ⟨d1, d2, d3⟩ := g3_dvd (rre p q n) (rim p q n) (rbot d e)
  have e1 : ((rg4 p q n d e : Nat) : Int) ∣ rtop d e := Int.gcd_dvd_left ..
  have e2 : ((rg4 p q n d e : Nat) : Int) ∣ rden p q n := Int.gcd_dvd_right ..
  exact ⟨h1, h2, h3, h4, c1, c2, c3, ediv_pos h4 e2 c1, ediv_pos h4 e1 c2, ediv_pos h3 d3 c3, a1, a2, a3, b1, b2, d1, d2, d3, e1, e2⟩

theorem div_dvd {x : Int} {g : Nat} (hd : ((g : Nat) : Int) ∣ x) : x / g ∣ x := ⟨g, (Int.ediv_mul_cancel hd).symm⟩

theorem red_low {p q n d e : Int} (hn : 0 < n) (hd : 0 < d) (he : 0 < e) : g3 (fre p q n d e * ftop p q n d e) (fim p q n d e * ftop p q n d e) (fden p q n d e * fbot p q n d e) = 1 := by
  obtain ⟨h1, h2, h3, h4, c1, c2, c3, f1, f2, f3, a1, a2, a3, b1, b2, d1, d2, d3, e1, e2⟩ := red_facts (p := p) (q := q) hn hd he
  have k1 : g3 (rre p q n) (rim p q n) (rden p q n) = 1 := by
    obtain ⟨g, hg, x1, x2, x3, _, hc⟩ := norm_spec (x := p) (y := q) hn
    exact hc
  have k2 : Int.gcd (rtop d e) (rbot d e) = 1 := cop_div h2
  have k3 : g3 (fre p q n d e) (fim p q n d e) (fbot p q n d e) = 1 := by
    obtain ⟨g, hg, x1, x2, x3, _, hc⟩ := norm_spec (x := rre p q n) (y := rim p q n) c3
    exact hc
  have k4 : Int.gcd (ftop p q n d e) (fden p q n d e) = 1 := cop_div h4
  have k5 : Int.gcd (ftop p q n d e) (fbot p q n d e) = 1 := gcd_dvd_one k2 (div_dvd e1) (div_dvd d3)
  have k6 : Int.gcd ((Int.gcd (fre p q n d e) (fim p q n d e) : Nat) : Int) (fden p q n d e) = 1 := by
    refine gcd_dvd_one (a := ((Int.gcd (rre p q n) (rim p q n) : Nat) : Int)) (b := rden p q n) k1 ?_ (div_dvd e2)
    exact Int.dvd_coe_gcd (Int.dvd_trans (Int.gcd_dvd_left ..) (div_dvd d1)) (Int.dvd_trans (Int.gcd_dvd_right ..) (div_dvd d2))
  unfold g3 at k3 ⊢
  rw [Int.gcd_mul_right]
  generalize Int.gcd (fre p q n d e) (fim p q n d e) = h at k3 k6
  unfold Int.gcd at k3 k4 k5 k6 ⊢
  simp only [Int.natAbs_mul, Int.natAbs_natCast] at k3 k4 k5 k6 ⊢
  exact Nat.Coprime.mul_left (Nat.Coprime.mul_right k6 k3) (Nat.Coprime.mul_right k4 k5)

theorem red_norm {p q n d e : Int} (hn : 0 < n) (hd : 0 < d) (he : 0 < e) : norm (p * d) (q * d) (n * e) = ⟨fre p q n d e * ftop p q n d e, fim p q n d e * ftop p q n d e, fden p q n d e * fbot p q n d e⟩ := by
  obtain ⟨h1, h2, h3, h4, c1, c2, c3, f1, f2, f3, a1, a2, a3, b1, b2, d1, d2, d3, e1, e2⟩ := red_facts (p := p) (q := q) hn hd he
  refine norm_eq (Int.mul_pos hn he) (Int.mul_pos f1 f3) (red_low hn hd he) ?_ ?_
  · have x1 : p = fre p q n d e * rg3 p q n d e * rg1 p q n := by rw [fre, Int.ediv_mul_cancel d1, rre, Int.ediv_mul_cancel a1]
    have x2 : d = ftop p q n d e * rg4 p q n d e * rg2 d e := by rw [ftop, Int.ediv_mul_cancel e1, rtop, Int.ediv_mul_cancel b1]
    have x3 : n = fden p q n d e * rg4 p q n d e * rg1 p q n := by rw [fden, Int.ediv_mul_cancel e2, rden, Int.ediv_mul_cancel a3]
    have x4 : e = fbot p q n d e * rg3 p q n d e * rg2 d e := by rw [fbot, Int.ediv_mul_cancel d3, rbot, Int.ediv_mul_cancel b2]
    generalize fre p q n d e = A at *
    generalize ftop p q n d e = B at *
    generalize fden p q n d e = C at *
    generalize fbot p q n d e = D at *
    generalize ((rg1 p q n : Nat) : Int) = G1 at *
    generalize ((rg2 d e : Nat) : Int) = G2 at *
    generalize ((rg3 p q n d e : Nat) : Int) = G3 at *
    generalize ((rg4 p q n d e : Nat) : Int) = G4 at *
    clear a1 a2 a3 b1 b2 d1 d2 d3 e1 e2 h1 h2 h3 h4 c1 c2 c3
    subst x1 x2 x3 x4
    grind
  · have x1 : q = fim p q n d e * rg3 p q n d e * rg1 p q n := by rw [fim, Int.ediv_mul_cancel d2, rim, Int.ediv_mul_cancel a2]
    have x2 : d = ftop p q n d e * rg4 p q n d e * rg2 d e := by rw [ftop, Int.ediv_mul_cancel e1, rtop, Int.ediv_mul_cancel b1]
    have x3 : n = fden p q n d e * rg4 p q n d e * rg1 p q n := by rw [fden, Int.ediv_mul_cancel e2, rden, Int.ediv_mul_cancel a3]
    have x4 : e = fbot p q n d e * rg3 p q n d e * rg2 d e := by rw [fbot, Int.ediv_mul_cancel d3, rbot, Int.ediv_mul_cancel b2]
    generalize fim p q n d e = A at *
    generalize ftop p q n d e = B at *
    generalize fden p q n d e = C at *
    generalize fbot p q n d e = D at *
    generalize ((rg1 p q n : Nat) : Int) = G1 at *
    generalize ((rg2 d e : Nat) : Int) = G2 at *
    generalize ((rg3 p q n d e : Nat) : Int) = G3 at *
    generalize ((rg4 p q n d e : Nat) : Int) = G4 at *
    clear a1 a2 a3 b1 b2 d1 d2 d3 e1 e2 h1 h2 h3 h4 c1 c2 c3
    subst x1 x2 x3 x4
    grind

theorem eqPL_cx (a b : Cx) : eqPL [i64 a.re, i64 a.im, i64 a.den] [i64 b.re, i64 b.im, i64 b.den] = decide (a = b) := by
  cases a; cases b
  rw [Bool.eq_iff_iff]
  simp [eqPL, eqP]

/-- The square of the absolute value. -/
def nrm (a : Cx) : Frac × Int :=
  if a.valid then
    (if (a.re * a.re + a.im * a.im) / Int.gcd (a.re * a.re + a.im * a.im) (a.den * a.den) > 1000000000000000000 then (⟨0, 0⟩, 16)
     else (⟨(a.re * a.re + a.im * a.im) / Int.gcd (a.re * a.re + a.im * a.im) (a.den * a.den), (a.den * a.den) / Int.gcd (a.re * a.re + a.im * a.im) (a.den * a.den)⟩, 0))
  else (⟨0, 0⟩, 8)

def rot (a : Cx) : Cx := ⟨-a.im, a.re, a.den⟩
def rotN : Nat → Cx → Cx
  | 0, a => a
  | n + 1, a => rotN n (rot a)

/-- Quarters of a turn. -/
def quart (q : Int) : Nat := ((q.tmod 4 + 4).tmod 4).toNat
def turn (a : Cx) (q : Int) : Cx × Int := if a.valid then (rotN (quart q) a, 0) else (c0, 8)

def ray (a : Cx) : Cx × Int := if a.valid then (if a.zero then (c0, 18) else (⟨a.re / Int.gcd a.re a.im, a.im / Int.gcd a.re a.im, 1⟩, 0)) else (c0, 8)

theorem sq_nonneg (x : Int) : 0 ≤ x * x := by rw [← Int.natAbs_mul_self]; omega

end Go.Pv
