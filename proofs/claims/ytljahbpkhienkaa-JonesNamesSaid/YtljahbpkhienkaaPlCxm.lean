/- Complex numbers with rational parts, in plain Lean. -/
import Derived.Test.YtljahbpkhienkaaPvKm
namespace Go.Pv
open Go.Vc

structure Cx where
  re : Int
  im : Int
  den : Int
deriving DecidableEq

instance : Enc Cx where
  sz := 3
  cs l := [i64 l.re, i64 l.im, i64 l.den]
  ok l := I64 l.re ∧ I64 l.im ∧ I64 l.den
  len _ := rfl
  pos := by decide

abbrev cx (a : Cx) : PV := .agg [i64 a.re, i64 a.im, i64 a.den]

structure Frac where
  num : Int
  den : Int
deriving DecidableEq

instance : Enc Frac where
  sz := 2
  cs l := [i64 l.num, i64 l.den]
  ok l := I64 l.num ∧ I64 l.den
  len _ := rfl
  pos := by decide

abbrev fr (a : Frac) : PV := .agg [i64 a.num, i64 a.den]

/-- The common divisor of three numbers. -/
def g3 (x y z : Int) : Nat := Int.gcd (Int.gcd x y) z

def fits (x : Int) : Prop := -1000000000 ≤ x ∧ x ≤ 1000000000
instance (x : Int) : Decidable (fits x) := by unfold fits; infer_instance

/-- Valid numbers. -/
def Cx.valid (a : Cx) : Prop := 1 ≤ a.den ∧ a.den ≤ 1000000000 ∧ fits a.re ∧ fits a.im ∧ g3 a.re a.im a.den = 1
instance (a : Cx) : Decidable a.valid := by unfold Cx.valid; infer_instance

def chk (a : Cx) : Int := if a.valid then 0 else 8

def Cx.zero (a : Cx) : Prop := a.re = 0 ∧ a.im = 0
instance (a : Cx) : Decidable a.zero := by unfold Cx.zero; infer_instance

def c0 : Cx := ⟨0, 0, 0⟩
def one : Cx := ⟨1, 0, 1⟩

/-- In lowest terms. -/
def norm (x y z : Int) : Cx := ⟨x / g3 x y z, y / g3 x y z, z / g3 x y z⟩

/-- The number, or an error: its parts are too great. -/
def make (x y z : Int) : Cx × Int :=
  if fits (norm x y z).re ∧ fits (norm x y z).im ∧ fits (norm x y z).den then (norm x y z, 0) else (c0, 16)

theorem g3_dvd (x y z : Int) : ((g3 x y z : Nat) : Int) ∣ x ∧ ((g3 x y z : Nat) : Int) ∣ y ∧ ((g3 x y z : Nat) : Int) ∣ z := by
  have h1 : ((g3 x y z : Nat) : Int) ∣ ((Int.gcd x y : Nat) : Int) := Int.gcd_dvd_left ..
  exact ⟨Int.dvd_trans h1 (Int.gcd_dvd_left ..), Int.dvd_trans h1 (Int.gcd_dvd_right ..), Int.gcd_dvd_right ..⟩

theorem dvd_g3 {d : Nat} {x y z : Int} (hx : (d : Int) ∣ x) (hy : (d : Int) ∣ y) (hz : (d : Int) ∣ z) : d ∣ g3 x y z := by
  have h1 : (d : Int) ∣ ((Int.gcd x y : Nat) : Int) := Int.dvd_coe_gcd hx hy
  exact Int.ofNat_dvd.1 (Int.dvd_coe_gcd h1 hz)

theorem g3_pos {x y z : Int} (h : z ≠ 0) : 0 < g3 x y z := Int.gcd_pos_of_ne_zero_right _ h

theorem g3_mul (k : Nat) (x y z : Int) : g3 (x * k) (y * k) (z * k) = g3 x y z * k := by
  unfold g3
  rw [Int.gcd_mul_right, Int.natCast_mul]
  have : ((Int.natAbs (k : Int) : Nat) : Int) = k := by simp
  rw [this, Int.gcd_mul_right]
  simp

/-- A multiple in lowest terms. -/
theorem norm_spec {x y z : Int} (h : 0 < z) : ∃ g : Nat, 0 < g ∧ x = (norm x y z).re * g ∧ y = (norm x y z).im * g ∧ z = (norm x y z).den * g ∧ 0 < (norm x y z).den ∧ g3 (norm x y z).re (norm x y z).im (norm x y z).den = 1 := by
  have hp := g3_pos (x := x) (y := y) (z := z) (by omega)
  obtain ⟨h1, h2, h3⟩ := g3_dvd x y z
  have e1 : x = (norm x y z).re * (g3 x y z : Nat) := (Int.ediv_mul_cancel h1).symm
  have e2 : y = (norm x y z).im * (g3 x y z : Nat) := (Int.ediv_mul_cancel h2).symm
  have e3 : z = (norm x y z).den * (g3 x y z : Nat) := (Int.ediv_mul_cancel h3).symm
  refine ⟨g3 x y z, hp, e1, e2, e3, ?_, ?_⟩
  · have : 0 < (norm x y z).den * ((g3 x y z : Nat) : Int) := by rw [← e3]; exact h
    exact Int.pos_of_mul_pos_left this (by omega)
  · have := g3_mul (g3 x y z) (norm x y z).re (norm x y z).im (norm x y z).den
    rw [← e1, ← e2, ← e3] at this
    have h5 : 1 * g3 x y z = g3 (norm x y z).re (norm x y z).im (norm x y z).den * g3 x y z := by omega
    exact (Nat.eq_of_mul_eq_mul_right hp h5).symm

/-- There is just one number in lowest terms. -/
theorem low_unique {x y z u v t : Int} (hz : 0 < z) (ht : 0 < t) (h1 : g3 x y z = 1) (h2 : g3 u v t = 1) (e1 : x * t = u * z) (e2 : y * t = v * z) : x = u ∧ y = v ∧ z = t := by
  have dv : ∀ {x y z u v t : Int}, 0 < z → 0 < t → g3 x y z = 1 → x * t = u * z → y * t = v * z → z ∣ t := by
    intro x y z u v t hz ht h1 e1 e2
    have hzn : ((z.natAbs : Nat) : Int) = z := by omega
    have htn : ((t.natAbs : Nat) : Int) = t := by omega
    have h3 := dvd_g3 (d := z.natAbs) (x := x * t) (y := y * t) (z := z * t) (by rw [hzn, e1]; exact Int.dvd_mul_left ..) (by rw [hzn, e2]; exact Int.dvd_mul_left ..) (by rw [hzn]; exact Int.dvd_mul_right ..)
    rw [← htn, g3_mul, h1, Nat.one_mul] at h3
    exact Int.natAbs_dvd_natAbs.1 h3
  have a1 := dv hz ht h1 e1 e2
  have a2 := dv ht hz h2 e1.symm e2.symm
  have hzt : z = t := Int.dvd_antisymm (by omega) (by omega) a1 a2
  subst hzt
  exact ⟨Int.eq_of_mul_eq_mul_right (by omega) e1, Int.eq_of_mul_eq_mul_right (by omega) e2, rfl⟩

theorem norm_eq {x y z u v t : Int} (hz : 0 < z) (ht : 0 < t) (h2 : g3 u v t = 1) (e1 : x * t = u * z) (e2 : y * t = v * z) : norm x y z = ⟨u, v, t⟩ := by
  obtain ⟨g, hg, f1, f2, f3, hp, hc⟩ := norm_spec (x := x) (y := y) hz
  have hgz : ((g : Nat) : Int) ≠ 0 := by omega
  obtain ⟨a1, a2, a3⟩ := low_unique (x := (norm x y z).re) (y := (norm x y z).im) (z := (norm x y z).den) hp ht hc h2
    (by have : (norm x y z).re * t * g = u * (norm x y z).den * g := by
          rw [Int.mul_right_comm, ← f1, e1, Int.mul_assoc, ← f3]
        exact Int.eq_of_mul_eq_mul_right hgz this)
    (by have : (norm x y z).im * t * g = v * (norm x y z).den * g := by
          rw [Int.mul_right_comm, ← f2, e2, Int.mul_assoc, ← f3]
        exact Int.eq_of_mul_eq_mul_right hgz this)
  cases hn : norm x y z
  simp only [hn] at a1 a2 a3
  rw [a1, a2, a3]

theorem norm_low {x y z : Int} (hz : 0 < z) (h : g3 x y z = 1) : norm x y z = ⟨x, y, z⟩ := norm_eq hz hz h rfl rfl

theorem valid_norm {x y z : Int} (hz : 0 < z) : (norm x y z).valid ↔ fits (norm x y z).re ∧ fits (norm x y z).im ∧ fits (norm x y z).den := by
  obtain ⟨g, _, _, _, _, hp, hc⟩ := norm_spec (x := x) (y := y) hz
  unfold Cx.valid fits
  constructor
  · intro h; exact ⟨h.2.2.1, h.2.2.2.1, by omega, h.2.1⟩
  · intro h; exact ⟨by omega, h.2.2.2, h.1, h.2.1, hc⟩

theorem make_valid {x y z : Int} (hz : 0 < z) : make x y z = if (norm x y z).valid then (norm x y z, 0) else (c0, 16) := by
  unfold make
  by_cases h : (norm x y z).valid
  · rw [if_pos ((valid_norm hz).1 h), if_pos h]
  · rw [if_neg (fun h' => h ((valid_norm hz).2 h')), if_neg h]

/-- Valid numbers are the same if they are as much. -/
theorem Cx.eq_of {a b : Cx} (ha : a.valid) (hb : b.valid) (e1 : a.re * b.den = b.re * a.den) (e2 : a.im * b.den = b.im * a.den) : a = b := by
  obtain ⟨h1, h2, h3⟩ := low_unique (x := a.re) (y := a.im) (z := a.den) (by have := ha.1; omega) (by have := hb.1; omega) ha.2.2.2.2 hb.2.2.2.2 e1 e2
  cases a; cases b
  simp_all

/-! ### The four kinds of reckoning -/

def mul (a b : Cx) : Cx × Int := if a.valid ∧ b.valid then make (a.re * b.re - a.im * b.im) (a.re * b.im + a.im * b.re) (a.den * b.den) else (c0, 8)
def add (a b : Cx) : Cx × Int := if a.valid ∧ b.valid then make (a.re * b.den + b.re * a.den) (a.im * b.den + b.im * a.den) (a.den * b.den) else (c0, 8)
def sub (a b : Cx) : Cx × Int := if a.valid ∧ b.valid then make (a.re * b.den - b.re * a.den) (a.im * b.den - b.im * a.den) (a.den * b.den) else (c0, 8)
def div (a b : Cx) : Cx × Int := if a.valid ∧ b.valid then (if b.zero then (c0, 18) else make ((a.re * b.re + a.im * b.im) * b.den) ((a.im * b.re - a.re * b.im) * b.den) ((b.re * b.re + b.im * b.im) * a.den)) else (c0, 8)
def neg (a : Cx) : Cx := ⟨-a.re, -a.im, a.den⟩
def conj (a : Cx) : Cx := ⟨a.re, -a.im, a.den⟩

/-- A number and an error code. -/
abbrev resC (r : Cx × Int) : SV := .tup [.p (cx r.1), .p (i64 r.2)]
abbrev resF (r : Frac × Int) : SV := .tup [.p (fr r.1), .p (i64 r.2)]

theorem mul_bound {a b : Int} (ha : fits a) (hb : fits b) : -1000000000000000000 ≤ a * b ∧ a * b ≤ 1000000000000000000 := by
  unfold fits at ha hb
  have h1 : (a * b).natAbs ≤ 1000000000 * 1000000000 := by
    rw [Int.natAbs_mul]
    exact Nat.mul_le_mul (by omega) (by omega)
  omega

theorem valid_fits {a : Cx} (h : a.valid) : fits a.re ∧ fits a.im ∧ fits a.den ∧ 1 ≤ a.den := by
  obtain ⟨h1, h2, h3, h4, _⟩ := h
  exact ⟨h3, h4, by unfold fits; omega, h1⟩

theorem mul_pos' {a b : Int} (ha : 1 ≤ a) (hb : 1 ≤ b) : 0 < a * b := Int.mul_pos (by omega) (by omega)

theorem gcd_step (x y : Int) : Int.gcd y (x.tmod y) = Int.gcd x y := by
  unfold Int.gcd
  rw [Int.natAbs_tmod, Nat.gcd_comm x.natAbs, Nat.gcd_rec y.natAbs x.natAbs, Nat.gcd_comm]

theorem tdiv_g {x g : Int} (h : g ∣ x) (hg : 0 < g) : x.tdiv g = x / g := by
  rw [Int.tdiv_eq_ediv_of_dvd h]

/-- Division by a common divisor, as the machine does it. -/
theorem quo_w {x : Int} {g : Nat} (hg : 0 < g) (hd : ((g : Nat) : Int) ∣ x) (hx : -9223372036854775807 ≤ x ∧ x ≤ 9223372036854775807) : IntKind.i64.wrap (x.tdiv (g : Int)) = x / g := by
  have e : x.tdiv (g : Int) = x / g := tdiv_g hd (by omega)
  rw [e]
  obtain ⟨c, rfl⟩ := hd
  rw [Int.mul_ediv_cancel_left _ (by omega)]
  have hle : c.natAbs ≤ (((g : Nat) : Int) * c).natAbs := by
    rw [Int.natAbs_mul]
    exact Nat.le_mul_of_pos_left _ (by omega)
  exact wrap_id (by omega) (by omega)

theorem ediv_le {x : Int} {g : Nat} (hg : 0 < g) (hd : ((g : Nat) : Int) ∣ x) : (x / g).natAbs ≤ x.natAbs := by
  obtain ⟨c, rfl⟩ := hd
  rw [Int.mul_ediv_cancel_left _ (by omega), Int.natAbs_mul]
  exact Nat.le_mul_of_pos_left _ (by omega)

theorem ediv_pos {x : Int} {g : Nat} (hg : 0 < g) (hd : ((g : Nat) : Int) ∣ x) (hx : 0 < x) : 0 < x / g := by
  obtain ⟨c, rfl⟩ := hd
  rw [Int.mul_ediv_cancel_left _ (by omega)]
  exact Int.pos_of_mul_pos_right hx (by omega)

/-! The quotient's parts, made prime to each other before anything is multiplied. -/
section
variable (p q n d e : Int)
def rg1 : Nat := g3 p q n
def rg2 : Nat := Int.gcd d e
def rre : Int := p / rg1 p q n
def rim : Int := q / rg1 p q n
def rden : Int := n / rg1 p q n
def rtop : Int := d / rg2 d e
def rbot : Int := e / rg2 d e
def rg3 : Nat := g3 (rre p q n) (rim p q n) (rbot d e)
def rg4 : Nat := Int.gcd (rtop d e) (rden p q n)
def fre : Int := rre p q n / rg3 p q n d e
def fim : Int := rim p q n / rg3 p q n d e
def fbot : Int := rbot d e / rg3 p q n d e
def ftop : Int := rtop d e / rg4 p q n d e
def fden : Int := rden p q n / rg4 p q n d e
end

theorem cop_div {a b : Int} (h : 0 < Int.gcd a b) : Int.gcd (a / Int.gcd a b) (b / Int.gcd a b) = 1 := Int.gcd_ediv_gcd_ediv_gcd h

theorem gcd_dvd_one {a b a' b' : Int} (h : Int.gcd a b = 1) (ha : a' ∣ a) (hb : b' ∣ b) : Int.gcd a' b' = 1 := by
  have h1 : ((Int.gcd a' b' : Nat) : Int) ∣ ((Int.gcd a b : Nat) : Int) := Int.dvd_coe_gcd (Int.dvd_trans (Int.gcd_dvd_left ..) ha) (Int.dvd_trans (Int.gcd_dvd_right ..) hb)
  rw [h] at h1
  have := Int.ofNat_dvd.1 h1
  exact Nat.eq_one_of_dvd_one this

theorem red_facts {p q n d e : Int} (hn : 0 < n) (hd : 0 < d) (he : 0 < e) :
    0 < rg1 p q n ∧ 0 < rg2 d e ∧ 0 < rg3 p q n d e ∧ 0 < rg4 p q n d e ∧ 0 < rden p q n ∧ 0 < rtop d e ∧ 0 < rbot d e ∧ 0 < fden p q n d e ∧ 0 < ftop p q n d e ∧ 0 < fbot p q n d e ∧
    ((rg1 p q n : Nat) : Int) ∣ p ∧ ((rg1 p q n : Nat) : Int) ∣ q ∧ ((rg1 p q n : Nat) : Int) ∣ n ∧ ((rg2 d e : Nat) : Int) ∣ d ∧ ((rg2 d e : Nat) : Int) ∣ e ∧
    ((rg3 p q n d e : Nat) : Int) ∣ rre p q n ∧ ((rg3 p q n d e : Nat) : Int) ∣ rim p q n ∧ ((rg3 p q n d e : Nat) : Int) ∣ rbot d e ∧ ((rg4 p q n d e : Nat) : Int) ∣ rtop d e ∧ ((rg4 p q n d e : Nat) : Int) ∣ rden p q n := by
  have h1 : 0 < rg1 p q n := g3_pos (by omega)
  have h2 : 0 < rg2 d e := Int.gcd_pos_of_ne_zero_right _ (by omega)
  obtain ⟨a1, a2, a3⟩ := g3_dvd p q n
  have b1 : ((rg2 d e : Nat) : Int) ∣ d := Int.gcd_dvd_left ..
  have b2 : ((rg2 d e : Nat) : Int) ∣ e := Int.gcd_dvd_right ..
  have c1 : 0 < rden p q n := ediv_pos h1 a3 hn
  have c2 : 0 < rtop d e := ediv_pos h2 b1 hd
  have c3 : 0 < rbot d e := ediv_pos h2 b2 he
  have h3 : 0 < rg3 p q n d e := g3_pos (by omega)
  have h4 : 0 < rg4 p q n d e := Int.gcd_pos_of_ne_zero_right _ (by omega)
  obtain ⟨d1, d2, d3⟩ := g3_dvd (rre p q n) (rim p q n) (rbot d e)
  have e1 : ((rg4 p q n d e : Nat) : Int) ∣ rtop d e := Int.gcd_dvd_left ..
  have e2 : ((rg4 p q n d e : Nat) : Int) ∣ rden p q n := Int.gcd_dvd_right ..
  exact ⟨h1, h2, h3, h4, c1, c2, c3, ediv_pos h4 e2 c1, ediv_pos h4 e1 c2, ediv_pos h3 d3 c3, a1, a2, a3, b1, b2, d1, d2, d3, e1, e2⟩

theorem div_dvd {x : Int} {g : Nat} (hd : ((g : Nat) : Int) ∣ x) : x / g ∣ x := ⟨g, (Int.ediv_mul_cancel hd).symm⟩

theorem red_low {p q n d e : Int} (hn : 0 < n) (hd : 0 < d) (he : 0 < e) : g3 (fre p q n d e * ftop p q n d e) (fim p q n d e * ftop p q n d e) (fden p q n d e * fbot p q n d e) = 1 := by
  obtain ⟨h1, h2, h3, h4, c1, c2, c3, f1, f2, f3, a1, a2, a3, b1, b2, d1, d2, d3, e1, e2⟩ := red_facts (p := p) (q := q) hn hd he
  have k1 : g3 (rre p q n) (rim p q n) (rden p q n) = 1 := by
    obtain ⟨g, hg, x1, x2, x3, _, hc⟩ := norm_spec (x := p) (y := q) hn
    exact hc
  have k2 : Int.gcd (rtop d e) (rbot d e) = 1 := cop_div h2
  have k3 : g3 (fre p q n d e) (fim p q n d e) (fbot p q n d e) = 1 := by
    obtain ⟨g, hg, x1, x2, x3, _, hc⟩ := norm_spec (x := rre p q n) (y := rim p q n) c3
    exact hc
  have k4 : Int.gcd (ftop p q n d e) (fden p q n d e) = 1 := cop_div h4
  have k5 : Int.gcd (ftop p q n d e) (fbot p q n d e) = 1 := gcd_dvd_one k2 (div_dvd e1) (div_dvd d3)
  have k6 : Int.gcd ((Int.gcd (fre p q n d e) (fim p q n d e) : Nat) : Int) (fden p q n d e) = 1 := by
    refine gcd_dvd_one (a := ((Int.gcd (rre p q n) (rim p q n) : Nat) : Int)) (b := rden p q n) k1 ?_ (div_dvd e2)
    exact Int.dvd_coe_gcd (Int.dvd_trans (Int.gcd_dvd_left ..) (div_dvd d1)) (Int.dvd_trans (Int.gcd_dvd_right ..) (div_dvd d2))
  unfold g3 at k3 ⊢
  rw [Int.gcd_mul_right]
  generalize Int.gcd (fre p q n d e) (fim p q n d e) = h at k3 k6
  unfold Int.gcd at k3 k4 k5 k6 ⊢
  simp only [Int.natAbs_mul, Int.natAbs_natCast] at k3 k4 k5 k6 ⊢
  exact Nat.Coprime.mul_left (Nat.Coprime.mul_right k6 k3) (Nat.Coprime.mul_right k4 k5)

theorem red_norm {p q n d e : Int} (hn : 0 < n) (hd : 0 < d) (he : 0 < e) : norm (p * d) (q * d) (n * e) = ⟨fre p q n d e * ftop p q n d e, fim p q n d e * ftop p q n d e, fden p q n d e * fbot p q n d e⟩ := by
  obtain ⟨h1, h2, h3, h4, c1, c2, c3, f1, f2, f3, a1, a2, a3, b1, b2, d1, d2, d3, e1, e2⟩ := red_facts (p := p) (q := q) hn hd he
  refine norm_eq (Int.mul_pos hn he) (Int.mul_pos f1 f3) (red_low hn hd he) ?_ ?_
  · have x1 : p = fre p q n d e * rg3 p q n d e * rg1 p q n := by rw [fre, Int.ediv_mul_cancel d1, rre, Int.ediv_mul_cancel a1]
    have x2 : d = ftop p q n d e * rg4 p q n d e * rg2 d e := by rw [ftop, Int.ediv_mul_cancel e1, rtop, Int.ediv_mul_cancel b1]
    have x3 : n = fden p q n d e * rg4 p q n d e * rg1 p q n := by rw [fden, Int.ediv_mul_cancel e2, rden, Int.ediv_mul_cancel a3]
    have x4 : e = fbot p q n d e * rg3 p q n d e * rg2 d e := by rw [fbot, Int.ediv_mul_cancel d3, rbot, Int.ediv_mul_cancel b2]
    generalize fre p q n d e = A at *
    generalize ftop p q n d e = B at *
    generalize fden p q n d e = C at *
    generalize fbot p q n d e = D at *
    generalize ((rg1 p q n : Nat) : Int) = G1 at *
    generalize ((rg2 d e : Nat) : Int) = G2 at *
    generalize ((rg3 p q n d e : Nat) : Int) = G3 at *
    generalize ((rg4 p q n d e : Nat) : Int) = G4 at *
    clear a1 a2 a3 b1 b2 d1 d2 d3 e1 e2 h1 h2 h3 h4 c1 c2 c3
    subst x1 x2 x3 x4
    grind
  · have x1 : q = fim p q n d e * rg3 p q n d e * rg1 p q n := by rw [fim, Int.ediv_mul_cancel d2, rim, Int.ediv_mul_cancel a2]
    have x2 : d = ftop p q n d e * rg4 p q n d e * rg2 d e := by rw [ftop, Int.ediv_mul_cancel e1, rtop, Int.ediv_mul_cancel b1]
    have x3 : n = fden p q n d e * rg4 p q n d e * rg1 p q n := by rw [fden, Int.ediv_mul_cancel e2, rden, Int.ediv_mul_cancel a3]
    have x4 : e = fbot p q n d e * rg3 p q n d e * rg2 d e := by rw [fbot, Int.ediv_mul_cancel d3, rbot, Int.ediv_mul_cancel b2]
    generalize fim p q n d e = A at *
    generalize ftop p q n d e = B at *
    generalize fden p q n d e = C at *
    generalize fbot p q n d e = D at *
    generalize ((rg1 p q n : Nat) : Int) = G1 at *
    generalize ((rg2 d e : Nat) : Int) = G2 at *
    generalize ((rg3 p q n d e : Nat) : Int) = G3 at *
    generalize ((rg4 p q n d e : Nat) : Int) = G4 at *
    clear a1 a2 a3 b1 b2 d1 d2 d3 e1 e2 h1 h2 h3 h4 c1 c2 c3
    subst x1 x2 x3 x4
    grind

theorem eqPL_cx (a b : Cx) : eqPL [i64 a.re, i64 a.im, i64 a.den] [i64 b.re, i64 b.im, i64 b.den] = decide (a = b) := by
  cases a; cases b
  rw [Bool.eq_iff_iff]
  simp [eqPL, eqP]

/-- The square of the absolute value. -/
def nrm (a : Cx) : Frac × Int :=
  if a.valid then
    (if (a.re * a.re + a.im * a.im) / Int.gcd (a.re * a.re + a.im * a.im) (a.den * a.den) > 1000000000000000000 then (⟨0, 0⟩, 16)
     else (⟨(a.re * a.re + a.im * a.im) / Int.gcd (a.re * a.re + a.im * a.im) (a.den * a.den), (a.den * a.den) / Int.gcd (a.re * a.re + a.im * a.im) (a.den * a.den)⟩, 0))
  else (⟨0, 0⟩, 8)

def rot (a : Cx) : Cx := ⟨-a.im, a.re, a.den⟩
def rotN : Nat → Cx → Cx
  | 0, a => a
  | n + 1, a => rotN n (rot a)

/-- Quarters of a turn. -/
def quart (q : Int) : Nat := ((q.tmod 4 + 4).tmod 4).toNat
def turn (a : Cx) (q : Int) : Cx × Int := if a.valid then (rotN (quart q) a, 0) else (c0, 8)

def ray (a : Cx) : Cx × Int := if a.valid then (if a.zero then (c0, 18) else (⟨a.re / Int.gcd a.re a.im, a.im / Int.gcd a.re a.im, 1⟩, 0)) else (c0, 8)

theorem sq_nonneg (x : Int) : 0 ≤ x * x := by rw [← Int.natAbs_mul_self]; omega

end Go.Pv

/- Visibilities, in plain Lean. -/
namespace Go.Pv
open Go.Vc

structure Vis where
  i : Int
  j : Int
  v : Cx
  n : Int
deriving DecidableEq

instance : Enc Vis where
  sz := 6
  cs l := [i64 l.i, i64 l.j, i64 l.v.re, i64 l.v.im, i64 l.v.den, i64 l.n]
  ok l := I64 l.i ∧ I64 l.j ∧ Enc.ok l.v ∧ I64 l.n
  len _ := rfl
  pos := by decide

abbrev vi (l : Vis) : PV := .agg [i64 l.i, i64 l.j, i64 l.v.re, i64 l.v.im, i64 l.v.den, i64 l.n]

/-- Valid for n stations. -/
def Vis.good (v : Vis) (n : Int) : Prop := 0 ≤ v.i ∧ v.i < v.j ∧ v.j < n ∧ 0 ≤ v.n ∧ v.v.valid
instance (v : Vis) (n : Int) : Decidable (v.good n) := by unfold Vis.good; infer_instance

def all26 (l : List Vis) (n : Int) : Int := if 64 < l.length then 4 else if l.all (fun v => decide (v.good n)) then 0 else 8

def Vis.key (v : Vis) : Int × Int := (v.i, v.j)

def ck27 (l : List Vis) : Int := if all26 l 8 ≠ 0 then all26 l 8 else if (l.map Vis.key).Nodup then 0 else 14

theorem all26_0 {l : List Vis} {n : Int} (h : all26 l n = 0) : l.length ≤ 64 ∧ ∀ v ∈ l, v.good n := by
  unfold all26 at h
  split at h
  · omega
  · split at h
    · rename_i h1 h2
      rw [List.all_eq_true] at h2
      exact ⟨by omega, fun v hv => by simpa using h2 v hv⟩
    · omega

theorem all26_8 {l : List Vis} {n : Int} (h : l.length ≤ 64) {k : Nat} (hk : k < l.length) (hb : ¬ l[k].good n) : all26 l n = 8 := by
  unfold all26
  rw [if_neg (by omega), if_neg]
  rw [List.all_eq_true]
  intro h'
  have := h' l[k] (List.getElem_mem hk)
  exact hb (by simpa using this)

theorem ck27_0 {l : List Vis} (h : ck27 l = 0) : l.length ≤ 64 ∧ (∀ v ∈ l, v.good 8) ∧ (l.map Vis.key).Nodup := by
  unfold ck27 at h
  split at h
  · omega
  · split at h
    · rename_i h1 h2
      have := all26_0 (by omega : all26 l 8 = 0)
      exact ⟨this.1, this.2, h2⟩
    · omega

theorem keys_succ {l : List Vis} {k : Nat} (hk : k < l.length) : ((l.take (k + 1)).map Vis.key).Nodup ↔ ((l.take k).map Vis.key).Nodup ∧ ∀ m, (hm : m < k) → (l[m]'(by omega)).key ≠ l[k].key := by
  rw [List.take_succ_eq_append_getElem hk, List.map_append, List.map_singleton, List.nodup_append]
  constructor
  · rintro ⟨h1, _, h3⟩
    refine ⟨h1, fun m hm => ?_⟩
    refine h3 _ ?_ _ (by simp)
    rw [List.mem_map]
    exact ⟨l[m], by rw [List.mem_take_iff_getElem]; exact ⟨m, by omega, rfl⟩, rfl⟩
  · rintro ⟨h1, h2⟩
    refine ⟨h1, by simp, ?_⟩
    intro a ha b hb
    simp at hb
    subst hb
    rw [List.mem_map] at ha
    obtain ⟨v, hv, rfl⟩ := ha
    rw [List.mem_take_iff_getElem] at hv
    obtain ⟨m, hm, rfl⟩ := hv
    exact h2 m (by omega)

theorem keys_take {l : List Vis} (k : Nat) (h : (l.map Vis.key).Nodup) : ((l.take k).map Vis.key).Nodup := by
  rw [List.map_take]
  exact h.sublist (List.take_sublist ..)

/-- Whether a pair of stations is there. -/
def hit (l : List Vis) (c : Nat) : Bool := l.any fun v => v.i * 8 + v.j == c

theorem hit_snoc (l : List Vis) (v : Vis) (c : Nat) : hit (l ++ [v]) c = (hit l c || (v.i * 8 + v.j == c)) := by
  simp [hit]

def seenAt (l : List Vis) : List PV := (List.range 64).map fun c => bl (hit l c)

theorem seenAt_nil : List.replicate 64 (bl false) = seenAt [] := rfl

theorem part_map {α : Type} (g : Nat → α) (n i m : Nat) (h : i + m ≤ n) : (((List.range n).map g).drop i).take m = (List.range m).map fun j => g (i + j) := by
  apply List.ext_getElem?
  intro j
  rw [List.getElem?_take]
  split
  · rename_i hj
    rw [List.getElem?_drop, List.getElem?_map, List.getElem?_map, List.getElem?_range (by omega), List.getElem?_range (by omega)]
    rfl
  · rename_i hj
    rw [List.getElem?_eq_none]
    simp; omega

theorem spl_map {α : Type} (g g' : Nat → α) (n i : Nat) (v : α) (h : i < n) (hv : g' i = v) (hg : ∀ j, j ≠ i → g' j = g j) : spl ((List.range n).map g) i [v] = (List.range n).map g' := by
  apply List.ext_getElem?
  intro j
  unfold spl
  have hl : (((List.range n).map g).take i).length = i := by simp; omega
  rw [List.append_assoc, List.getElem?_append, hl]
  split
  · rename_i hj
    rw [List.getElem?_take, if_pos hj, List.getElem?_map, List.getElem?_map, List.getElem?_range (by omega)]
    simp [hg j (by omega)]
  · rename_i hj
    rw [List.getElem?_append]
    split
    · rename_i hj2
      simp at hj2
      have : j = i := by omega
      subst this
      simp [h, hv]
    · rename_i hj2
      simp at hj2
      rw [List.getElem?_drop, List.getElem?_map, List.getElem?_map]
      simp only [List.length_singleton]
      rw [show i + 1 + (j - i - 1) = j by omega]
      by_cases hjn : j < n
      · rw [List.getElem?_range hjn]; simp [hg j (by omega)]
      · rw [List.getElem?_eq_none (by simp; omega)]; simp

theorem hit_iff {l : List Vis} (hl : ∀ v ∈ l, v.good 8) {v : Vis} (hv : v.good 8) {c : Nat} (hc : v.i * 8 + v.j = c) : hit l c = true ↔ ∃ u ∈ l, u.key = v.key := by
  unfold hit
  rw [List.any_eq_true]
  constructor
  · rintro ⟨u, hu, h⟩
    have g := hl u hu
    simp at h
    refine ⟨u, hu, ?_⟩
    unfold Vis.good at g hv
    unfold Vis.key
    have : u.i = v.i := by omega
    have : u.j = v.j := by omega
    simp [*]
  · rintro ⟨u, hu, h⟩
    refine ⟨u, hu, ?_⟩
    unfold Vis.key at h
    simp at h
    simp [h.1, h.2, hc]

/-- The visibility from a station to another one. -/
def got (i j : Int) : List Vis → Option Cx
  | [] => none
  | v :: r => if v.i = i ∧ v.j = j then some v.v else if v.i = j ∧ v.j = i then some (conj v.v) else got i j r

theorem got_drop {l : List Vis} {k : Nat} (hk : k < l.length) (i j : Int) : got i j (l.drop k) = if l[k].i = i ∧ l[k].j = j then some l[k].v else if l[k].i = j ∧ l[k].j = i then some (conj l[k].v) else got i j (l.drop (k + 1)) := by
  rw [List.drop_eq_getElem_cons hk]; rfl

/-- All are stations, and different. -/
def apart (l : List Int) : Prop := (∀ s ∈ l, 0 ≤ s ∧ s < 8) ∧ l.Nodup
instance (l : List Int) : Decidable (apart l) := by unfold apart; infer_instance

theorem apart_succ {l : List Int} {k : Nat} (hk : k < l.length) : apart (l.take (k + 1)) ↔ apart (l.take k) ∧ (0 ≤ l[k] ∧ l[k] < 8) ∧ l[k] ∉ l.take k := by
  unfold apart
  rw [List.take_succ_eq_append_getElem hk, List.nodup_append]
  constructor
  · rintro ⟨h1, h2, _, h3⟩
    exact ⟨⟨fun s hs => h1 s (List.mem_append_left _ hs), h2⟩, h1 _ (List.mem_append_right _ (List.mem_singleton.2 rfl)), fun hm => h3 _ hm _ (List.mem_singleton.2 rfl) rfl⟩
  · rintro ⟨⟨h1, h2⟩, h3, h4⟩
    refine ⟨fun s hs => ?_, h2, by simp, fun a ha b hb => ?_⟩
    · rw [List.mem_append] at hs
      rcases hs with hs | hs
      · exact h1 s hs
      · simp at hs; rw [hs]; exact h3
    · simp at hb; rintro rfl; exact h4 (hb ▸ ha)

theorem apart_take {l : List Int} (k : Nat) (h : apart l) : apart (l.take k) :=
  ⟨fun s hs => h.1 s (List.mem_of_mem_take hs), h.2.sublist (List.take_sublist ..)⟩

def inAt (l : List Int) : List PV := (List.range 8).map fun (c : Nat) => bl (decide ((c : Int) ∈ l))

def get27 (l : List Vis) (i j : Int) : Cx × Int :=
  if ck27 l ≠ 0 then (c0, ck27 l) else if ¬ apart [i, j] then (c0, 2) else match got i j l with | some c => (c, 0) | none => (c0, 6)

/-! Triples -/

structure Tri where
  a : Int
  b : Int
  c : Int
deriving DecidableEq

instance : Enc Tri where
  sz := 3
  cs l := [i64 l.a, i64 l.b, i64 l.c]
  ok l := I64 l.a ∧ I64 l.b ∧ I64 l.c
  len _ := rfl
  pos := by decide

def isTri (l : List Vis) (n : Nat) : Bool := decide (n / 64 < n / 8 % 8) && decide (n / 8 % 8 < n % 8) && hit l (n / 64 * 8 + n / 8 % 8) && hit l (n / 8 % 8 * 8 + n % 8) && hit l (n / 64 * 8 + n % 8)

def tris (l : List Vis) : Nat → List Tri
  | 0 => []
  | n + 1 => tris l n ++ if isTri l n then [⟨(n / 64 : Nat), (n / 8 % 8 : Nat), (n % 8 : Nat)⟩] else []

theorem tris_skip (l : List Vis) (x : Nat) : ∀ d : Nat, (∀ m, x ≤ m → m < x + d → isTri l m = false) → tris l (x + d) = tris l x
  | 0, _ => rfl
  | d + 1, h => by
    rw [show x + (d + 1) = (x + d) + 1 from rfl, tris, h (x + d) (by omega) (by omega), tris_skip l x d fun m h1 h2 => h m h1 (by omega)]
    simp

theorem tris_length (l : List Vis) : ∀ n, (tris l n).length ≤ n
  | 0 => Nat.le_refl _
  | n + 1 => by
    have := tris_length l n
    rw [tris, List.length_append]
    split <;> simp <;> omega

def triples (l : List Vis) : List Tri × Int := if ck27 l ≠ 0 then ([], ck27 l) else (tris l 512, 0)

theorem got_some {l : List Vis} (hl : ∀ v ∈ l, v.good 8) {a b : Nat} (hab : a < b) (hb : b < 8) : (got a b l).isSome = hit l (a * 8 + b) := by
  induction l with
  | nil => rfl
  | cons v r ih =>
    have g := hl v (by simp)
    unfold Vis.good at g
    have ih := ih fun u hu => hl u (by simp [hu])
    unfold got hit
    rw [List.any_cons]
    by_cases h : v.i = a ∧ v.j = b
    · rw [if_pos h]
      simp [h.1, h.2]
    · rw [if_neg h, if_neg (by omega), ih]
      have : ¬ (v.i * 8 + v.j = ((a * 8 + b : Nat) : Int)) := by omega
      rw [show (v.i * 8 + v.j == ((a * 8 + b : Nat) : Int)) = false by simp; omega]
      rfl

end Go.Pv

/- Tables of gains, in plain Lean. -/
namespace Go.Pv
open Go.Vc

def okG (c : Cx) : Prop := c.valid ∧ ¬ c.zero
instance (c : Cx) : Decidable (okG c) := by unfold okG; infer_instance

/-- The error of a table. -/
def ck26 (g : List Cx) : Int := if 8 < g.length then 4 else if g.length = 0 then 8 else if g.all (fun c => decide (okG c)) then 0 else 8

theorem ck26_0 {g : List Cx} (h : ck26 g = 0) : g.length ≤ 8 ∧ 0 < g.length ∧ ∀ c ∈ g, okG c := by
  unfold ck26 at h
  split at h
  · omega
  · split at h
    · omega
    · split at h
      · rename_i h1 h2 h3
        rw [List.all_eq_true] at h3
        exact ⟨by omega, by omega, fun c hc => by simpa using h3 c hc⟩
      · omega

theorem ck26_8 {g : List Cx} (h : g.length ≤ 8) {k : Nat} (hk : k < g.length) (hb : ¬ okG g[k]) : ck26 g = 8 := by
  unfold ck26
  rw [if_neg (by omega), if_neg (by omega), if_neg]
  rw [List.all_eq_true]
  intro h'
  exact hb (by simpa using h' g[k] (List.getElem_mem hk))

theorem ck26_ok {g : List Cx} (h : g.length ≤ 8) (h0 : 0 < g.length) (hb : ∀ c ∈ g, okG c) : ck26 g = 0 := by
  unfold ck26
  rw [if_neg (by omega), if_neg (by omega), if_pos]
  rw [List.all_eq_true]
  intro c hc
  simpa using hb c hc

theorem conj_valid {a : Cx} (h : a.valid) : (conj a).valid := by
  obtain ⟨h1, h2, h3, h4, h5⟩ := h
  refine ⟨h1, h2, h3, by unfold fits at *; simp only [conj]; omega, ?_⟩
  unfold g3 at h5 ⊢
  simpa [conj] using h5

theorem make_err (x y z : Int) : (make x y z).2 = 0 ∨ make x y z = (c0, 16) := by
  unfold make
  split
  · exact .inl rfl
  · exact .inr rfl

/-- Products of valid numbers: there is one, or it is out of range. -/
theorem mul_err {a b : Cx} (ha : a.valid) (hb : b.valid) : (mul a b).2 = 0 ∨ mul a b = (c0, 16) := by
  unfold mul
  rw [if_pos ⟨ha, hb⟩]
  exact make_err _ _ _

theorem make_ok {x y z : Int} (hz : 0 < z) (h : (make x y z).2 = 0) : (make x y z).1 = norm x y z ∧ (norm x y z).valid := by
  rw [make_valid hz] at h ⊢
  split at h
  · rename_i hv; rw [if_pos hv]; exact ⟨rfl, hv⟩
  · simp at h

theorem mul_ok {a b : Cx} (ha : a.valid) (hb : b.valid) (h : (mul a b).2 = 0) : (mul a b).1 = norm (a.re * b.re - a.im * b.im) (a.re * b.im + a.im * b.re) (a.den * b.den) ∧ (mul a b).1.valid := by
  have e : mul a b = make (a.re * b.re - a.im * b.im) (a.re * b.im + a.im * b.re) (a.den * b.den) := by rw [mul, if_pos ⟨ha, hb⟩]
  rw [e] at h ⊢
  have hp : 0 < a.den * b.den := mul_pos' ha.1 hb.1
  obtain ⟨h1, h2⟩ := make_ok hp h
  rw [h1]
  exact ⟨rfl, h2⟩

/-- A number times the conjugate of another one. -/
def tconj (a b : Cx) : Cx × Int := if b.valid then mul a (conj b) else (c0, 8)

/-- The first error among products. -/
def perr (m : Cx → Cx → Cx × Int) (u v : Nat → Cx) : Nat → Int
  | 0 => 0
  | n + 1 => if perr m u v n ≠ 0 then perr m u v n else (m (u n) (v n)).2

def prods (m : Cx → Cx → Cx × Int) (u v : Nat → Cx) (n : Nat) : List Cx × Int :=
  if perr m u v n = 0 then ((List.range n).map fun k => (m (u k) (v k)).1, 0) else ([], perr m u v n)

theorem perr_le {m : Cx → Cx → Cx × Int} {u v : Nat → Cx} {n : Nat} (h : perr m u v n ≠ 0) : ∀ d, perr m u v (n + d) = perr m u v n
  | 0 => rfl
  | d + 1 => by rw [show n + (d + 1) = (n + d) + 1 from rfl, perr, perr_le h d, if_pos h]

theorem perr_bad {m : Cx → Cx → Cx × Int} {u v : Nat → Cx} {k n : Nat} (hk : k < n) (h0 : perr m u v k = 0) (h : (m (u k) (v k)).2 ≠ 0) : perr m u v n = (m (u k) (v k)).2 := by
  have e : perr m u v (k + 1) = (m (u k) (v k)).2 := by rw [perr, if_neg (by simp [h0])]
  obtain ⟨d, rfl⟩ : ∃ d, n = (k + 1) + d := ⟨n - (k + 1), by omega⟩
  rw [perr_le (by rw [e]; exact h), e]

theorem perr_0 {m : Cx → Cx → Cx × Int} {u v : Nat → Cx} : ∀ {n : Nat}, perr m u v n = 0 ↔ ∀ k, k < n → (m (u k) (v k)).2 = 0
  | 0 => ⟨fun _ k hk => by omega, fun _ => rfl⟩
  | n + 1 => by
    rw [perr]
    constructor
    · intro h k hk
      by_cases h0 : perr m u v n = 0
      · rw [if_neg (by simp [h0])] at h
        by_cases e : k = n
        · subst e; exact h
        · exact (perr_0.1 h0) k (by omega)
      · rw [if_pos h0] at h; exact absurd h h0
    · intro h
      have h0 : perr m u v n = 0 := perr_0.2 fun k hk => h k (by omega)
      rw [if_neg (by simp [h0])]
      exact h n (by omega)

/-- All errors are the same. -/
theorem perr_16 {m : Cx → Cx → Cx × Int} {u v : Nat → Cx} {n : Nat} (hm : ∀ k, k < n → (m (u k) (v k)).2 = 0 ∨ m (u k) (v k) = (c0, 16)) : perr m u v n = 0 ∨ perr m u v n = 16 := by
  induction n with
  | zero => exact .inl rfl
  | succ n ih =>
    rw [perr]
    rcases ih fun k hk => hm k (by omega) with h | h
    · rw [if_neg (by simp [h])]
      rcases hm n (by omega) with h | h
      · exact .inl h
      · exact .inr (by rw [h])
    · rw [if_pos (by omega)]; exact .inr h

def at_ (g : List Cx) (i : Int) : Cx := g.getD i.toNat c0

/-- What a table makes of one visibility's value. -/
def act1 (g : List Cx) (v : Vis) : Cx × Int :=
  if (mul (at_ g v.i) v.v).2 ≠ 0 then (c0, 16) else
  if (mul (mul (at_ g v.i) v.v).1 (conj (at_ g v.j))).2 ≠ 0 then (c0, 16) else mul (mul (at_ g v.i) v.v).1 (conj (at_ g v.j))

def Vis.set (v : Vis) (c : Cx) : Vis := ⟨v.i, v.j, c, v.n⟩

def act26 (g : List Cx) (l : List Vis) : List Vis × Int :=
  if ck26 g ≠ 0 then ([], ck26 g) else if all26 l g.length ≠ 0 then ([], all26 l g.length) else
  if l.all (fun v => (act1 g v).2 = 0) then (l.map fun v => v.set (act1 g v).1, 0) else ([], 16)

abbrev resV (r : List Vis × Int) : SV := .tup [.p (sl r.1), .p (i64 r.2)]
abbrev resCs (r : List Cx × Int) : SV := .tup [.p (sl r.1), .p (i64 r.2)]

theorem at_get {g : List Cx} {k : Nat} (h : k < g.length) : at_ g k = g[k] := by
  simp [at_, List.getD, h]

theorem at_mem {g : List Cx} {i : Int} (h0 : 0 ≤ i) (h : i < g.length) : at_ g i ∈ g := by
  obtain ⟨k, rfl⟩ : ∃ k : Nat, i = k := ⟨i.toNat, by omega⟩
  rw [at_get (by omega)]
  exact List.getElem_mem _

end Go.Pv

/- Matrices of stations, in plain Lean. -/
namespace Go.Pv
open Go.Vc

structure Jn where
  a : Cx
  b : Cx
  c : Cx
  d : Cx
deriving DecidableEq

instance : Enc Jn where
  sz := 12
  cs l := [i64 l.a.re, i64 l.a.im, i64 l.a.den, i64 l.b.re, i64 l.b.im, i64 l.b.den, i64 l.c.re, i64 l.c.im, i64 l.c.den, i64 l.d.re, i64 l.d.im, i64 l.d.den]
  ok l := Enc.ok l.a ∧ Enc.ok l.b ∧ Enc.ok l.c ∧ Enc.ok l.d
  len _ := rfl
  pos := by decide

abbrev jn (m : Jn) : PV := .agg [i64 m.a.re, i64 m.a.im, i64 m.a.den, i64 m.b.re, i64 m.b.im, i64 m.b.den, i64 m.c.re, i64 m.c.im, i64 m.c.den, i64 m.d.re, i64 m.d.im, i64 m.d.den]

def j0 : Jn := ⟨c0, c0, c0, c0⟩

def Jn.valid (m : Jn) : Prop := m.a.valid ∧ m.b.valid ∧ m.c.valid ∧ m.d.valid
instance (m : Jn) : Decidable m.valid := by unfold Jn.valid; infer_instance

def Jn.get (m : Jn) : Nat → Cx
  | 0 => m.a
  | 1 => m.b
  | 2 => m.c
  | _ => m.d

/-- A result of a matrix. -/
def resJ (r : Jn × Int) : SV := .tup [.p (jn r.1), .p (i64 r.2)]

/-- Four numbers, one after the other. -/
def seq4 (f : Nat → Cx × Int) : Jn × Int :=
  if (f 0).2 ≠ 0 then (j0, (f 0).2) else if (f 1).2 ≠ 0 then (j0, (f 1).2) else if (f 2).2 ≠ 0 then (j0, (f 2).2) else if (f 3).2 ≠ 0 then (j0, (f 3).2) else (⟨(f 0).1, (f 1).1, (f 2).1, (f 3).1⟩, 0)

/-- What is made of two products. -/
def two (join : Cx → Cx → Cx × Int) (a b c d : Cx) : Cx × Int :=
  if (mul a b).2 ≠ 0 then (c0, (mul a b).2) else if (mul c d).2 ≠ 0 then (c0, (mul c d).2) else join (mul a b).1 (mul c d).1

def jent (a b : Jn) : Nat → Cx × Int
  | 0 => two add a.a b.a a.b b.c
  | 1 => two add a.a b.b a.b b.d
  | 2 => two add a.c b.a a.d b.c
  | _ => two add a.c b.b a.d b.d

def jmul (a b : Jn) : Jn × Int := if a.valid ∧ b.valid then seq4 (jent a b) else (j0, 8)

def jadj (a : Jn) : Jn × Int := if a.valid then (⟨conj a.a, conj a.c, conj a.b, conj a.d⟩, 0) else (j0, 8)

def jdet (a : Jn) : Cx × Int := if a.valid then two sub a.a a.d a.b a.c else (c0, 8)
def jtr (a : Jn) : Cx × Int := if a.valid then add a.a a.d else (c0, 8)

def jreg (a : Jn) : Cx × Int := if (jdet a).2 ≠ 0 then (c0, (jdet a).2) else if (jdet a).1.zero then (c0, 18) else ((jdet a).1, 0)

def jient (a : Jn) (d : Cx) : Nat → Cx × Int
  | 0 => div a.d d
  | 1 => div (neg a.b) d
  | 2 => div (neg a.c) d
  | _ => div a.a d

def jinv (a : Jn) : Jn × Int := if (jreg a).2 ≠ 0 then (j0, (jreg a).2) else seq4 (jient a (jreg a).1)

theorem jn_of_valid {c : Cx} (h : c.valid) : Enc.ok c := by
  obtain ⟨h1, h2, h3, h4, _⟩ := h
  unfold fits at h3 h4
  exact ⟨by unfold I64; omega, by unfold I64; omega, by unfold I64; omega⟩

theorem add_errJ {a b : Cx} (ha : a.valid) (hb : b.valid) : (add a b).2 = 0 ∨ add a b = (c0, 16) := by
  unfold add
  rw [if_pos ⟨ha, hb⟩]
  exact make_err _ _ _

theorem sub_err {a b : Cx} (ha : a.valid) (hb : b.valid) : (sub a b).2 = 0 ∨ sub a b = (c0, 16) := by
  unfold sub
  rw [if_pos ⟨ha, hb⟩]
  exact make_err _ _ _

theorem div_okJ {a b : Cx} (ha : a.valid) (hb : b.valid) (h : (div a b).2 = 0) : (div a b).1.valid := by
  by_cases hz : b.zero
  · rw [div, if_pos ⟨ha, hb⟩, if_pos hz] at h; simp at h
  · rw [div, if_pos ⟨ha, hb⟩, if_neg hz] at h ⊢
    have hn : 0 < b.re * b.re + b.im * b.im := by
      have s1 := sq_nonneg b.re
      have s2 := sq_nonneg b.im
      rcases Int.lt_trichotomy (b.re * b.re + b.im * b.im) 0 with h | h | h
      · omega
      · have t1 : b.re * b.re = 0 := by omega
        have t2 : b.im * b.im = 0 := by omega
        exact absurd ⟨by rcases Int.mul_eq_zero.1 t1 with h | h <;> exact h, by rcases Int.mul_eq_zero.1 t2 with h | h <;> exact h⟩ hz
      · exact h
    have hp : 0 < (b.re * b.re + b.im * b.im) * a.den := Int.mul_pos hn (by have := ha.1; omega)
    obtain ⟨h1, h2⟩ := make_ok hp h
    rw [h1]; exact h2

theorem div_errJ {a b : Cx} (ha : a.valid) (hb : b.valid) (hz : ¬ b.zero) : (div a b).2 = 0 ∨ div a b = (c0, 16) := by
  rw [div, if_pos ⟨ha, hb⟩, if_neg hz]
  exact make_err _ _ _

end Go.Pv

/- Tables of gains: products, inverses, tables that act alike, in plain Lean. -/
namespace Go.Pv
open Go.Vc

def both26 (g h : List Cx) : Int := if ck26 g ≠ 0 then ck26 g else if ck26 h ≠ 0 then ck26 h else if g.length ≠ h.length then 2 else 0

theorem both26_0 {g h : List Cx} (e : both26 g h = 0) : ck26 g = 0 ∧ ck26 h = 0 ∧ g.length = h.length := by
  unfold both26 at e
  split at e
  · rename_i h1; exact absurd e h1
  split at e
  · rename_i _ h1; exact absurd e h1
  split at e
  · cases e
  · rename_i h1 h2 h3; exact ⟨by omega, by omega, by omega⟩

def gat (g : List Cx) (k : Nat) : Cx := g.getD k c0

theorem gat_get {g : List Cx} {k : Nat} (h : k < g.length) : gat g k = g[k] := by simp [gat, h]

/-- What one gain of two tables that may act alike comes to. -/
def alE (g h : List Cx) (i : Nat) : Int := if (mul (gat g i) (gat h 0)).2 ≠ 0 then (mul (gat g i) (gat h 0)).2 else (mul (gat g 0) (gat h i)).2
def alS (g h : List Cx) (i : Nat) : Bool := decide ((mul (gat g i) (gat h 0)).1 = (mul (gat g 0) (gat h i)).1)

def aerr (g h : List Cx) : Nat → Int
  | 0 => 0
  | k + 1 => if aerr g h k ≠ 0 then aerr g h k else alE g h k
def asame (g h : List Cx) : Nat → Bool
  | 0 => true
  | k + 1 => asame g h k && alS g h k

theorem aerr_le {g h : List Cx} {n : Nat} (e : aerr g h n ≠ 0) : ∀ d, aerr g h (n + d) = aerr g h n
  | 0 => rfl
  | d + 1 => by
    have ih := aerr_le e d
    show aerr g h (n + d + 1) = _
    rw [aerr, ih, if_pos e]

theorem aerr_bad {g h : List Cx} {k n : Nat} (hk : k < n) (h0 : aerr g h k = 0) (e : alE g h k ≠ 0) : aerr g h n = alE g h k := by
  have h1 : aerr g h (k + 1) = alE g h k := by rw [aerr, if_neg (by simp [h0])]
  have := aerr_le (g := g) (h := h) (n := k + 1) (by rw [h1]; exact e) (n - (k + 1))
  rw [show k + 1 + (n - (k + 1)) = n by omega, h1] at this
  exact this

theorem nrm_err {a : Cx} (h : a.valid) : (nrm a).2 = 0 ∨ nrm a = (⟨0, 0⟩, 16) := by
  rw [nrm, if_pos h]
  split
  · exact .inr rfl
  · exact .inl rfl

def alike (g h : List Cx) : Bool × Int :=
  if both26 g h ≠ 0 then (false, both26 g h) else if (nrm (gat g 0)).2 ≠ 0 then (false, 16) else if (nrm (gat h 0)).2 ≠ 0 then (false, 16)
  else if aerr g h g.length ≠ 0 then (false, 16) else (decide ((nrm (gat g 0)).1 = (nrm (gat h 0)).1) && asame g h g.length, 0)

theorem alE_16 {g h : List Cx} {i : Nat} (h1 : (gat g i).valid) (h2 : (gat h 0).valid) (h3 : (gat g 0).valid) (h4 : (gat h i).valid) : alE g h i = 0 ∨ alE g h i = 16 := by
  unfold alE
  rcases mul_err h1 h2 with e | e
  · rw [if_neg (by simp [e])]
    rcases mul_err h3 h4 with e | e
    · exact .inl e
    · exact .inr (by rw [e])
  · rw [e]; simp

theorem gat_valid {g : List Cx} (h : ck26 g = 0) {i : Nat} (hi : i < g.length) : (gat g i).valid ∧ ¬ (gat g i).zero := by
  rw [gat_get hi]
  exact (ck26_0 h).2.2 _ (List.getElem_mem hi)

theorem aerr_16 {g h : List Cx} (e : both26 g h = 0) : ∀ n, n ≤ g.length → aerr g h n = 0 ∨ aerr g h n = 16
  | 0, _ => .inl rfl
  | n + 1, hn => by
    obtain ⟨h1, h2, h3⟩ := both26_0 e
    obtain ⟨_, hp, _⟩ := ck26_0 h1
    rcases aerr_16 e n (by omega) with h | h
    · rw [aerr, if_neg (by simp [h])]
      exact alE_16 (gat_valid h1 (by omega)).1 (gat_valid h2 (by omega)).1 (gat_valid h1 (by omega)).1 (gat_valid h2 (by omega)).1
    · rw [aerr, if_pos (by omega)]; exact .inr h

/-- Products of tables, inverses, tables referred to a station. -/
def tmul (g h : List Cx) : List Cx × Int := if both26 g h ≠ 0 then ([], both26 g h) else prods mul (gat g) (gat h) g.length
def tinv (g : List Cx) : List Cx × Int := if ck26 g ≠ 0 then ([], ck26 g) else prods div (fun _ => one) (gat g) g.length
def trefer (g : List Cx) (s : Int) : List Cx × Int := if ck26 g ≠ 0 then ([], ck26 g) else if s < 0 ∨ s ≥ g.length then ([], 2) else prods tconj (gat g) (fun _ => at_ g s) g.length

theorem prods_length (m : Cx → Cx → Cx × Int) (u v : Nat → Cx) (n : Nat) : (prods m u v n).1.length ≤ n := by
  unfold prods
  split <;> simp

theorem prods_err {m : Cx → Cx → Cx × Int} {u v : Nat → Cx} {n : Nat} (h : (prods m u v n).2 ≠ 0) : (prods m u v n).1 = [] := by
  unfold prods at *
  split
  · rename_i e; simp [e] at h
  · rfl
end Go.Pv
namespace Go.Pv
theorem div_err {a b : Cx} (ha : a.valid) (hb : b.valid) (hz : ¬ b.zero) : (div a b).2 = 0 ∨ div a b = (c0, 16) := by
  rw [div, if_pos ⟨ha, hb⟩, if_neg hz]
  exact make_err _ _ _

theorem tconj_err {a b : Cx} (ha : a.valid) (hb : b.valid) : (tconj a b).2 = 0 ∨ tconj a b = (c0, 16) := by
  rw [tconj, if_pos hb]
  exact mul_err ha (conj_valid hb)

theorem prods_bad {m : Cx → Cx → Cx × Int} {u v : Nat → Cx} {k n : Nat} (hk : k < n) (h0 : perr m u v k = 0) (h : (m (u k) (v k)).2 ≠ 0) (he : (m (u k) (v k)).2 = 0 ∨ m (u k) (v k) = (c0, 16)) : prods m u v n = ([], 16) := by
  have e := perr_bad hk h0 h
  rcases he with h' | h'
  · exact absurd h' h
  · rw [h'] at e
    rw [prods, if_neg (by rw [e]; decide), e]
end Go.Pv

/- Triples of stations, in plain Lean. -/
namespace Go.Pv
open Go.Vc

theorem tris_b (l : List Vis) {a : Nat} (ha : a < 8) : tris l (a * 64 + (a + 1) * 8) = tris l (a * 64) := by
  refine tris_skip l _ _ fun m h1 h2 => ?_
  have e1 : m / 64 = a := by omega
  have e2 : ¬ (m / 64 < m / 8 % 8) := by omega
  simp [isTri, e2]

theorem tris_c (l : List Vis) {a b : Nat} (ha : a < 8) (hb : b < 8) : tris l (a * 64 + b * 8 + (b + 1)) = tris l (a * 64 + b * 8) := by
  refine tris_skip l _ _ fun m h1 h2 => ?_
  have e2 : ¬ (m / 8 % 8 < m % 8) := by omega
  simp [isTri, e2]

theorem isTri_at (l : List Vis) {a b c : Nat} (hab : a < b) (hbc : b < c) (hc : c < 8) : isTri l (a * 64 + b * 8 + c) = (hit l (a * 8 + b) && hit l (b * 8 + c) && hit l (a * 8 + c)) := by
  have e1 : (a * 64 + b * 8 + c) / 64 = a := by omega
  have e2 : (a * 64 + b * 8 + c) / 8 % 8 = b := by omega
  have e3 : (a * 64 + b * 8 + c) % 8 = c := by omega
  simp [isTri, e1, e2, e3, hab, hbc]

theorem tris_at (l : List Vis) {a b c : Nat} (hab : a < b) (hbc : b < c) (hc : c < 8) : tris l (a * 64 + b * 8 + (c + 1)) = tris l (a * 64 + b * 8 + c) ++ if (hit l (a * 8 + b) && hit l (b * 8 + c) && hit l (a * 8 + c)) then [⟨a, b, c⟩] else [] := by
  rw [← Nat.add_assoc, tris, isTri_at l hab hbc hc]
  have e1 : (a * 64 + b * 8 + c) / 64 = a := by omega
  have e2 : (a * 64 + b * 8 + c) / 8 % 8 = b := by omega
  have e3 : (a * 64 + b * 8 + c) % 8 = c := by omega
  rw [e1, e2, e3]

end Go.Pv

/- Closure phases and amplitudes, in plain Lean. -/
namespace Go.Pv
open Go.Vc

structure Pr where
  a : Int
  b : Int
deriving DecidableEq

instance : Enc Pr where
  sz := 2
  cs l := [i64 l.a, i64 l.b]
  ok l := I64 l.a ∧ I64 l.b
  len _ := rfl
  pos := by decide

def gD (l : List Vis) (s : Pr) : Cx := (got s.a s.b l).getD c0

/-- The visibilities of some steps. -/
def along27 (l : List Vis) (st : List Pr) : List Cx × Int :=
  if st.all (fun s => (got s.a s.b l).isSome) then (if st.any (fun s => decide (gD l s).zero) then ([], 18) else (st.map (gD l), 0)) else ([], 6)

/-- A circle's steps. -/
def pairs (c : List Int) : List Pr := (List.range c.length).map fun k => ⟨c.getD k 0, c.getD ((k + 1) % c.length) 0⟩

def turned (r v : Cx) : Cx × Int :=
  if (ray v).2 ≠ 0 then (c0, (ray v).2) else if (mul r (ray v).1).2 ≠ 0 then (c0, (mul r (ray v).1).2) else ray (mul r (ray v).1).1

def fold27 (r : Cx) : List Cx → Cx × Int
  | [] => (r, 0)
  | v :: t => if (turned r v).2 ≠ 0 then (c0, (turned r v).2) else fold27 (turned r v).1 t

def circle (c : List Int) : Prop := 3 ≤ c.length ∧ c.length ≤ 8 ∧ apart c
instance (c : List Int) : Decidable (circle c) := by unfold circle; infer_instance

def phase (l : List Vis) (c : List Int) : Cx × Int :=
  if ck27 l ≠ 0 then (c0, ck27 l) else if ¬ circle c then (c0, 2) else if (along27 l (pairs c)).2 ≠ 0 then (c0, (along27 l (pairs c)).2) else fold27 one (along27 l (pairs c)).1

def f0 : Frac := ⟨0, 0⟩

def amp4 (p q r s : Cx) : Frac × Int :=
  if (mul p q).2 ≠ 0 then (f0, (mul p q).2) else if (mul r s).2 ≠ 0 then (f0, (mul r s).2) else if (div (mul p q).1 (mul r s).1).2 ≠ 0 then (f0, (div (mul p q).1 (mul r s).1).2) else nrm (div (mul p q).1 (mul r s).1).1

def amp (l : List Vis) (a b c d : Int) : Frac × Int :=
  if ck27 l ≠ 0 then (f0, ck27 l) else if ¬ apart [a, b, c, d] then (f0, 2) else if (along27 l [⟨a, b⟩, ⟨c, d⟩, ⟨a, c⟩, ⟨b, d⟩]).2 ≠ 0 then (f0, (along27 l [⟨a, b⟩, ⟨c, d⟩, ⟨a, c⟩, ⟨b, d⟩]).2)
  else amp4 (gD l ⟨a, b⟩) (gD l ⟨c, d⟩) (gD l ⟨a, c⟩) (gD l ⟨b, d⟩)

theorem got_valid {l : List Vis} (hl : ∀ v ∈ l, v.good 8) {i j : Int} {c : Cx} (h : got i j l = some c) : c.valid := by
  induction l with
  | nil => cases h
  | cons v r ih =>
    have g := (hl v (by simp)).2.2.2.2
    unfold got at h
    split at h
    · cases h; exact g
    · split at h
      · cases h; exact conj_valid g
      · exact ih (fun u hu => hl u (by simp [hu])) h

theorem gD_valid {l : List Vis} (hl : ∀ v ∈ l, v.good 8) {s : Pr} (h : (got s.a s.b l).isSome = true) : (gD l s).valid := by
  unfold gD
  cases hg : got s.a s.b l with
  | none => rw [hg] at h; cases h
  | some c => exact got_valid hl hg

theorem along27_0 {l : List Vis} (hl : ∀ v ∈ l, v.good 8) {st : List Pr} (h : (along27 l st).2 = 0) : (along27 l st).1 = st.map (gD l) ∧ (∀ s ∈ st, (got s.a s.b l).isSome = true) ∧ ∀ s ∈ st, (gD l s).valid ∧ ¬ (gD l s).zero := by
  unfold along27 at h ⊢
  split at h
  · rename_i h1
    split at h
    · simp at h
    · rename_i h2
      rw [if_pos h1, if_neg h2]
      rw [List.all_eq_true] at h1
      refine ⟨rfl, h1, fun s hs => ⟨gD_valid hl (h1 s hs), fun hz => h2 ?_⟩⟩
      rw [List.any_eq_true]
      exact ⟨s, hs, by simpa using hz⟩
  · simp at h

theorem nz_gcd {a : Cx} (h : ¬ a.zero) : 0 < Int.gcd a.re a.im := by
  rcases Nat.eq_zero_or_pos (Int.gcd a.re a.im) with h0 | h0
  · rw [Int.gcd_eq_zero_iff] at h0; exact absurd h0 h
  · exact h0

/-- A ray is a valid number, and its own ray. -/
theorem ray_ok {a : Cx} (ha : a.valid) (hz : ¬ a.zero) : (ray a).2 = 0 ∧ (ray a).1.valid ∧ ¬ (ray a).1.zero ∧ (ray a).1 = ⟨a.re / Int.gcd a.re a.im, a.im / Int.gcd a.re a.im, 1⟩ ∧ Int.gcd (ray a).1.re (ray a).1.im = 1 := by
  have hg := nz_gcd hz
  have e : ray a = (⟨a.re / Int.gcd a.re a.im, a.im / Int.gcd a.re a.im, 1⟩, 0) := by rw [ray, if_pos ha, if_neg hz]
  have d1 : ((Int.gcd a.re a.im : Nat) : Int) ∣ a.re := Int.gcd_dvd_left ..
  have d2 : ((Int.gcd a.re a.im : Nat) : Int) ∣ a.im := Int.gcd_dvd_right ..
  have l1 := ediv_le hg d1
  have l2 := ediv_le hg d2
  have hc : Int.gcd (a.re / Int.gcd a.re a.im) (a.im / Int.gcd a.re a.im) = 1 := cop_div hg
  obtain ⟨f1, f2, _, _⟩ := valid_fits ha
  unfold fits at f1 f2
  rw [e]
  refine ⟨rfl, ⟨by simp, by simp, by unfold fits; simp only; omega, by unfold fits; simp only; omega, ?_⟩, ?_, rfl, hc⟩
  · unfold g3; simp only; rw [hc]; rfl
  · rintro ⟨z1, z2⟩
    simp only at z1 z2
    rw [z1, z2] at hc
    simp at hc

theorem ray_ray {a : Cx} (h1 : a.den = 1) (h2 : Int.gcd a.re a.im = 1) (hv : a.valid) (hz : ¬ a.zero) : ray a = (a, 0) := by
  rw [ray, if_pos hv, if_neg hz, h2]
  cases a
  simp at h1
  simp [h1]

theorem one_valid : one.valid := by decide

theorem mul_one_left {a : Cx} (ha : a.valid) : mul one a = (a, 0) := by
  rw [mul, if_pos ⟨one_valid, ha⟩]
  have e : make (one.re * a.re - one.im * a.im) (one.re * a.im + one.im * a.re) (one.den * a.den) = make a.re a.im a.den := by simp [one]
  rw [e, make_valid (by have := ha.1; omega), norm_low (by have := ha.1; omega) ha.2.2.2.2]
  exact if_pos ha

theorem turned_one {v : Cx} (hv : v.valid) (hz : ¬ v.zero) : turned one v = ray v := by
  obtain ⟨h1, h2, h3, h4, h5⟩ := ray_ok hv hz
  rw [turned, if_neg (by simp [h1]), mul_one_left h2, if_neg (by simp), ray_ray (by rw [h4]) h5 h2 h3]
  rw [← h1]

/-- Numbers are zero only if a factor is. -/
theorem mul_zero_iff {a b : Cx} (ha : a.valid) (hb : b.valid) (h : (mul a b).2 = 0) : (mul a b).1.zero ↔ a.zero ∨ b.zero := by
  obtain ⟨h1, h2⟩ := mul_ok ha hb h
  have hp : 0 < a.den * b.den := mul_pos' ha.1 hb.1
  obtain ⟨g, hg, e1, e2, e3, _, _⟩ := norm_spec (x := a.re * b.re - a.im * b.im) (y := a.re * b.im + a.im * b.re) hp
  rw [← h1] at e1 e2
  have key : (a.re * b.re - a.im * b.im) * (a.re * b.re - a.im * b.im) + (a.re * b.im + a.im * b.re) * (a.re * b.im + a.im * b.re) = (a.re * a.re + a.im * a.im) * (b.re * b.re + b.im * b.im) := by grind
  have nz : ∀ c : Cx, c.re * c.re + c.im * c.im = 0 ↔ c.zero := by
    intro c
    constructor
    · intro h
      have s1 := sq_nonneg c.re
      have s2 := sq_nonneg c.im
      have t1 : c.re * c.re = 0 := by omega
      have t2 : c.im * c.im = 0 := by omega
      exact ⟨by rcases Int.mul_eq_zero.1 t1 with h | h <;> exact h, by rcases Int.mul_eq_zero.1 t2 with h | h <;> exact h⟩
    · rintro ⟨h1, h2⟩; rw [h1, h2]; rfl
  constructor
  · rintro ⟨z1, z2⟩
    rw [z1] at e1
    rw [z2] at e2
    rw [e1, e2] at key
    have : (a.re * a.re + a.im * a.im) * (b.re * b.re + b.im * b.im) = 0 := by rw [← key]; simp
    rcases Int.mul_eq_zero.1 this with h | h
    · exact .inl ((nz a).1 h)
    · exact .inr ((nz b).1 h)
  · intro h
    have hx : a.re * b.re - a.im * b.im = 0 ∧ a.re * b.im + a.im * b.re = 0 := by
      rcases h with ⟨z1, z2⟩ | ⟨z1, z2⟩ <;> simp [z1, z2]
    rw [hx.1] at e1
    rw [hx.2] at e2
    have hgz : ((g : Nat) : Int) ≠ 0 := by omega
    exact ⟨(Int.mul_eq_zero.1 e1.symm).resolve_right hgz, (Int.mul_eq_zero.1 e2.symm).resolve_right hgz⟩

/-- One more step: it fails only by range, and gives a ray. -/
theorem turned_err {r v : Cx} (hr : r.valid) (hrz : ¬ r.zero) (hv : v.valid) (hz : ¬ v.zero) :
    ((mul r (ray v).1).2 = 0 ∧ turned r v = ray (mul r (ray v).1).1 ∧ (turned r v).2 = 0 ∧ (turned r v).1.valid ∧ ¬ (turned r v).1.zero ∧ (turned r v).1.den = 1 ∧ Int.gcd (turned r v).1.re (turned r v).1.im = 1) ∨ (mul r (ray v).1 = (c0, 16) ∧ turned r v = (c0, 16)) := by
  obtain ⟨h1, h2, h3, _, _⟩ := ray_ok hv hz
  rcases mul_err hr h2 with h | h
  · refine .inl ?_
    have e : turned r v = ray (mul r (ray v).1).1 := by rw [turned, if_neg (by simp [h1]), if_neg (by simp [h])]
    have hnz : ¬ (mul r (ray v).1).1.zero := by
      rw [mul_zero_iff hr h2 h]
      rintro (h | h)
      · exact hrz h
      · exact h3 h
    obtain ⟨k1, k2, k3, k4, k5⟩ := ray_ok (mul_ok hr h2 h).2 hnz
    refine ⟨h, e, ?_, ?_, ?_, ?_, ?_⟩
    · rw [e]; exact k1
    · rw [e]; exact k2
    · rw [e]; exact k3
    · rw [e, k4]
    · rw [e]; exact k5
  · exact .inr ⟨h, by rw [turned, if_neg (by simp [h1]), h, if_pos (by simp)]⟩

theorem one_nz : ¬ one.zero := by decide

end Go.Pv

/- Directions of complex numbers: closure phases do not depend on the order of the steps. -/
namespace Go.Pv
open Go.Vc

/-- Whole complex numbers. -/
abbrev Z := Int × Int
def zmul (a b : Z) : Z := (a.1 * b.1 - a.2 * b.2, a.1 * b.2 + a.2 * b.1)
def zconj (a : Z) : Z := (a.1, -a.2)
def zn (c : Cx) : Z := (c.re, c.im)

theorem zmul_comm (a b : Z) : zmul a b = zmul b a := by
  unfold zmul; ext <;> grind
theorem zmul_assoc (a b c : Z) : zmul (zmul a b) c = zmul a (zmul b c) := by
  unfold zmul; ext <;> grind
theorem zmul_one (a : Z) : zmul a (1, 0) = a := by
  unfold zmul; ext <;> simp
theorem zmul_conj (a b : Z) : zmul (zconj a) (zconj b) = zconj (zmul a b) := by
  unfold zmul zconj; ext <;> grind

def zprod (l : List Cx) : Z := l.foldr (fun v z => zmul (zn v) z) (1, 0)

theorem zprod_cons (v : Cx) (l : List Cx) : zprod (v :: l) = zmul (zn v) (zprod l) := rfl

theorem zprod_perm {l m : List Cx} (h : l.Perm m) : zprod l = zprod m := by
  induction h with
  | nil => rfl
  | cons x _ ih => rw [zprod_cons, zprod_cons, ih]
  | swap x y l =>
    rw [zprod_cons, zprod_cons, zprod_cons, zprod_cons, ← zmul_assoc, zmul_comm (zn y), zmul_assoc]
  | trans _ _ h1 h2 => rw [h1, h2]

theorem zprod_conj (l : List Cx) : zprod (l.map conj) = zconj (zprod l) := by
  induction l with
  | nil => rfl
  | cons v r ih =>
    rw [List.map_cons, zprod_cons, zprod_cons, ih, show zn (conj v) = zconj (zn v) from rfl, zmul_conj]

/-- The same direction. -/
def par (a b : Z) : Prop := ∃ s t : Int, 0 < s ∧ 0 < t ∧ a.1 * s = b.1 * t ∧ a.2 * s = b.2 * t

theorem par_refl (a : Z) : par a a := ⟨1, 1, by decide, by decide, rfl, rfl⟩
theorem par_symm {a b : Z} : par a b → par b a := fun ⟨s, t, h1, h2, h3, h4⟩ => ⟨t, s, h2, h1, h3.symm, h4.symm⟩
theorem par_trans {a b c : Z} : par a b → par b c → par a c := fun ⟨s, t, h1, h2, h3, h4⟩ ⟨u, v, k1, k2, k3, k4⟩ =>
  ⟨s * u, t * v, Int.mul_pos h1 k1, Int.mul_pos h2 k2, by grind, by grind⟩
theorem par_mul {a b c d : Z} : par a b → par c d → par (zmul a c) (zmul b d) := fun ⟨s, t, h1, h2, h3, h4⟩ ⟨u, v, k1, k2, k3, k4⟩ =>
  ⟨s * u, t * v, Int.mul_pos h1 k1, Int.mul_pos h2 k2, by unfold zmul; grind, by unfold zmul; grind⟩
theorem par_conj {a b : Z} : par a b → par (zconj a) (zconj b) := fun ⟨s, t, h1, h2, h3, h4⟩ => ⟨s, t, h1, h2, h3, by unfold zconj; simp only; grind⟩

theorem par_unique {a b : Z} (h : par a b) (ha : Int.gcd a.1 a.2 = 1) (hb : Int.gcd b.1 b.2 = 1) : a = b := by
  obtain ⟨s, t, h1, h2, h3, h4⟩ := h
  have e : Int.gcd (a.1 * s) (a.2 * s) = Int.gcd (b.1 * t) (b.2 * t) := by rw [h3, h4]
  rw [Int.gcd_mul_right, Int.gcd_mul_right, ha, hb] at e
  have : s = t := by omega
  subst this
  have hs : s ≠ 0 := by omega
  exact Prod.ext (Int.eq_of_mul_eq_mul_right hs h3) (Int.eq_of_mul_eq_mul_right hs h4)

theorem ray_par {a : Cx} (ha : a.valid) (hz : ¬ a.zero) : par (zn (ray a).1) (zn a) := by
  obtain ⟨_, _, _, e, _⟩ := ray_ok ha hz
  have hg := nz_gcd hz
  rw [e]
  refine ⟨Int.gcd a.re a.im, 1, by omega, by decide, ?_, ?_⟩
  · show a.re / (Int.gcd a.re a.im : Int) * (Int.gcd a.re a.im : Int) = a.re * 1
    rw [Int.ediv_mul_cancel (Int.gcd_dvd_left ..), Int.mul_one]
  · show a.im / (Int.gcd a.re a.im : Int) * (Int.gcd a.re a.im : Int) = a.im * 1
    rw [Int.ediv_mul_cancel (Int.gcd_dvd_right ..), Int.mul_one]

theorem mul_par {a b : Cx} (ha : a.valid) (hb : b.valid) (h : (mul a b).2 = 0) : par (zn (mul a b).1) (zmul (zn a) (zn b)) := by
  rw [(mul_ok ha hb h).1]
  obtain ⟨g, hg, e1, e2, _⟩ := norm_spec (x := a.re * b.re - a.im * b.im) (y := a.re * b.im + a.im * b.re) (mul_pos' ha.1 hb.1)
  exact ⟨g, 1, by omega, by decide, by rw [Int.mul_one]; exact e1.symm, by rw [Int.mul_one]; exact e2.symm⟩

/-- A step's direction. -/
theorem turned_par {r v : Cx} (hr : r.valid) (hrz : ¬ r.zero) (hv : v.valid) (hz : ¬ v.zero) (h : (turned r v).2 = 0) : par (zn (turned r v).1) (zmul (zn r) (zn v)) := by
  rcases turned_err hr hrz hv hz with h' | h'
  · obtain ⟨h1, h2, _⟩ := h'
    obtain ⟨k1, k2, k3, _, _⟩ := ray_ok hv hz
    have hnz : ¬ (mul r (ray v).1).1.zero := by
      rw [mul_zero_iff hr k2 h1]
      rintro (h | h)
      · exact hrz h
      · exact k3 h
    rw [h2]
    exact par_trans (ray_par (mul_ok hr k2 h1).2 hnz) (par_trans (mul_par hr k2 h1) (par_mul (par_refl _) (ray_par hv hz)))
  · rw [h'.2] at h; simp at h

theorem fold_par : ∀ (vs : List Cx) {r : Cx}, r.valid → ¬ r.zero → (∀ v ∈ vs, v.valid ∧ ¬ v.zero) → (fold27 r vs).2 = 0 → par (zn (fold27 r vs).1) (zmul (zn r) (zprod vs))
  | [], r, _, _, _, _ => by
    show par (zn r) (zmul (zn r) (1, 0))
    rw [zmul_one]; exact par_refl _
  | v :: vs, r, hr, hrz, hv, h => by
    rw [fold27] at h ⊢
    have hv0 := hv v (by simp)
    split at h
    · rename_i h'; exact absurd h h'
    · rename_i h'
      rw [if_neg h']
      have h' : (turned r v).2 = 0 := by simpa using h'
      have ht := turned_par hr hrz hv0.1 hv0.2 h'
      rcases turned_err hr hrz hv0.1 hv0.2 with t | t
      · have ih := fold_par vs t.2.2.2.1 t.2.2.2.2.1 (fun v hv' => hv v (by simp [hv'])) h
        rw [zprod_cons, ← zmul_assoc]
        exact par_trans ih (par_mul ht (par_refl _))
      · rw [t.2] at h'; simp at h'

theorem fold_good : ∀ (vs : List Cx) {r : Cx}, r.valid → ¬ r.zero → r.den = 1 → Int.gcd r.re r.im = 1 → (∀ v ∈ vs, v.valid ∧ ¬ v.zero) →
    ((fold27 r vs).2 = 0 ∧ (fold27 r vs).1.valid ∧ (fold27 r vs).1.den = 1 ∧ Int.gcd (fold27 r vs).1.re (fold27 r vs).1.im = 1) ∨ fold27 r vs = (c0, 16)
  | [], r, hr, hrz, h1, h2, _ => .inl ⟨rfl, hr, h1, h2⟩
  | v :: vs, r, hr, hrz, h1, h2, hv => by
    have hv0 := hv v (by simp)
    rw [fold27]
    rcases turned_err hr hrz hv0.1 hv0.2 with t | t
    · rw [if_neg (by simp [t.2.2.1])]
      exact fold_good vs t.2.2.2.1 t.2.2.2.2.1 t.2.2.2.2.2.1 t.2.2.2.2.2.2 fun v hv' => hv v (by simp [hv'])
    · rw [t.2, if_pos (by simp)]; exact .inr rfl

/-- The same circle, begun elsewhere. -/
theorem pairs_rot {c : List Int} (h1 : 3 ≤ c.length) (h2 : c.length ≤ 8) {k : Nat} (hk : k < c.length) : pairs (c.drop k ++ c.take k) = (pairs c).drop k ++ (pairs c).take k := by
  match c, h1, h2, hk with
  | [a, b, c], _, _, hk =>
    obtain rfl | rfl | rfl : k = 0 ∨ k = 1 ∨ k = 2 := by simp at hk; omega
    all_goals simp [pairs, List.range, List.range.loop]
  | [a, b, c, d], _, _, hk =>
    obtain rfl | rfl | rfl | rfl : k = 0 ∨ k = 1 ∨ k = 2 ∨ k = 3 := by simp at hk; omega
    all_goals simp [pairs, List.range, List.range.loop]
  | [a, b, c, d, e], _, _, hk =>
    obtain rfl | rfl | rfl | rfl | rfl : k = 0 ∨ k = 1 ∨ k = 2 ∨ k = 3 ∨ k = 4 := by simp at hk; omega
    all_goals simp [pairs, List.range, List.range.loop]
  | [a, b, c, d, e, f], _, _, hk =>
    obtain rfl | rfl | rfl | rfl | rfl | rfl : k = 0 ∨ k = 1 ∨ k = 2 ∨ k = 3 ∨ k = 4 ∨ k = 5 := by simp at hk; omega
    all_goals simp [pairs, List.range, List.range.loop]
  | [a, b, c, d, e, f, g], _, _, hk =>
    obtain rfl | rfl | rfl | rfl | rfl | rfl | rfl : k = 0 ∨ k = 1 ∨ k = 2 ∨ k = 3 ∨ k = 4 ∨ k = 5 ∨ k = 6 := by simp at hk; omega
    all_goals simp [pairs, List.range, List.range.loop]
  | [a, b, c, d, e, f, g, h], _, _, hk =>
    obtain rfl | rfl | rfl | rfl | rfl | rfl | rfl | rfl : k = 0 ∨ k = 1 ∨ k = 2 ∨ k = 3 ∨ k = 4 ∨ k = 5 ∨ k = 6 ∨ k = 7 := by simp at hk; omega
    all_goals simp [pairs, List.range, List.range.loop]
  | _ :: _ :: _ :: _ :: _ :: _ :: _ :: _ :: _ :: _, _, h, _ => simp at h

def swap (s : Pr) : Pr := ⟨s.b, s.a⟩

theorem pairs_rev {c : List Int} (h1 : 3 ≤ c.length) (h2 : c.length ≤ 8) : pairs c.reverse = (((pairs c).map swap).reverse).drop 1 ++ (((pairs c).map swap).reverse).take 1 := by
  match c, h1, h2 with
  | [a, b, c], _, _ => simp [pairs, swap, List.range, List.range.loop]
  | [a, b, c, d], _, _ => simp [pairs, swap, List.range, List.range.loop]
  | [a, b, c, d, e], _, _ => simp [pairs, swap, List.range, List.range.loop]
  | [a, b, c, d, e, f], _, _ => simp [pairs, swap, List.range, List.range.loop]
  | [a, b, c, d, e, f, g], _, _ => simp [pairs, swap, List.range, List.range.loop]
  | [a, b, c, d, e, f, g, h], _, _ => simp [pairs, swap, List.range, List.range.loop]
  | _ :: _ :: _ :: _ :: _ :: _ :: _ :: _ :: _ :: _, _, h => simp at h

theorem rot_perm {α : Type} (l : List α) (k : Nat) : (l.drop k ++ l.take k).Perm l := by
  conv => rhs; rw [← List.take_append_drop k l]
  exact List.perm_append_comm

theorem conj_conj (a : Cx) : conj (conj a) = a := by
  unfold conj; simp

/-- The other way about. -/
theorem got_swap {l : List Vis} (hl : ∀ v ∈ l, v.good 8) (i j : Int) : got j i l = (got i j l).map conj := by
  induction l with
  | nil => rfl
  | cons v r ih =>
    have g := hl v (by simp)
    unfold got
    by_cases h1 : v.i = i ∧ v.j = j
    · have h2 : ¬ (v.i = j ∧ v.j = i) := fun h => by
        have := g.2.1
        omega
      rw [if_pos h1, if_neg h2, if_pos h1]; rfl
    · by_cases h2 : v.i = j ∧ v.j = i
      · rw [if_pos h2, if_neg h1, if_pos h2]; show some v.v = some (conj (conj v.v)); rw [conj_conj]
      · rw [if_neg h1, if_neg h2, if_neg h2, if_neg h1]
        exact ih fun u hu => hl u (by simp [hu])

theorem gD_swap {l : List Vis} (hl : ∀ v ∈ l, v.good 8) (s : Pr) : gD l (swap s) = conj (gD l s) := by
  unfold gD swap
  rw [got_swap hl]
  cases got s.a s.b l with
  | none => rfl
  | some c => rfl

theorem conj_zero (a : Cx) : (conj a).zero ↔ a.zero := by
  unfold conj Cx.zero; simp

theorem along_perm {l : List Vis} {s t : List Pr} (h : s.Perm t) : (along27 l s).2 = (along27 l t).2 := by
  unfold along27
  have e1 : s.all (fun s => (got s.a s.b l).isSome) = t.all (fun s => (got s.a s.b l).isSome) := by
    rw [Bool.eq_iff_iff, List.all_eq_true, List.all_eq_true]
    exact ⟨fun H x hx => H x (h.mem_iff.2 hx), fun H x hx => H x (h.mem_iff.1 hx)⟩
  have e2 : s.any (fun s => decide (gD l s).zero) = t.any (fun s => decide (gD l s).zero) := by
    rw [Bool.eq_iff_iff, List.any_eq_true, List.any_eq_true]
    exact ⟨fun ⟨x, hx, H⟩ => ⟨x, h.mem_iff.1 hx, H⟩, fun ⟨x, hx, H⟩ => ⟨x, h.mem_iff.2 hx, H⟩⟩
  rw [e1, e2]
  split
  · split <;> rfl
  · rfl

theorem along_swap {l : List Vis} (hl : ∀ v ∈ l, v.good 8) (s : List Pr) : (along27 l (s.map swap)).2 = (along27 l s).2 := by
  unfold along27
  have e1 : (s.map swap).all (fun s => (got s.a s.b l).isSome) = s.all (fun s => (got s.a s.b l).isSome) := by
    rw [List.all_map]
    congr 1
    funext x
    show (got x.b x.a l).isSome = _
    rw [got_swap hl]; simp
  have e2 : (s.map swap).any (fun s => decide (gD l s).zero) = s.any (fun s => decide (gD l s).zero) := by
    rw [List.any_map]
    congr 1
    funext x
    show decide (gD l (swap x)).zero = _
    rw [gD_swap hl, Bool.eq_iff_iff]
    simp [conj_zero]
  rw [e1, e2]
  split
  · split <;> rfl
  · rfl

theorem gcd_one_one : Int.gcd one.re one.im = 1 := by decide

theorem apart_perm {c d : List Int} (h : c.Perm d) : apart c ↔ apart d := by
  unfold apart
  exact ⟨fun ⟨a, b⟩ => ⟨fun s hs => a s (h.mem_iff.2 hs), h.nodup_iff.1 b⟩, fun ⟨a, b⟩ => ⟨fun s hs => a s (h.mem_iff.1 hs), h.nodup_iff.2 b⟩⟩

theorem circle_perm {c d : List Int} (h : c.Perm d) : circle c ↔ circle d := by
  unfold circle
  rw [apart_perm h, h.length_eq]

/-- What a phase is: an error that does not depend on the steps' order, or the direction of the product. -/
theorem phase_cases {l : List Vis} (h0 : ck27 l = 0) {c : List Int} (hc : circle c) :
    ((along27 l (pairs c)).2 ≠ 0 ∧ phase l c = (c0, (along27 l (pairs c)).2)) ∨ ((along27 l (pairs c)).2 = 0 ∧
      (phase l c = (c0, 16) ∨ ((phase l c).2 = 0 ∧ (phase l c).1.valid ∧ (phase l c).1.den = 1 ∧ Int.gcd (phase l c).1.re (phase l c).1.im = 1 ∧ par (zn (phase l c).1) (zprod ((pairs c).map (gD l)))))) := by
  obtain ⟨hlen, hgood, _⟩ := ck27_0 h0
  have e : phase l c = if (along27 l (pairs c)).2 ≠ 0 then (c0, (along27 l (pairs c)).2) else fold27 one (along27 l (pairs c)).1 := by
    rw [phase, if_neg (by simp [h0]), if_neg (by simp [hc])]
  by_cases h1 : (along27 l (pairs c)).2 = 0
  · refine .inr ⟨h1, ?_⟩
    obtain ⟨e1, e2, e3⟩ := along27_0 hgood h1
    rw [if_neg (by simp [h1]), e1] at e
    have hv : ∀ v ∈ (pairs c).map (gD l), v.valid ∧ ¬ v.zero := fun v hv => by
      rw [List.mem_map] at hv
      obtain ⟨s, hs, rfl⟩ := hv
      exact e3 s hs
    rcases fold_good _ one_valid one_nz rfl gcd_one_one hv with h | h
    · refine .inr ?_
      rw [e]
      refine ⟨h.1, h.2.1, h.2.2.1, h.2.2.2, ?_⟩
      have := fold_par _ one_valid one_nz hv h.1
      rwa [zmul_comm, show zn one = (1, 0) from rfl, zmul_one] at this
    · exact .inl (by rw [e, h])
  · exact .inl ⟨h1, by rw [e, if_pos h1]⟩

/-- Two ways along the same steps. -/
theorem phase_like {l : List Vis} (h0 : ck27 l = 0) {c d : List Int} (hc : circle c) (hd : circle d) (ha : (along27 l (pairs d)).2 = (along27 l (pairs c)).2) :
    ((phase l c).2 = (phase l d).2 ∨ (phase l c).2 = 16 ∨ (phase l d).2 = 16) := by
  rcases phase_cases h0 hc with ⟨h1, h2⟩ | ⟨h1, h2⟩
  · rcases phase_cases h0 hd with ⟨k1, k2⟩ | ⟨k1, k2⟩
    · rw [h2, k2]; exact .inl ha.symm
    · exact absurd (ha.symm.trans k1) h1
  · rcases phase_cases h0 hd with ⟨k1, k2⟩ | ⟨k1, k2⟩
    · exact absurd (ha.trans h1) k1
    · rcases h2 with h2 | h2
      · rw [h2]; exact .inr (.inl rfl)
      · rcases k2 with k2 | k2
        · rw [k2]; exact .inr (.inr rfl)
        · rw [h2.1, k2.1]; exact .inl rfl

theorem phase_ok {l : List Vis} (h0 : ck27 l = 0) {c : List Int} (hc : circle c) (h : (phase l c).2 = 0) : (phase l c).1.valid ∧ (phase l c).1.den = 1 ∧ Int.gcd (phase l c).1.re (phase l c).1.im = 1 ∧ par (zn (phase l c).1) (zprod ((pairs c).map (gD l))) := by
  rcases phase_cases h0 hc with ⟨h1, h2⟩ | ⟨h1, h2 | h2⟩
  · rw [h2] at h; exact absurd h h1
  · rw [h2] at h; simp at h
  · exact h2.2

theorem cx_of_zn {a b : Cx} (h : zn a = zn b) (h1 : a.den = b.den) : a = b := by
  cases a; cases b
  simp only [zn, Prod.mk.injEq] at h
  simp only at h1
  simp [h.1, h.2, h1]

/-- A circle that begins elsewhere. -/
theorem phase_rot {l : List Vis} (h0 : ck27 l = 0) {c : List Int} (hc : circle c) {k : Nat} (hk : k < c.length) :
    ((phase l c).2 = (phase l (c.drop k ++ c.take k)).2 ∨ (phase l c).2 = 16 ∨ (phase l (c.drop k ++ c.take k)).2 = 16) ∧ ((phase l c).2 = 0 → (phase l (c.drop k ++ c.take k)).2 = 0 → phase l c = phase l (c.drop k ++ c.take k)) := by
  have hd : circle (c.drop k ++ c.take k) := (circle_perm (rot_perm c k)).2 hc
  have hp : (pairs (c.drop k ++ c.take k)).Perm (pairs c) := by rw [pairs_rot hc.1 hc.2.1 hk]; exact rot_perm _ _
  refine ⟨phase_like h0 hc hd (along_perm hp), fun h1 h2 => ?_⟩
  obtain ⟨_, d1, g1, p1⟩ := phase_ok h0 hc h1
  obtain ⟨_, d2, g2, p2⟩ := phase_ok h0 hd h2
  have e := zprod_perm (hp.map (gD l))
  rw [e] at p2
  exact Prod.ext (cx_of_zn (par_unique (par_trans p1 (par_symm p2)) g1 g2) (d1.trans d2.symm)) (h1.trans h2.symm)

/-- The other way about. -/
theorem phase_rev {l : List Vis} (h0 : ck27 l = 0) {c : List Int} (hc : circle c) :
    ((phase l c).2 = (phase l c.reverse).2 ∨ (phase l c).2 = 16 ∨ (phase l c.reverse).2 = 16) ∧ ((phase l c).2 = 0 → (phase l c.reverse).2 = 0 → (phase l c.reverse).1 = conj (phase l c).1) := by
  have hd : circle c.reverse := (circle_perm (List.reverse_perm c)).2 hc
  obtain ⟨_, hgood, _⟩ := ck27_0 h0
  have hp : (pairs c.reverse).Perm ((pairs c).map swap) := by
    rw [pairs_rev hc.1 hc.2.1]
    exact (rot_perm _ _).trans (List.reverse_perm _)
  refine ⟨phase_like h0 hc hd (by rw [along_perm hp, along_swap hgood]), fun h1 h2 => ?_⟩
  obtain ⟨_, d1, g1, p1⟩ := phase_ok h0 hc h1
  obtain ⟨_, d2, g2, p2⟩ := phase_ok h0 hd h2
  have e := zprod_perm (hp.map (gD l))
  rw [e, List.map_map, show (gD l ∘ swap) = conj ∘ gD l from funext fun s => gD_swap hgood s, ← List.map_map, zprod_conj] at p2
  refine cx_of_zn (par_unique (par_trans p2 (par_symm (par_conj p1))) g2 ?_) (d2.trans d1.symm)
  show Int.gcd (phase l c).1.re (-(phase l c).1.im) = 1
  rw [Int.gcd_neg]; exact g1

end Go.Pv

/- Closure amplitudes: what they are, and exchanges of stations. -/
namespace Go.Pv
open Go.Vc

def ns (c : Cx) : Int := c.re * c.re + c.im * c.im
def ds (c : Cx) : Int := c.den * c.den

theorem ns_pos {c : Cx} (h : ¬ c.zero) : 0 < ns c := by
  have s1 := sq_nonneg c.re
  have s2 := sq_nonneg c.im
  unfold ns
  rcases Int.lt_trichotomy (c.re * c.re + c.im * c.im) 0 with h' | h' | h'
  · omega
  · have t1 : c.re * c.re = 0 := by omega
    have t2 : c.im * c.im = 0 := by omega
    exact absurd ⟨by rcases Int.mul_eq_zero.1 t1 with h | h <;> exact h, by rcases Int.mul_eq_zero.1 t2 with h | h <;> exact h⟩ h
  · exact h'

theorem ds_pos {c : Cx} (h : c.valid) : 0 < ds c := Int.mul_pos (by have := h.1; omega) (by have := h.1; omega)

theorem ns_conj (c : Cx) : ns (conj c) = ns c := by unfold ns conj; simp only; rw [Int.neg_mul_neg]
theorem ds_conj (c : Cx) : ds (conj c) = ds c := rfl

theorem norm_ns {x y z : Int} (hz : 0 < z) : ∃ g : Int, 0 < g ∧ x * x + y * y = ns (norm x y z) * g ∧ z * z = ds (norm x y z) * g := by
  obtain ⟨g, hg, e1, e2, e3, _⟩ := norm_spec (x := x) (y := y) hz
  refine ⟨(g : Int) * g, Int.mul_pos (by omega) (by omega), ?_, ?_⟩
  · unfold ns
    generalize norm x y z = m at *
    rw [e1, e2]; grind
  · unfold ds
    generalize norm x y z = m at *
    rw [e3]; grind

theorem mul_ns {a b : Cx} (ha : a.valid) (hb : b.valid) (h : (mul a b).2 = 0) : ns (mul a b).1 * (ds a * ds b) = ds (mul a b).1 * (ns a * ns b) := by
  rw [(mul_ok ha hb h).1]
  obtain ⟨g, hg, e1, e2⟩ := norm_ns (x := a.re * b.re - a.im * b.im) (y := a.re * b.im + a.im * b.re) (mul_pos' ha.1 hb.1)
  generalize norm (a.re * b.re - a.im * b.im) (a.re * b.im + a.im * b.re) (a.den * b.den) = m at *
  have f1 : ns a * ns b = ns m * g := by rw [← e1]; unfold ns; grind
  have f2 : ds a * ds b = ds m * g := by rw [← e2]; unfold ds; grind
  rw [f1, f2]; grind

theorem div_ns {a b : Cx} (ha : a.valid) (hb : b.valid) (hz : ¬ b.zero) (h : (div a b).2 = 0) : (div a b).1.valid ∧ ns (div a b).1 * (ds a * ns b) = ds (div a b).1 * (ns a * ds b) := by
  have hn := ns_pos hz
  rw [div, if_pos ⟨ha, hb⟩, if_neg hz] at h ⊢
  have hp : 0 < (b.re * b.re + b.im * b.im) * a.den := Int.mul_pos hn (by have := ha.1; omega)
  obtain ⟨h1, h2⟩ := make_ok hp h
  rw [h1]
  refine ⟨h2, ?_⟩
  obtain ⟨g, hg, e1, e2⟩ := norm_ns (x := (a.re * b.re + a.im * b.im) * b.den) (y := (a.im * b.re - a.re * b.im) * b.den) hp
  generalize norm ((a.re * b.re + a.im * b.im) * b.den) ((a.im * b.re - a.re * b.im) * b.den) ((b.re * b.re + b.im * b.im) * a.den) = m at *
  have f1 : ns a * ns b * ds b = ns m * g := by rw [← e1]; unfold ns ds; grind
  have f2 : ns b * ns b * ds a = ds m * g := by rw [← e2]; unfold ns ds; grind
  have hgz : g * ns b ≠ 0 := by
    have := Int.mul_pos hg hn
    omega
  apply Int.eq_of_mul_eq_mul_right hgz
  have : ns m * (ds a * ns b) * (g * ns b) = (ns m * g) * (ds a * ns b * ns b) := by grind
  rw [this, ← f1]
  have : ds m * (ns a * ds b) * (g * ns b) = (ds m * g) * (ns a * ds b * ns b) := by grind
  rw [this, ← f2]
  grind

theorem nrm_ns {a : Cx} (ha : a.valid) (hz : ¬ a.zero) (h : (nrm a).2 = 0) : 0 < (nrm a).1.num ∧ 0 < (nrm a).1.den ∧ Int.gcd (nrm a).1.num (nrm a).1.den = 1 ∧ (nrm a).1.num * ds a = (nrm a).1.den * ns a := by
  have hn := ns_pos hz
  have hd := ds_pos ha
  rw [nrm, if_pos ha] at h ⊢
  split at h
  · simp at h
  · rename_i h'
    rw [if_neg h']
    unfold ns at hn
    unfold ds at hd
    show 0 < (a.re * a.re + a.im * a.im) / _ ∧ 0 < (a.den * a.den) / _ ∧ _
    unfold ns ds
    generalize a.re * a.re + a.im * a.im = n at *
    generalize a.den * a.den = d at *
    have hg : 0 < Int.gcd n d := Int.gcd_pos_of_ne_zero_left _ (by omega)
    have d1 : ((Int.gcd n d : Nat) : Int) ∣ n := Int.gcd_dvd_left ..
    have d2 : ((Int.gcd n d : Nat) : Int) ∣ d := Int.gcd_dvd_right ..
    refine ⟨ediv_pos hg d1 hn, ediv_pos hg d2 hd, cop_div hg, ?_⟩
    show n / _ * d = d / _ * n
    obtain ⟨u, hu⟩ := d1
    obtain ⟨v, hv⟩ := d2
    have hG : ((Int.gcd n d : Nat) : Int) ≠ 0 := by omega
    generalize ((Int.gcd n d : Nat) : Int) = G at hu hv hG ⊢
    rw [hu, hv, Int.mul_ediv_cancel_left _ hG, Int.mul_ediv_cancel_left _ hG]
    grind

theorem frac_unique {a b c d : Int} (ha : 0 < a) (hb : 0 < b) (hc : 0 < c) (hd : 0 < d) (h1 : Int.gcd a b = 1) (h2 : Int.gcd c d = 1) (e : a * d = c * b) : a = c ∧ b = d := by
  have hp : par (a, b) (c, d) := ⟨d, b, hd, hb, e, Int.mul_comm b d⟩
  have := par_unique hp h1 h2
  simpa using this

/-- What an amplitude is. -/
theorem amp4_spec {p q r s : Cx} (hp : p.valid) (hq : q.valid) (hr : r.valid) (hs : s.valid) (zp : ¬ p.zero) (zq : ¬ q.zero) (zr : ¬ r.zero) (zs : ¬ s.zero) :
    amp4 p q r s = (f0, 16) ∨ ((amp4 p q r s).2 = 0 ∧ 0 < (amp4 p q r s).1.num ∧ 0 < (amp4 p q r s).1.den ∧ Int.gcd (amp4 p q r s).1.num (amp4 p q r s).1.den = 1 ∧
      (amp4 p q r s).1.num * ((ds p * ds q) * (ns r * ns s)) = (amp4 p q r s).1.den * ((ns p * ns q) * (ds r * ds s))) := by
  unfold amp4
  rcases mul_err hp hq with h1 | h1
  · rw [if_neg (by simp [h1])]
    rcases mul_err hr hs with h2 | h2
    · rw [if_neg (by simp [h2])]
      have v1 := (mul_ok hp hq h1).2
      have v2 := (mul_ok hr hs h2).2
      have z1 : ¬ (mul p q).1.zero := by
        rw [mul_zero_iff hp hq h1]; exact fun h => h.elim zp zq
      have z2 : ¬ (mul r s).1.zero := by
        rw [mul_zero_iff hr hs h2]; exact fun h => h.elim zr zs
      have m1 := mul_ns hp hq h1
      have m2 := mul_ns hr hs h2
      have w1 := ds_pos v1
      have w2 := ds_pos v2
      have w3 := ns_pos z1
      have w4 := ns_pos z2
      generalize (mul p q).1 = x at *
      generalize (mul r s).1 = y at *
      have he : (div x y).2 = 0 ∨ div x y = (c0, 16) := by
        rw [div, if_pos ⟨v1, v2⟩, if_neg z2]; exact make_err _ _ _
      rcases he with h3 | h3
      · rw [if_neg (by simp [h3])]
        obtain ⟨v3, e3⟩ := div_ns v1 v2 z2 h3
        have z3 : ¬ (div x y).1.zero := fun h => by
          have : ns (div x y).1 = 0 := by unfold ns; rw [h.1, h.2]; rfl
          rw [this, Int.zero_mul] at e3
          have := Int.mul_pos (ds_pos v3) (Int.mul_pos w3 w2)
          omega
        have w5 := ds_pos v3
        have w6 := ns_pos z3
        generalize (div x y).1 = u at *
        rcases (show (nrm u).2 = 0 ∨ nrm u = (f0, 16) from by rw [nrm, if_pos v3]; split <;> first | exact .inr rfl | exact .inl rfl) with h4 | h4
        · obtain ⟨n1, n2, n3, n4⟩ := nrm_ns v3 z3 h4
          refine .inr ⟨h4, n1, n2, n3, ?_⟩
          generalize (nrm u).1.num = N at *
          generalize (nrm u).1.den = D at *
          generalize ds p * ds q = a1 at *
          generalize ns p * ns q = a2 at *
          generalize ds r * ds s = a3 at *
          generalize ns r * ns s = a4 at *
          generalize ns x = nx at *
          generalize ds x = dx at *
          generalize ns y = ny at *
          generalize ds y = dy at *
          generalize ns u = nu at *
          generalize ds u = du at *
          -- m1: nx a1 = dx a2; m2: ny a3 = dy a4; e3: nu (dx ny) = du (nx dy); n4: N du = D nu
          have i1 : N * dx * ny = D * nx * dy := by
            apply Int.eq_of_mul_eq_mul_right (a := du) (by omega)
            have t1 : N * dx * ny * du = (N * du) * (dx * ny) := by grind
            have t2 : D * nu * (dx * ny) = D * (nu * (dx * ny)) := by grind
            rw [t1, n4, t2, e3]; grind
          have hk : dx * dy ≠ 0 := by
            have := Int.mul_pos w1 w2
            omega
          apply Int.eq_of_mul_eq_mul_right hk
          have t1 : N * (a1 * a4) * (dx * dy) = N * dx * (dy * a4) * a1 := by grind
          have t2 : N * dx * (ny * a3) * a1 = (N * dx * ny) * (a3 * a1) := by grind
          have t3 : D * nx * dy * (a3 * a1) = D * dy * a3 * (nx * a1) := by grind
          rw [t1, ← m2, t2, i1, t3, m1]; grind
        · exact .inl h4
      · rw [h3, if_pos (by simp)]; exact .inl rfl
    · rw [h2, if_pos (by simp)]; exact .inl rfl
  · rw [h1, if_pos (by simp)]; exact .inl rfl


theorem amp_cases {l : List Vis} (h0 : ck27 l = 0) (a b c d : Int) :
    (¬ apart [a, b, c, d] ∧ amp l a b c d = (f0, 2)) ∨ (apart [a, b, c, d] ∧ (along27 l [⟨a, b⟩, ⟨c, d⟩, ⟨a, c⟩, ⟨b, d⟩]).2 ≠ 0 ∧ amp l a b c d = (f0, (along27 l [⟨a, b⟩, ⟨c, d⟩, ⟨a, c⟩, ⟨b, d⟩]).2)) ∨
    (apart [a, b, c, d] ∧ (along27 l [⟨a, b⟩, ⟨c, d⟩, ⟨a, c⟩, ⟨b, d⟩]).2 = 0 ∧ (amp l a b c d = (f0, 16) ∨ ((amp l a b c d).2 = 0 ∧ 0 < (amp l a b c d).1.num ∧ 0 < (amp l a b c d).1.den ∧ Int.gcd (amp l a b c d).1.num (amp l a b c d).1.den = 1 ∧
      (amp l a b c d).1.num * ((ds (gD l ⟨a, b⟩) * ds (gD l ⟨c, d⟩)) * (ns (gD l ⟨a, c⟩) * ns (gD l ⟨b, d⟩))) = (amp l a b c d).1.den * ((ns (gD l ⟨a, b⟩) * ns (gD l ⟨c, d⟩)) * (ds (gD l ⟨a, c⟩) * ds (gD l ⟨b, d⟩)))))) := by
  obtain ⟨hlen, hgood, _⟩ := ck27_0 h0
  by_cases h1 : apart [a, b, c, d]
  · by_cases h2 : (along27 l [⟨a, b⟩, ⟨c, d⟩, ⟨a, c⟩, ⟨b, d⟩]).2 = 0
    · refine .inr (.inr ⟨h1, h2, ?_⟩)
      have e : amp l a b c d = amp4 (gD l ⟨a, b⟩) (gD l ⟨c, d⟩) (gD l ⟨a, c⟩) (gD l ⟨b, d⟩) := by rw [amp, if_neg (by simp [h0]), if_neg (by simp [h1]), if_neg (by simp [h2])]
      obtain ⟨_, _, e3⟩ := along27_0 hgood h2
      rw [e]
      have hA := e3 ⟨a, b⟩ (by simp)
      have hB := e3 ⟨c, d⟩ (by simp)
      have hC := e3 ⟨a, c⟩ (by simp)
      have hD := e3 ⟨b, d⟩ (by simp)
      exact amp4_spec hA.1 hB.1 hC.1 hD.1 hA.2 hB.2 hC.2 hD.2
    · exact .inr (.inl ⟨h1, h2, by rw [amp, if_neg (by simp [h0]), if_neg (by simp [h1]), if_pos h2]⟩)
  · exact .inl ⟨h1, by rw [amp, if_neg (by simp [h0]), if_pos h1]⟩

/-- Errors of two amplitudes of the same baselines. -/
theorem amp_like {l : List Vis} (h0 : ck27 l = 0) {a b c d a' b' c' d' : Int} (h1 : apart [a, b, c, d] ↔ apart [a', b', c', d'])
    (h2 : (along27 l [⟨a, b⟩, ⟨c, d⟩, ⟨a, c⟩, ⟨b, d⟩]).2 = (along27 l [⟨a', b'⟩, ⟨c', d'⟩, ⟨a', c'⟩, ⟨b', d'⟩]).2) :
    (amp l a b c d).2 = (amp l a' b' c' d').2 ∨ (amp l a b c d).2 = 16 ∨ (amp l a' b' c' d').2 = 16 := by
  rcases amp_cases h0 a b c d with ⟨p1, p2⟩ | ⟨p1, p2, p3⟩ | ⟨p1, p2, p3⟩
  · rcases amp_cases h0 a' b' c' d' with ⟨q1, q2⟩ | ⟨q1, q2, q3⟩ | ⟨q1, q2, q3⟩
    · rw [p2, q2]; exact .inl rfl
    · exact absurd (h1.2 q1) p1
    · exact absurd (h1.2 q1) p1
  · rcases amp_cases h0 a' b' c' d' with ⟨q1, q2⟩ | ⟨q1, q2, q3⟩ | ⟨q1, q2, q3⟩
    · exact absurd (h1.1 p1) q1
    · rw [p3, q3]; exact .inl h2
    · exact absurd (h2.trans q2) p2
  · rcases amp_cases h0 a' b' c' d' with ⟨q1, q2⟩ | ⟨q1, q2, q3⟩ | ⟨q1, q2, q3⟩
    · exact absurd (h1.1 p1) q1
    · exact absurd (h2.symm.trans p2) q2
    · rcases p3 with p3 | p3
      · rw [p3]; exact .inr (.inl rfl)
      · rcases q3 with q3 | q3
        · rw [q3]; exact .inr (.inr rfl)
        · rw [p3.1, q3.1]; exact .inl rfl

theorem amp_ok {l : List Vis} (h0 : ck27 l = 0) {a b c d : Int} (h : (amp l a b c d).2 = 0) : (along27 l [⟨a, b⟩, ⟨c, d⟩, ⟨a, c⟩, ⟨b, d⟩]).2 = 0 ∧ 0 < (amp l a b c d).1.num ∧ 0 < (amp l a b c d).1.den ∧ Int.gcd (amp l a b c d).1.num (amp l a b c d).1.den = 1 ∧
      (amp l a b c d).1.num * ((ds (gD l ⟨a, b⟩) * ds (gD l ⟨c, d⟩)) * (ns (gD l ⟨a, c⟩) * ns (gD l ⟨b, d⟩))) = (amp l a b c d).1.den * ((ns (gD l ⟨a, b⟩) * ns (gD l ⟨c, d⟩)) * (ds (gD l ⟨a, c⟩) * ds (gD l ⟨b, d⟩))) := by
  rcases amp_cases h0 a b c d with ⟨p1, p2⟩ | ⟨p1, p2, p3⟩ | ⟨p1, p2, p3 | p3⟩
  · rw [p2] at h; simp at h
  · rw [p3] at h; exact absurd h p2
  · rw [p3] at h; simp at h
  · exact ⟨p2, p3.2⟩

theorem prod4_pos {x y z w : Int} (h1 : 0 < x) (h2 : 0 < y) (h3 : 0 < z) (h4 : 0 < w) : 0 < (x * y) * (z * w) := Int.mul_pos (Int.mul_pos h1 h2) (Int.mul_pos h3 h4)

/-- Exchanges of stations. -/
theorem amp_swaps {l : List Vis} (h0 : ck27 l = 0) (a b c d : Int) :
    ((amp l a b c d).2 = (amp l a c b d).2 ∨ (amp l a b c d).2 = 16 ∨ (amp l a c b d).2 = 16) ∧ ((amp l a b c d).2 = (amp l d c b a).2 ∨ (amp l a b c d).2 = 16 ∨ (amp l d c b a).2 = 16) ∧
    ((amp l a b c d).2 = 0 → 1 ≤ (amp l a b c d).1.num ∧ 1 ≤ (amp l a b c d).1.den ∧ ((amp l a c b d).2 = 0 → (amp l a b c d).1.num = (amp l a c b d).1.den ∧ (amp l a b c d).1.den = (amp l a c b d).1.num) ∧ ((amp l d c b a).2 = 0 → (amp l a b c d).1 = (amp l d c b a).1)) := by
  obtain ⟨_, hgood, _⟩ := ck27_0 h0
  have P1 : [a, b, c, d].Perm [a, c, b, d] := .cons a (.swap c b [d])
  have P2 : [a, b, c, d].Perm [d, c, b, a] := (List.reverse_perm [a, b, c, d]).symm
  have S1 : List.Perm [Pr.mk a b, ⟨c, d⟩, ⟨a, c⟩, ⟨b, d⟩] [⟨a, c⟩, ⟨b, d⟩, ⟨a, b⟩, ⟨c, d⟩] := List.perm_append_comm (l₁ := [Pr.mk a b, Pr.mk c d]) (l₂ := [Pr.mk a c, Pr.mk b d])
  have S2 : List.Perm ([Pr.mk a b, ⟨c, d⟩, ⟨a, c⟩, ⟨b, d⟩].map swap) [⟨d, c⟩, ⟨b, a⟩, ⟨d, b⟩, ⟨c, a⟩] := (List.Perm.swap (Pr.mk d c) (Pr.mk b a) [Pr.mk c a, Pr.mk d b]).trans (.cons _ (.cons _ (.swap (Pr.mk d b) (Pr.mk c a) [])))
  have L1 := along_perm (l := l) S1
  have L2 : (along27 l [⟨a, b⟩, ⟨c, d⟩, ⟨a, c⟩, ⟨b, d⟩]).2 = (along27 l [⟨d, c⟩, ⟨b, a⟩, ⟨d, b⟩, ⟨c, a⟩]).2 := by rw [← along_swap hgood, along_perm S2]
  refine ⟨amp_like h0 (apart_perm P1) L1, amp_like h0 (apart_perm P2) L2, fun h => ?_⟩
  obtain ⟨k0, k1, k2, k3, k4⟩ := amp_ok h0 h
  obtain ⟨_, _, e3⟩ := along27_0 hgood k0
  have hA := e3 ⟨a, b⟩ (by simp)
  have hB := e3 ⟨c, d⟩ (by simp)
  have hC := e3 ⟨a, c⟩ (by simp)
  have hD := e3 ⟨b, d⟩ (by simp)
  have u1 := prod4_pos (ds_pos hA.1) (ds_pos hB.1) (ns_pos hC.2) (ns_pos hD.2)
  have u2 := prod4_pos (ns_pos hA.2) (ns_pos hB.2) (ds_pos hC.1) (ds_pos hD.1)
  refine ⟨by omega, by omega, fun h' => ?_, fun h' => ?_⟩
  · obtain ⟨_, q1, q2, q3, q4⟩ := amp_ok h0 h'
    generalize (amp l a b c d).1.num = N at *
    generalize (amp l a b c d).1.den = D at *
    generalize (amp l a c b d).1.num = N' at *
    generalize (amp l a c b d).1.den = D' at *
    rw [Int.mul_comm (ds (gD l ⟨a, c⟩) * ds (gD l ⟨b, d⟩)), Int.mul_comm (ns (gD l ⟨a, c⟩) * ns (gD l ⟨b, d⟩))] at q4
    generalize ds (gD l ⟨a, b⟩) * ds (gD l ⟨c, d⟩) * (ns (gD l ⟨a, c⟩) * ns (gD l ⟨b, d⟩)) = B at *
    generalize ns (gD l ⟨a, b⟩) * ns (gD l ⟨c, d⟩) * (ds (gD l ⟨a, c⟩) * ds (gD l ⟨b, d⟩)) = A at *
    refine frac_unique k1 k2 q2 q1 k3 (by rw [Int.gcd_comm]; exact q3) ?_
    apply Int.eq_of_mul_eq_mul_right (a := B) (by omega)
    have t1 : N * N' * B = (N * B) * N' := by grind
    have t2 : D * A * N' = D * (N' * A) := by grind
    rw [t1, k4, t2, q4]; grind
  · obtain ⟨_, q1, q2, q3, q4⟩ := amp_ok h0 h'
    have g1 : gD l ⟨d, c⟩ = conj (gD l ⟨c, d⟩) := gD_swap hgood ⟨c, d⟩
    have g2 : gD l ⟨b, a⟩ = conj (gD l ⟨a, b⟩) := gD_swap hgood ⟨a, b⟩
    have g3 : gD l ⟨d, b⟩ = conj (gD l ⟨b, d⟩) := gD_swap hgood ⟨b, d⟩
    have g4 : gD l ⟨c, a⟩ = conj (gD l ⟨a, c⟩) := gD_swap hgood ⟨a, c⟩
    rw [g1, g2, g3, g4] at q4
    simp only [ns_conj, ds_conj] at q4
    rw [Int.mul_comm (ds (gD l ⟨c, d⟩)), Int.mul_comm (ns (gD l ⟨c, d⟩)), Int.mul_comm (ds (gD l ⟨b, d⟩)), Int.mul_comm (ns (gD l ⟨b, d⟩))] at q4
    have : (amp l a b c d).1.num = (amp l d c b a).1.num ∧ (amp l a b c d).1.den = (amp l d c b a).1.den := by
      generalize (amp l a b c d).1.num = N at *
      generalize (amp l a b c d).1.den = D at *
      generalize (amp l d c b a).1.num = N' at *
      generalize (amp l d c b a).1.den = D' at *
      generalize ds (gD l ⟨a, b⟩) * ds (gD l ⟨c, d⟩) * (ns (gD l ⟨a, c⟩) * ns (gD l ⟨b, d⟩)) = B at *
      generalize ns (gD l ⟨a, b⟩) * ns (gD l ⟨c, d⟩) * (ds (gD l ⟨a, c⟩) * ds (gD l ⟨b, d⟩)) = A at *
      refine frac_unique k1 k2 q1 q2 k3 q3 ?_
      apply Int.eq_of_mul_eq_mul_right (a := B) (by omega)
      have t1 : N * D' * B = (N * B) * D' := by grind
      have t2 : D * A * D' = D * (D' * A) := by grind
      rw [t1, k4, t2, ← q4]; grind
    cases hx : (amp l a b c d).1
    cases hy : (amp l d c b a).1
    rw [hx, hy] at this
    simp only at this
    simp [this.1, this.2]

end Go.Pv

/- No gains change closures. -/
namespace Go.Pv
open Go.Vc

def zpr (l : List Z) : Z := l.foldr zmul (1, 0)
theorem zpr_cons (z : Z) (l : List Z) : zpr (z :: l) = zmul z (zpr l) := rfl
theorem zprod_zpr (l : List Cx) : zprod l = zpr (l.map zn) := by
  induction l with
  | nil => rfl
  | cons v r ih => rw [zprod_cons, List.map_cons, zpr_cons, ih]
theorem zpr_perm {l m : List Z} (h : l.Perm m) : zpr l = zpr m := by
  induction h with
  | nil => rfl
  | cons x _ ih => rw [zpr_cons, zpr_cons, ih]
  | swap x y l =>
    rw [zpr_cons, zpr_cons, zpr_cons, zpr_cons, ← zmul_assoc, zmul_comm y, zmul_assoc]
  | trans _ _ h1 h2 => rw [h1, h2]
theorem zmul4 (a b c d : Z) : zmul (zmul a b) (zmul c d) = zmul (zmul a c) (zmul b d) := by
  rw [zmul_assoc, zmul_assoc, ← zmul_assoc b, zmul_comm b c, zmul_assoc c]
theorem zpr_mul {α : Type} (l : List α) (f h : α → Z) : zpr (l.map fun x => zmul (f x) (h x)) = zmul (zpr (l.map f)) (zpr (l.map h)) := by
  induction l with
  | nil => rfl
  | cons x r ih => rw [List.map_cons, List.map_cons, List.map_cons, zpr_cons, zpr_cons, zpr_cons, ih, zmul4]
theorem zpr_conj {α : Type} (l : List α) (f : α → Z) : zpr (l.map fun x => zconj (f x)) = zconj (zpr (l.map f)) := by
  induction l with
  | nil => rfl
  | cons x r ih => rw [List.map_cons, List.map_cons, zpr_cons, zpr_cons, ih, zmul_conj]
theorem zpr_par {α : Type} {l : List α} {f h : α → Z} (H : ∀ x ∈ l, par (f x) (h x)) : par (zpr (l.map f)) (zpr (l.map h)) := by
  induction l with
  | nil => exact par_refl _
  | cons x r ih =>
    rw [List.map_cons, List.map_cons, zpr_cons, zpr_cons]
    exact par_mul (H x (by simp)) (ih fun y hy => H y (by simp [hy]))

def nz (z : Z) : Int := z.1 * z.1 + z.2 * z.2
theorem nz_mul (a b : Z) : nz (zmul a b) = nz a * nz b := by unfold nz zmul; grind
theorem nz_zpr {l : List Z} (h : ∀ z ∈ l, 0 < nz z) : 0 < nz (zpr l) := by
  induction l with
  | nil => decide
  | cons x r ih =>
    rw [zpr_cons, nz_mul]
    exact Int.mul_pos (h x (by simp)) (ih fun y hy => h y (by simp [hy]))

theorem par_real {a p : Z} (h : 0 < nz p) : par (zmul a (zmul p (zconj p))) a := by
  refine ⟨1, nz p, by decide, h, ?_, ?_⟩
  · unfold zmul zconj nz; grind
  · unfold zmul zconj nz; grind

theorem pairs_a {c : List Int} (h1 : 3 ≤ c.length) (h2 : c.length ≤ 8) : (pairs c).map Pr.a = c ∧ (pairs c).map Pr.b = c.drop 1 ++ c.take 1 := by
  match c, h1, h2 with
  | [a, b, c], _, _ => simp [pairs, List.range, List.range.loop]
  | [a, b, c, d], _, _ => simp [pairs, List.range, List.range.loop]
  | [a, b, c, d, e], _, _ => simp [pairs, List.range, List.range.loop]
  | [a, b, c, d, e, f], _, _ => simp [pairs, List.range, List.range.loop]
  | [a, b, c, d, e, f, g], _, _ => simp [pairs, List.range, List.range.loop]
  | [a, b, c, d, e, f, g, h], _, _ => simp [pairs, List.range, List.range.loop]
  | _ :: _ :: _ :: _ :: _ :: _ :: _ :: _ :: _ :: _, _, h => simp at h

/-- How a visibility of two stations changes. -/
structure Ch (g : List Cx) (i j : Int) (c c' : Cx) : Prop where
  v : c'.valid
  z : c'.zero ↔ c.zero
  p : par (zn c') (zmul (zn c) (zmul (zn (at_ g i)) (zconj (zn (at_ g j)))))
  n : ns c' * (ds c * (ds (at_ g i) * ds (at_ g j))) = ds c' * (ns c * (ns (at_ g i) * ns (at_ g j)))

theorem ch_conj {g : List Cx} {i j : Int} {c c' : Cx} (h : Ch g i j c c') : Ch g j i (conj c) (conj c') := by
  refine ⟨conj_valid h.v, by rw [conj_zero, conj_zero]; exact h.z, ?_, ?_⟩
  · have := par_conj h.p
    rw [← zmul_conj, ← zmul_conj] at this
    have e : zconj (zconj (zn (at_ g j))) = zn (at_ g j) := by unfold zconj; simp
    rw [e, zmul_comm (zconj (zn (at_ g i)))] at this
    exact this
  · rw [ns_conj, ns_conj, ds_conj, ds_conj, Int.mul_comm (ds (at_ g j)), Int.mul_comm (ns (at_ g j))]
    exact h.n

theorem act1_ch {g : List Cx} (hg : ∀ c ∈ g, okG c) (h8 : g.length = 8) {v : Vis} (hv : v.good 8) (h : (act1 g v).2 = 0) : Ch g v.i v.j v.v (act1 g v).1 := by
  obtain ⟨v1, v2, v3, v4, v5⟩ := hv
  obtain ⟨gi, zi⟩ := hg _ (at_mem (g := g) (i := v.i) v1 (by omega))
  obtain ⟨gj, zj⟩ := hg _ (at_mem (g := g) (i := v.j) (by omega) (by omega))
  unfold act1 at h ⊢
  split at h
  · simp at h
  · rename_i h1
    rw [if_neg h1]
    have h1 : (mul (at_ g v.i) v.v).2 = 0 := by simpa using h1
    split at h
    · simp at h
    · rename_i h2
      rw [if_neg h2]
      have o1 := (mul_ok gi v5 h1).2
      have o2 := (mul_ok o1 (conj_valid gj) h).2
      refine ⟨o2, ?_, ?_, ?_⟩
      · rw [mul_zero_iff o1 (conj_valid gj) h, mul_zero_iff gi v5 h1, conj_zero]
        constructor
        · rintro ((h | h) | h)
          · exact absurd h zi
          · exact h
          · exact absurd h zj
        · exact fun h => .inl (.inr h)
      · have p1 := mul_par o1 (conj_valid gj) h
        have p2 := mul_par gi v5 h1
        refine par_trans p1 (par_trans (par_mul p2 (par_refl _)) ?_)
        rw [show zn (conj (at_ g v.j)) = zconj (zn (at_ g v.j)) from rfl, zmul_comm (zn (at_ g v.i)), zmul_assoc]
        exact par_refl _
      · have n1 := mul_ns o1 (conj_valid gj) h
        have n2 := mul_ns gi v5 h1
        rw [ns_conj, ds_conj] at n1
        have w := ds_pos o1
        generalize mul (mul (at_ g v.i) v.v).1 (conj (at_ g v.j)) = y at *
        generalize (mul (at_ g v.i) v.v).1 = x at *
        generalize ns y.1 = ny at *
        generalize ds y.1 = dy at *
        generalize ns x = nx at *
        generalize ds x = dx at *
        generalize ns (at_ g v.i) = a1 at *
        generalize ds (at_ g v.i) = a2 at *
        generalize ns (at_ g v.j) = b1 at *
        generalize ds (at_ g v.j) = b2 at *
        generalize ns v.v = c1 at *
        generalize ds v.v = c2 at *
        apply Int.eq_of_mul_eq_mul_right (a := dx) (by omega)
        have t1 : ny * (c2 * (a2 * b2)) * dx = (ny * (dx * b2)) * (a2 * c2) := by grind
        have t2 : dy * (nx * b1) * (a2 * c2) = dy * b1 * (nx * (a2 * c2)) := by grind
        rw [t1, n1, t2, n2]; grind

theorem got_act {g : List Cx} (hg : ∀ c ∈ g, okG c) (h8 : g.length = 8) {l : List Vis} (hl : ∀ v ∈ l, v.good 8) (h : ∀ v ∈ l, (act1 g v).2 = 0) (i j : Int) :
    (got i j l = none ∧ got i j (l.map fun v => v.set (act1 g v).1) = none) ∨ ∃ c c', got i j l = some c ∧ got i j (l.map fun v => v.set (act1 g v).1) = some c' ∧ Ch g i j c c' := by
  induction l with
  | nil => exact .inl ⟨rfl, rfl⟩
  | cons v r ih =>
    have c := act1_ch hg h8 (hl v (by simp)) (h v (by simp))
    rw [List.map_cons]
    unfold got
    by_cases h1 : v.i = i ∧ v.j = j
    · rw [if_pos h1, if_pos (show (v.set (act1 g v).1).i = i ∧ (v.set (act1 g v).1).j = j from h1)]
      obtain ⟨rfl, rfl⟩ := h1
      exact .inr ⟨_, _, rfl, rfl, c⟩
    · rw [if_neg h1, if_neg (show ¬ ((v.set (act1 g v).1).i = i ∧ (v.set (act1 g v).1).j = j) from h1)]
      by_cases h2 : v.i = j ∧ v.j = i
      · rw [if_pos h2, if_pos (show (v.set (act1 g v).1).i = j ∧ (v.set (act1 g v).1).j = i from h2)]
        obtain ⟨rfl, rfl⟩ := h2
        exact .inr ⟨_, _, rfl, rfl, ch_conj c⟩
      · rw [if_neg h2, if_neg (show ¬ ((v.set (act1 g v).1).i = j ∧ (v.set (act1 g v).1).j = i) from h2)]
        exact ih (fun u hu => hl u (by simp [hu])) fun u hu => h u (by simp [hu])


theorem act26_ok {g : List Cx} {l : List Vis} (h : (act26 g l).2 = 0) : ck26 g = 0 ∧ (act26 g l).1 = (l.map fun v => v.set (act1 g v).1) ∧ ∀ v ∈ l, (act1 g v).2 = 0 := by
  unfold act26 at h ⊢
  split at h
  · rename_i h'; exact absurd h h'
  · rename_i h1
    rw [if_neg h1]
    split at h
    · rename_i h'; exact absurd h h'
    · rename_i h2
      rw [if_neg h2]
      split at h
      · rename_i h3
        rw [if_pos h3]
        rw [List.all_eq_true] at h3
        exact ⟨by simpa using h1, rfl, fun v hv => by simpa using h3 v hv⟩
      · simp at h

theorem act26_err {g : List Cx} {l : List Vis} (h0 : ck27 l = 0) (hg : ck26 g = 0) (h8 : g.length = 8) : (act26 g l).2 = 0 ∨ (act26 g l).2 = 16 := by
  unfold act26
  rw [if_neg (by simp [hg]), if_neg]
  · split
    · exact .inl rfl
    · exact .inr rfl
  · obtain ⟨h1, h2, _⟩ := ck27_0 h0
    rw [h8]
    unfold all26
    rw [if_neg (by omega), if_pos]
    · simp
    · rw [List.all_eq_true]
      intro v hv
      simpa using h2 v hv

/-- What a table makes of valid visibilities is valid. -/
theorem act_ck27 {g : List Cx} {l : List Vis} (h0 : ck27 l = 0) (hg : ∀ c ∈ g, okG c) (h8 : g.length = 8) (h : ∀ v ∈ l, (act1 g v).2 = 0) : ck27 (l.map fun v => v.set (act1 g v).1) = 0 := by
  obtain ⟨h1, h2, h3⟩ := ck27_0 h0
  have e : all26 (l.map fun v => v.set (act1 g v).1) 8 = 0 := by
    unfold all26
    rw [if_neg (by rw [List.length_map]; omega), if_pos]
    rw [List.all_eq_true]
    intro v hv
    rw [List.mem_map] at hv
    obtain ⟨u, hu, rfl⟩ := hv
    have hgood := h2 u hu
    have := (act1_ch hg h8 hgood (h u hu)).v
    exact decide_eq_true ⟨hgood.1, hgood.2.1, hgood.2.2.1, hgood.2.2.2.1, this⟩
  unfold ck27
  rw [if_neg (by simp [e]), if_pos]
  rw [List.map_map]
  exact h3

section
variable {g : List Cx} {l m : List Vis}

/-- A table's action, step by step. -/
structure Acts (g : List Cx) (l m : List Vis) : Prop where
  h0 : ck27 l = 0
  h1 : ck27 m = 0
  hg : ∀ c ∈ g, okG c
  h8 : g.length = 8
  st : ∀ i j, (got i j l = none ∧ got i j m = none) ∨ ∃ c c', got i j l = some c ∧ got i j m = some c' ∧ Ch g i j c c'

theorem acts_along (H : Acts g l m) (st : List Pr) : (along27 m st).2 = (along27 l st).2 := by
  unfold along27
  have e1 : st.all (fun s => (got s.a s.b m).isSome) = st.all (fun s => (got s.a s.b l).isSome) := by
    congr 1
    funext s
    rcases H.st s.a s.b with ⟨h1, h2⟩ | ⟨c, c', h1, h2, _⟩
    · rw [h1, h2]
    · rw [h1, h2]; rfl
  have e2 : st.any (fun s => decide (gD m s).zero) = st.any (fun s => decide (gD l s).zero) := by
    congr 1
    funext s
    unfold gD
    rcases H.st s.a s.b with ⟨h1, h2⟩ | ⟨c, c', h1, h2, h3⟩
    · rw [h1, h2]
    · rw [h1, h2]
      show decide c'.zero = decide c.zero
      rw [Bool.eq_iff_iff]; simp [h3.z]
  rw [e1, e2]
  split
  · split <;> rfl
  · rfl

theorem acts_ch (H : Acts g l m) {s : Pr} (h : (got s.a s.b l).isSome = true) : Ch g s.a s.b (gD l s) (gD m s) := by
  unfold gD
  rcases H.st s.a s.b with ⟨h1, h2⟩ | ⟨c, c', h1, h2, h3⟩
  · rw [h1] at h; cases h
  · rw [h1, h2]; exact h3

/-- No gains change phases. -/
theorem acts_phase (H : Acts g l m) (c : List Int) : ((phase l c).2 = (phase m c).2 ∨ (phase l c).2 = 16 ∨ (phase m c).2 = 16) ∧ ((phase l c).2 = 0 → (phase m c).2 = 0 → (phase l c).1 = (phase m c).1) := by
  by_cases hc : circle c
  · have ha := acts_along H (pairs c)
    refine ⟨?_, fun h1 h2 => ?_⟩
    · rcases phase_cases H.h0 hc with ⟨h1, h2⟩ | ⟨h1, h2⟩
      · rcases phase_cases H.h1 hc with ⟨k1, k2⟩ | ⟨k1, k2⟩
        · rw [h2, k2]; exact .inl ha.symm
        · exact absurd (ha.symm.trans k1) h1
      · rcases phase_cases H.h1 hc with ⟨k1, k2⟩ | ⟨k1, k2⟩
        · exact absurd (ha.trans h1) k1
        · rcases h2 with h2 | h2
          · rw [h2]; exact .inr (.inl rfl)
          · rcases k2 with k2 | k2
            · rw [k2]; exact .inr (.inr rfl)
            · rw [h2.1, k2.1]; exact .inl rfl
    · obtain ⟨_, d1, g1, p1⟩ := phase_ok H.h0 hc h1
      obtain ⟨_, d2, g2, p2⟩ := phase_ok H.h1 hc h2
      have hal : (along27 l (pairs c)).2 = 0 := by
        rcases phase_cases H.h0 hc with ⟨q1, q2⟩ | ⟨q1, _⟩
        · rw [q2] at h1; exact absurd h1 q1
        · exact q1
      obtain ⟨_, hgood, _⟩ := ck27_0 H.h0
      obtain ⟨_, e2, _⟩ := along27_0 hgood hal
      have hp : par (zprod ((pairs c).map (gD m))) (zprod ((pairs c).map (gD l))) := by
        rw [zprod_zpr, zprod_zpr, List.map_map, List.map_map]
        refine par_trans (zpr_par (h := fun s => zmul (zn (gD l s)) (zmul (zn (at_ g s.a)) (zconj (zn (at_ g s.b))))) fun s hs => (acts_ch H (e2 s hs)).p) ?_
        rw [zpr_mul (pairs c) (fun s => zn (gD l s)), zpr_mul (pairs c) (fun s => zn (at_ g s.a)), zpr_conj]
        have eA : (pairs c).map (fun s => zn (at_ g s.a)) = c.map fun i => zn (at_ g i) := by
          rw [show (fun s : Pr => zn (at_ g s.a)) = (fun i => zn (at_ g i)) ∘ Pr.a from rfl, ← List.map_map, (pairs_a hc.1 hc.2.1).1]
        have eB : zpr ((pairs c).map (fun s => zn (at_ g s.b))) = zpr (c.map fun i => zn (at_ g i)) := by
          rw [show (fun s : Pr => zn (at_ g s.b)) = (fun i => zn (at_ g i)) ∘ Pr.b from rfl, ← List.map_map, (pairs_a hc.1 hc.2.1).2]
          exact zpr_perm ((rot_perm c 1).map _)
        rw [eA, eB]
        refine par_real (nz_zpr fun z hz => ?_)
        rw [List.mem_map] at hz
        obtain ⟨i, hi, rfl⟩ := hz
        have hb := hc.2.2.1 i hi
        exact ns_pos (H.hg _ (at_mem hb.1 (by have := H.h8; omega))).2
      exact cx_of_zn (par_unique (par_trans p1 (par_symm (par_trans p2 hp))) g1 g2) (d1.trans d2.symm)
  · have e1 : phase l c = (c0, 2) := by rw [phase, if_neg (by simp [H.h0]), if_pos hc]
    have e2 : phase m c = (c0, 2) := by rw [phase, if_neg (by simp [H.h1]), if_pos hc]
    rw [e1, e2]
    exact ⟨.inl rfl, fun _ _ => rfl⟩

/-- No gains change amplitudes. -/
theorem acts_amp (H : Acts g l m) (a b c d : Int) : ((amp l a b c d).2 = (amp m a b c d).2 ∨ (amp l a b c d).2 = 16 ∨ (amp m a b c d).2 = 16) ∧ ((amp l a b c d).2 = 0 → (amp m a b c d).2 = 0 → (amp l a b c d).1 = (amp m a b c d).1) := by
  have ha := acts_along H [⟨a, b⟩, ⟨c, d⟩, ⟨a, c⟩, ⟨b, d⟩]
  refine ⟨?_, fun h h' => ?_⟩
  · rcases amp_cases H.h0 a b c d with ⟨p1, p2⟩ | ⟨p1, p2, p3⟩ | ⟨p1, p2, p3⟩
    · rcases amp_cases H.h1 a b c d with ⟨q1, q2⟩ | ⟨q1, q2, q3⟩ | ⟨q1, q2, q3⟩
      · rw [p2, q2]; exact .inl rfl
      · exact absurd q1 p1
      · exact absurd q1 p1
    · rcases amp_cases H.h1 a b c d with ⟨q1, q2⟩ | ⟨q1, q2, q3⟩ | ⟨q1, q2, q3⟩
      · exact absurd p1 q1
      · rw [p3, q3]; exact .inl ha.symm
      · exact absurd (ha.symm.trans q2) p2
    · rcases amp_cases H.h1 a b c d with ⟨q1, q2⟩ | ⟨q1, q2, q3⟩ | ⟨q1, q2, q3⟩
      · exact absurd p1 q1
      · exact absurd (ha.trans p2) q2
      · rcases p3 with p3 | p3
        · rw [p3]; exact .inr (.inl rfl)
        · rcases q3 with q3 | q3
          · rw [q3]; exact .inr (.inr rfl)
          · rw [p3.1, q3.1]; exact .inl rfl
  · obtain ⟨k0, k1, k2, k3, k4⟩ := amp_ok H.h0 h
    obtain ⟨_, q1, q2, q3, q4⟩ := amp_ok H.h1 h'
    obtain ⟨_, hgood, _⟩ := ck27_0 H.h0
    obtain ⟨_, e2, e3⟩ := along27_0 hgood k0
    have ap : apart [a, b, c, d] := by
      rcases amp_cases H.h0 a b c d with ⟨p1, p2⟩ | ⟨p1, _⟩ | ⟨p1, _⟩
      · rw [p2] at h; simp at h
      · exact p1
      · exact p1
    have gv : ∀ i ∈ [a, b, c, d], 0 < ns (at_ g i) ∧ 0 < ds (at_ g i) := fun i hi => by
      have hb := ap.1 i hi
      have := H.hg _ (at_mem hb.1 (by have := H.h8; omega))
      exact ⟨ns_pos this.2, ds_pos this.1⟩
    have na := gv a (by simp)
    have nb := gv b (by simp)
    have nc := gv c (by simp)
    have nd := gv d (by simp)
    have x1 := (acts_ch H (e2 ⟨a, b⟩ (by simp))).n
    have x2 := (acts_ch H (e2 ⟨c, d⟩ (by simp))).n
    have x3 := (acts_ch H (e2 ⟨a, c⟩ (by simp))).n
    have x4 := (acts_ch H (e2 ⟨b, d⟩ (by simp))).n
    simp only at x1 x2 x3 x4
    have hA := e3 ⟨a, b⟩ (by simp)
    have hB := e3 ⟨c, d⟩ (by simp)
    have hC := e3 ⟨a, c⟩ (by simp)
    have hD := e3 ⟨b, d⟩ (by simp)
    have u1 := prod4_pos (ds_pos hA.1) (ds_pos hB.1) (ns_pos hC.2) (ns_pos hD.2)
    have u2 := prod4_pos (ns_pos hA.2) (ns_pos hB.2) (ds_pos hC.1) (ds_pos hD.1)
    have v1 := (acts_ch H (e2 ⟨a, b⟩ (by simp)))
    have v2 := (acts_ch H (e2 ⟨c, d⟩ (by simp)))
    have v3 := (acts_ch H (e2 ⟨a, c⟩ (by simp)))
    have v4 := (acts_ch H (e2 ⟨b, d⟩ (by simp)))
    have u3 := prod4_pos (ns_pos fun h => hA.2 (v1.z.1 h)) (ns_pos fun h => hB.2 (v2.z.1 h)) (ds_pos v3.v) (ds_pos v4.v)
    clear v1 v2 v3 v4 hA hB hC hD
    have hfin : (amp l a b c d).1.num * (amp m a b c d).1.den = (amp m a b c d).1.num * (amp l a b c d).1.den := by
      generalize (amp l a b c d).1.num = N at *
      generalize (amp l a b c d).1.den = D at *
      generalize (amp m a b c d).1.num = N' at *
      generalize (amp m a b c d).1.den = D' at *
      generalize ns (gD l ⟨a, b⟩) = np at *
      generalize ds (gD l ⟨a, b⟩) = dp at *
      generalize ns (gD l ⟨c, d⟩) = nq at *
      generalize ds (gD l ⟨c, d⟩) = dq at *
      generalize ns (gD l ⟨a, c⟩) = nr at *
      generalize ds (gD l ⟨a, c⟩) = dr at *
      generalize ns (gD l ⟨b, d⟩) = nt at *
      generalize ds (gD l ⟨b, d⟩) = dt at *
      generalize ns (gD m ⟨a, b⟩) = np' at *
      generalize ds (gD m ⟨a, b⟩) = dp' at *
      generalize ns (gD m ⟨c, d⟩) = nq' at *
      generalize ds (gD m ⟨c, d⟩) = dq' at *
      generalize ns (gD m ⟨a, c⟩) = nr' at *
      generalize ds (gD m ⟨a, c⟩) = dr' at *
      generalize ns (gD m ⟨b, d⟩) = nt' at *
      generalize ds (gD m ⟨b, d⟩) = dt' at *
      generalize ns (at_ g a) = ga at *
      generalize ds (at_ g a) = ha at *
      generalize ns (at_ g b) = gb at *
      generalize ds (at_ g b) = hb at *
      generalize ns (at_ g c) = gc at *
      generalize ds (at_ g c) = hc at *
      generalize ns (at_ g d) = gd at *
      generalize ds (at_ g d) = hd at *
      have cross : (np' * nq' * (dr' * dt')) * (dp * dq * (nr * nt)) = (dp' * dq' * (nr' * nt')) * (np * nq * (dr * dt)) := by
        have hk : (ha * hb * (hc * hd)) * (ga * gb * (gc * gd)) ≠ 0 := by
          have := Int.mul_pos (prod4_pos na.2 nb.2 nc.2 nd.2) (prod4_pos na.1 nb.1 nc.1 nd.1)
          omega
        apply Int.eq_of_mul_eq_mul_right hk
        have t1 : (np' * nq' * (dr' * dt')) * (dp * dq * (nr * nt)) * ((ha * hb * (hc * hd)) * (ga * gb * (gc * gd))) = (np' * (dp * (ha * hb))) * (nq' * (dq * (hc * hd))) * ((dr' * (nr * (ga * gc))) * (dt' * (nt * (gb * gd)))) := by ac_rfl
        rw [t1, x1, x2, ← x3, ← x4]
        ac_rfl
      have hk : (np' * nq' * (dr' * dt')) * (dp * dq * (nr * nt)) ≠ 0 := by
        have := Int.mul_pos u3 u1
        omega
      apply Int.eq_of_mul_eq_mul_right hk
      generalize np' * nq' * (dr' * dt') = A' at *
      generalize dp * dq * (nr * nt) = B at *
      generalize dp' * dq' * (nr' * nt') = B' at *
      generalize np * nq * (dr * dt) = A at *
      have t1 : N * D' * (A' * B) = (N * B) * (D' * A') := by ac_rfl
      rw [t1, k4, ← q4, cross]
      ac_rfl
    have := frac_unique k1 k2 q1 q2 k3 q3 hfin
    cases hx : (amp l a b c d).1
    cases hy : (amp m a b c d).1
    rw [hx, hy] at this
    simp only at this
    simp [this.1, this.2]
end

theorem acts_of {g : List Cx} {l : List Vis} (h0 : ck27 l = 0) (h8 : g.length = 8) (h : (act26 g l).2 = 0) : Acts g l (act26 g l).1 := by
  obtain ⟨k1, k2, k3⟩ := act26_ok h
  obtain ⟨_, hgood, _⟩ := ck27_0 h0
  have hg := (ck26_0 k1).2.2
  rw [k2]
  exact ⟨h0, act_ck27 h0 hg h8 k3, hg, h8, got_act hg h8 hgood k3⟩

end Go.Pv

/- Norms under tables of gains, in plain Lean. -/
namespace Go.Pv
open Go.Vc

theorem nrm_frac {a : Cx} (ha : a.valid) (h : (nrm a).2 = 0) : (nrm a).1.num * ds a = (nrm a).1.den * ns a ∧ 0 < (nrm a).1.den ∧ 0 ≤ (nrm a).1.num := by
  rw [nrm, if_pos ha] at h ⊢
  split at h
  · cases h
  rename_i hle
  rw [if_neg hle]
  simp only
  have hd : 0 < a.den * a.den := Int.mul_pos (by have := ha.1; omega) (by have := ha.1; omega)
  have hn : 0 ≤ a.re * a.re + a.im * a.im := by have := sq_nonneg a.re; have := sq_nonneg a.im; omega
  have hns : ns a = a.re * a.re + a.im * a.im := rfl
  have hds : ds a = a.den * a.den := rfl
  rw [hns, hds]
  generalize a.re * a.re + a.im * a.im = n at *
  generalize a.den * a.den = d at *
  have hg : 0 < Int.gcd n d := Int.gcd_pos_of_ne_zero_right _ (by omega)
  obtain ⟨u, hu⟩ := Int.gcd_dvd_left n d
  obtain ⟨v, hv⟩ := Int.gcd_dvd_right n d
  generalize hG : (Int.gcd n d : Int) = G at *
  have hGp : 0 < G := by omega
  have e1 : n / G = u := by rw [hu]; exact Int.mul_ediv_cancel_left _ (by omega)
  have e2 : d / G = v := by rw [hv]; exact Int.mul_ediv_cancel_left _ (by omega)
  rw [e1, e2]
  refine ⟨by rw [hu, hv]; grind, ?_, ?_⟩
  · rw [hv] at hd
    exact Int.pos_of_mul_pos_right hd (by omega)
  · rw [hu] at hn
    exact Int.nonneg_of_mul_nonneg_right hn hGp

theorem act1_ok {g : List Cx} {v : Vis} (h : (act1 g v).2 = 0) : (mul (at_ g v.i) v.v).2 = 0 ∧ (mul (mul (at_ g v.i) v.v).1 (conj (at_ g v.j))).2 = 0 ∧ act1 g v = mul (mul (at_ g v.i) v.v).1 (conj (at_ g v.j)) := by
  unfold act1 at h ⊢
  split at h
  · cases h
  rename_i h1
  split at h
  · cases h
  rename_i h2
  rw [if_neg h1, if_neg h2]
  exact ⟨by omega, by omega, rfl⟩

theorem act1_valid {g : List Cx} (hg : ck26 g = 0) {v : Vis} (hv : v.good g.length) (h : (act1 g v).2 = 0) : (act1 g v).1.valid := by
  obtain ⟨_, _, hc⟩ := ck26_0 hg
  obtain ⟨h1, h2, h3⟩ := act1_ok h
  unfold Vis.good at hv
  have hi := (hc _ (at_mem (g := g) (i := v.i) (by omega) (by omega))).1
  have hj := (hc _ (at_mem (g := g) (i := v.j) (by omega) (by omega))).1
  rw [h3]
  exact (mul_ok (mul_ok hi hv.2.2.2.2 h1).2 (conj_valid hj) h2).2

theorem act1_ns {g : List Cx} (hg : ck26 g = 0) {v : Vis} (hv : v.good g.length) (h : (act1 g v).2 = 0) :
    ns (act1 g v).1 * (ds (at_ g v.i) * ds v.v * ds (at_ g v.j)) = ds (act1 g v).1 * (ns (at_ g v.i) * ns v.v * ns (at_ g v.j)) := by
  obtain ⟨_, _, hc⟩ := ck26_0 hg
  obtain ⟨h1, h2, h3⟩ := act1_ok h
  unfold Vis.good at hv
  have hi := (hc _ (at_mem (g := g) (i := v.i) (by omega) (by omega))).1
  have hj := (hc _ (at_mem (g := g) (i := v.j) (by omega) (by omega))).1
  have vp := (mul_ok hi hv.2.2.2.2 h1).2
  have e1 := mul_ns hi hv.2.2.2.2 h1
  have e2 := mul_ns vp (conj_valid hj) h2
  rw [ns_conj, ds_conj] at e2
  rw [h3]
  have hd := ds_pos vp
  generalize mul (mul (at_ g v.i) v.v).1 (conj (at_ g v.j)) = w at *
  generalize ns (mul (at_ g v.i) v.v).1 = np at *
  generalize ds (mul (at_ g v.i) v.v).1 = dp at *
  generalize ns w.1 = nw at *
  generalize ds w.1 = dw at *
  generalize ns (at_ g v.i) = ni at *
  generalize ds (at_ g v.i) = di at *
  generalize ns (at_ g v.j) = nj at *
  generalize ds (at_ g v.j) = dj at *
  generalize ns v.v = nv at *
  generalize ds v.v = dv at *
  have : dp * (nw * (di * dv * dj)) = dp * (dw * (ni * nv * nj)) := by grind
  exact Int.eq_of_mul_eq_mul_left (by omega) this

/-- Norms change by both gains. -/
theorem act1_norms {g : List Cx} (hg : ck26 g = 0) {v : Vis} (hv : v.good g.length) (h : (act1 g v).2 = 0)
    (hx : (nrm v.v).2 = 0) (hy : (nrm (act1 g v).1).2 = 0) (hp : (nrm (at_ g v.i)).2 = 0) (hq : (nrm (at_ g v.j)).2 = 0) :
    (nrm v.v).1.num * (nrm (at_ g v.i)).1.num * (nrm (at_ g v.j)).1.num * (nrm (act1 g v).1).1.den = (nrm v.v).1.den * (nrm (at_ g v.i)).1.den * (nrm (at_ g v.j)).1.den * (nrm (act1 g v).1).1.num := by
  have hw := act1_valid hg hv h
  have e := act1_ns hg hv h
  obtain ⟨_, _, hc⟩ := ck26_0 hg
  have hv' := hv
  unfold Vis.good at hv'
  have hi := (hc _ (at_mem (g := g) (i := v.i) (by omega) (by omega))).1
  have hj := (hc _ (at_mem (g := g) (i := v.j) (by omega) (by omega))).1
  obtain ⟨x1, x2, x3⟩ := nrm_frac hv'.2.2.2.2 hx
  obtain ⟨y1, y2, y3⟩ := nrm_frac hw hy
  obtain ⟨p1, p2, p3⟩ := nrm_frac hi hp
  obtain ⟨q1, q2, q3⟩ := nrm_frac hj hq
  have dv := ds_pos hv'.2.2.2.2
  have dw := ds_pos hw
  have di := ds_pos hi
  have dj := ds_pos hj
  generalize (nrm v.v).1.num = xn at *
  generalize (nrm v.v).1.den = xd at *
  generalize (nrm (act1 g v).1).1.num = yn at *
  generalize (nrm (act1 g v).1).1.den = yd at *
  generalize (nrm (at_ g v.i)).1.num = pn at *
  generalize (nrm (at_ g v.i)).1.den = pd at *
  generalize (nrm (at_ g v.j)).1.num = qn at *
  generalize (nrm (at_ g v.j)).1.den = qd at *
  generalize ns (act1 g v).1 = nw at *
  generalize ds (act1 g v).1 = dw' at *
  generalize ns (at_ g v.i) = ni at *
  generalize ds (at_ g v.i) = di' at *
  generalize ns (at_ g v.j) = nj at *
  generalize ds (at_ g v.j) = dj' at *
  generalize ns v.v = nv at *
  generalize ds v.v = dv' at *
  have hpos : 0 < dv' * di' * dj' * dw' := Int.mul_pos (Int.mul_pos (Int.mul_pos dv di) dj) dw
  have k : (dv' * di' * dj' * dw') * (xn * pn * qn * yd) = (dv' * di' * dj' * dw') * (xd * pd * qd * yn) := by
    have l : (dv' * di' * dj' * dw') * (xn * pn * qn * yd) = (xn * dv') * (pn * di') * (qn * dj') * (yd * dw') := by grind
    have r : (dv' * di' * dj' * dw') * (xd * pd * qd * yn) = (yn * dw') * (xd * pd * qd * (di' * dv' * dj')) := by grind
    rw [l, r, x1, p1, q1, y1]
    have : yd * (xd * pd * qd) * (dw' * (ni * nv * nj)) = yd * (xd * pd * qd) * (nw * (di' * dv' * dj')) := by rw [e]
    grind
  exact Int.eq_of_mul_eq_mul_left (by omega) k

theorem le_max_if (a b c : Int) : (if b > a then b else a) ≤ c ↔ a ≤ c ∧ b ≤ c := by
  split <;> omega

theorem four_bound {a b c d : Int} (ha : 0 ≤ a ∧ a ≤ 10000) (hb : 0 ≤ b ∧ b ≤ 10000) (hc : 0 ≤ c ∧ c ≤ 10000) (hd : 0 ≤ d ∧ d ≤ 10000) :
    IntKind.i64.wrap (IntKind.i64.wrap (IntKind.i64.wrap (a * b) * c) * d) = a * b * c * d := by
  have b1 : 0 ≤ a * b ∧ a * b ≤ 100000000 := ⟨Int.mul_nonneg ha.1 hb.1, by have := Int.mul_le_mul ha.2 hb.2 hb.1 (by omega); omega⟩
  have b2 : 0 ≤ a * b * c ∧ a * b * c ≤ 1000000000000 := ⟨Int.mul_nonneg b1.1 hc.1, by have := Int.mul_le_mul b1.2 hc.2 hc.1 (by omega); omega⟩
  have b3 : 0 ≤ a * b * c * d ∧ a * b * c * d ≤ 10000000000000000 := ⟨Int.mul_nonneg b2.1 hd.1, by have := Int.mul_le_mul b2.2 hd.2 hd.1 (by omega); omega⟩
  rw [wrap_id (n := a * b) (by omega) (by omega), wrap_id (n := a * b * c) (by omega) (by omega), wrap_id (by omega) (by omega)]

theorem act26_len {g : List Cx} {l : List Vis} (h : (act26 g l).2 = 0) : (act26 g l).1.length = l.length := by
  rw [(act26_ok h).2.1]; simp

theorem act26_err' {g : List Cx} {l : List Vis} (h0 : ck26 g = 0) (h1 : all26 l g.length = 0) : (act26 g l).2 = 0 ∨ act26 g l = ([], 16) := by
  rw [act26, if_neg (by simp [h0]), if_neg (by simp [h1])]
  split
  · exact .inl rfl
  · exact .inr rfl
end Go.Pv

/- Complex numbers with rational parts: what the machine's numbers mean. -/
namespace Go.Pv
open Go.Vc

def vre (c : Cx) : Rat := (c.re : Rat) / (c.den : Rat)
def vim (c : Cx) : Rat := (c.im : Rat) / (c.den : Rat)

theorem cast_ne {n : Int} (h : 0 < n) : (n : Rat) ≠ 0 := by
  intro e
  have : (n : Rat) = ((0 : Int) : Rat) := by rw [e]; rfl
  rw [Rat.intCast_inj] at this
  omega

theorem vden {c : Cx} (h : c.valid) : (c.den : Rat) ≠ 0 := cast_ne (by have := h.1; omega)

theorem norm_v {x y z : Int} (hz : 0 < z) : vre (norm x y z) = (x : Rat) / (z : Rat) ∧ vim (norm x y z) = (y : Rat) / (z : Rat) := by
  obtain ⟨g, hg, e1, e2, e3, hd, _⟩ := norm_spec (x := x) (y := y) hz
  have hg' : ((g : Int) : Rat) ≠ 0 := cast_ne (by omega)
  have hd' : ((norm x y z).den : Rat) ≠ 0 := cast_ne hd
  have c1 : (x : Rat) = ((norm x y z).re : Rat) * ((g : Int) : Rat) := by rw [← Rat.intCast_mul, ← e1]
  have c2 : (y : Rat) = ((norm x y z).im : Rat) * ((g : Int) : Rat) := by rw [← Rat.intCast_mul, ← e2]
  have c3 : (z : Rat) = ((norm x y z).den : Rat) * ((g : Int) : Rat) := by rw [← Rat.intCast_mul, ← e3]
  unfold vre vim
  rw [c1, c2, c3]
  generalize ((norm x y z).re : Rat) = a at *
  generalize ((norm x y z).im : Rat) = b at *
  generalize ((norm x y z).den : Rat) = c at *
  generalize ((g : Int) : Rat) = d at *
  constructor <;> grind

theorem make_v {x y z : Int} (hz : 0 < z) (h : (make x y z).2 = 0) : vre (make x y z).1 = (x : Rat) / (z : Rat) ∧ vim (make x y z).1 = (y : Rat) / (z : Rat) ∧ (make x y z).1.valid := by
  obtain ⟨h1, h2⟩ := make_ok hz h
  rw [h1]
  exact ⟨(norm_v hz).1, (norm_v hz).2, h2⟩

/-- Numbers with the same value are the same. -/
theorem v_inj {a b : Cx} (ha : a.valid) (hb : b.valid) (h1 : vre a = vre b) (h2 : vim a = vim b) : a = b := by
  have da := vden ha
  have db := vden hb
  unfold vre at h1
  unfold vim at h2
  refine Cx.eq_of ha hb ?_ ?_
  · rw [← Rat.intCast_inj, Rat.intCast_mul, Rat.intCast_mul]; grind
  · rw [← Rat.intCast_inj, Rat.intCast_mul, Rat.intCast_mul]; grind

theorem mul_v {a b : Cx} (ha : a.valid) (hb : b.valid) (h : (mul a b).2 = 0) : vre (mul a b).1 = vre a * vre b - vim a * vim b ∧ vim (mul a b).1 = vre a * vim b + vim a * vre b ∧ (mul a b).1.valid := by
  have da := vden ha
  have db := vden hb
  rw [mul, if_pos ⟨ha, hb⟩] at h ⊢
  obtain ⟨h1, h2, h3⟩ := make_v (mul_pos' ha.1 hb.1) h
  rw [h1, h2]
  unfold vre vim
  simp only [Rat.intCast_mul, Rat.intCast_sub, Rat.intCast_add]
  exact ⟨by grind, by grind, h3⟩

theorem add_v {a b : Cx} (ha : a.valid) (hb : b.valid) (h : (add a b).2 = 0) : vre (add a b).1 = vre a + vre b ∧ vim (add a b).1 = vim a + vim b ∧ (add a b).1.valid := by
  have da := vden ha
  have db := vden hb
  rw [add, if_pos ⟨ha, hb⟩] at h ⊢
  obtain ⟨h1, h2, h3⟩ := make_v (mul_pos' ha.1 hb.1) h
  rw [h1, h2]
  unfold vre vim
  simp only [Rat.intCast_mul, Rat.intCast_sub, Rat.intCast_add]
  exact ⟨by grind, by grind, h3⟩

theorem sub_v {a b : Cx} (ha : a.valid) (hb : b.valid) (h : (sub a b).2 = 0) : vre (sub a b).1 = vre a - vre b ∧ vim (sub a b).1 = vim a - vim b ∧ (sub a b).1.valid := by
  have da := vden ha
  have db := vden hb
  rw [sub, if_pos ⟨ha, hb⟩] at h ⊢
  obtain ⟨h1, h2, h3⟩ := make_v (mul_pos' ha.1 hb.1) h
  rw [h1, h2]
  unfold vre vim
  simp only [Rat.intCast_mul, Rat.intCast_sub, Rat.intCast_add]
  exact ⟨by grind, by grind, h3⟩

theorem conj_v (a : Cx) : vre (conj a) = vre a ∧ vim (conj a) = - vim a := by
  unfold vre vim conj
  simp only [Rat.intCast_neg]
  exact ⟨trivial, by grind⟩

theorem zero_v {a : Cx} (ha : a.valid) : a.zero ↔ vre a = 0 ∧ vim a = 0 := by
  have da := vden ha
  have z : ∀ n : Int, (n : Rat) = 0 ↔ n = 0 := fun n => by
    rw [← Rat.intCast_inj]; rfl
  unfold vre vim Cx.zero
  rw [← z a.re, ← z a.im]
  constructor
  · rintro ⟨h1, h2⟩; exact ⟨by rw [h1]; grind, by rw [h2]; grind⟩
  · rintro ⟨h1, h2⟩; exact ⟨by grind, by grind⟩

theorem ns_pos_of {a : Cx} (hz : ¬ a.zero) : 0 < a.re * a.re + a.im * a.im := ns_pos hz

theorem v_nz {a : Cx} (ha : a.valid) (hz : ¬ a.zero) : vre a * vre a + vim a * vim a ≠ 0 := by
  have da := vden ha
  have hp : ((a.re * a.re + a.im * a.im : Int) : Rat) ≠ 0 := cast_ne (ns_pos_of hz)
  simp only [Rat.intCast_mul, Rat.intCast_add] at hp
  unfold vre vim
  intro e
  apply hp
  have : ((a.re : Rat) * a.re + (a.im : Rat) * a.im) = ((a.re : Rat) / a.den * (a.re / a.den) + (a.im : Rat) / a.den * (a.im / a.den)) * ((a.den : Rat) * a.den) := by grind
  rw [this, e]; grind

theorem div_v {a b : Cx} (ha : a.valid) (hb : b.valid) (hz : ¬ b.zero) (h : (div a b).2 = 0) :
    vre (div a b).1 * (vre b * vre b + vim b * vim b) = vre a * vre b + vim a * vim b ∧ vim (div a b).1 * (vre b * vre b + vim b * vim b) = vim a * vre b - vre a * vim b ∧ (div a b).1.valid := by
  have da := vden ha
  have db := vden hb
  have hp : ((b.re * b.re + b.im * b.im : Int) : Rat) ≠ 0 := cast_ne (ns_pos_of hz)
  have hpos : 0 < (b.re * b.re + b.im * b.im) * a.den := Int.mul_pos (ns_pos_of hz) (by have := ha.1; omega)
  rw [div, if_pos ⟨ha, hb⟩, if_neg hz] at h ⊢
  obtain ⟨h1, h2, h3⟩ := make_v hpos h
  rw [h1, h2]
  unfold vre vim
  simp only [Rat.intCast_mul, Rat.intCast_sub, Rat.intCast_add] at hp ⊢
  exact ⟨by grind, by grind, h3⟩

/-- A product is 0 only if a factor is. -/
theorem v_mul_nz {a b c : Cx} (ha : a.valid) (hb : b.valid) (hc : c.valid) (za : ¬ a.zero) (zb : ¬ b.zero) (h1 : vre c = vre a * vre b - vim a * vim b) (h2 : vim c = vre a * vim b + vim a * vre b) : ¬ c.zero := by
  intro hz
  rw [zero_v hc] at hz
  have na := v_nz ha za
  have nb := v_nz hb zb
  have : (vre a * vre a + vim a * vim a) * (vre b * vre b + vim b * vim b) = 0 := by
    have e : (vre a * vre a + vim a * vim a) * (vre b * vre b + vim b * vim b) = vre c * vre c + vim c * vim c := by rw [h1, h2]; grind
    rw [e, hz.1, hz.2]; grind
  grind
end Go.Pv

/- Matrices of stations: what they mean, over the rationals. -/
namespace Go.Pv
open Go.Vc

/-- A 2 by 2 matrix of complex numbers with rational parts. -/
structure Mx where
  ar : Rat
  ai : Rat
  br : Rat
  bi : Rat
  cr : Rat
  ci : Rat
  dr : Rat
  di : Rat

def mm (x y : Mx) : Mx where
  ar := (x.ar * y.ar - x.ai * y.ai) + (x.br * y.cr - x.bi * y.ci)
  ai := (x.ar * y.ai + x.ai * y.ar) + (x.br * y.ci + x.bi * y.cr)
  br := (x.ar * y.br - x.ai * y.bi) + (x.br * y.dr - x.bi * y.di)
  bi := (x.ar * y.bi + x.ai * y.br) + (x.br * y.di + x.bi * y.dr)
  cr := (x.cr * y.ar - x.ci * y.ai) + (x.dr * y.cr - x.di * y.ci)
  ci := (x.cr * y.ai + x.ci * y.ar) + (x.dr * y.ci + x.di * y.cr)
  dr := (x.cr * y.br - x.ci * y.bi) + (x.dr * y.dr - x.di * y.di)
  di := (x.cr * y.bi + x.ci * y.br) + (x.dr * y.di + x.di * y.dr)

def madj (x : Mx) : Mx := ⟨x.ar, -x.ai, x.cr, -x.ci, x.br, -x.bi, x.dr, -x.di⟩
def m1 : Mx := ⟨1, 0, 0, 0, 0, 0, 1, 0⟩
def mdet (x : Mx) : Rat × Rat := ((x.ar * x.dr - x.ai * x.di) - (x.br * x.cr - x.bi * x.ci), (x.ar * x.di + x.ai * x.dr) - (x.br * x.ci + x.bi * x.cr))
def mtr (x : Mx) : Rat × Rat := (x.ar + x.dr, x.ai + x.di)

theorem Mx.ext' {x y : Mx} (h1 : x.ar = y.ar) (h2 : x.ai = y.ai) (h3 : x.br = y.br) (h4 : x.bi = y.bi) (h5 : x.cr = y.cr) (h6 : x.ci = y.ci) (h7 : x.dr = y.dr) (h8 : x.di = y.di) : x = y := by
  cases x; cases y; simp_all

theorem mm_assoc (x y z : Mx) : mm (mm x y) z = mm x (mm y z) := by
  apply Mx.ext' <;> simp only [mm] <;> grind

theorem mm_one (x : Mx) : mm x m1 = x := by
  apply Mx.ext' <;> simp only [mm, m1] <;> grind

theorem one_mm (x : Mx) : mm m1 x = x := by
  apply Mx.ext' <;> simp only [mm, m1] <;> grind

theorem madj_mm (x y : Mx) : madj (mm x y) = mm (madj y) (madj x) := by
  apply Mx.ext' <;> simp only [mm, madj] <;> grind

theorem madj_madj (x : Mx) : madj (madj x) = x := by
  apply Mx.ext' <;> simp only [madj] <;> grind

theorem madj_one : madj m1 = m1 := by
  apply Mx.ext' <;> simp only [madj, m1] <;> grind

theorem mtr_mm (x y : Mx) : mtr (mm x y) = mtr (mm y x) := by
  apply Prod.ext <;> simp only [mtr, mm] <;> grind

theorem mdet_mm (x y : Mx) : mdet (mm x y) = ((mdet x).1 * (mdet y).1 - (mdet x).2 * (mdet y).2, (mdet x).1 * (mdet y).2 + (mdet x).2 * (mdet y).1) := by
  apply Prod.ext <;> simp only [mdet, mm] <;> grind

/-- What a matrix of the machine means. -/
def jv (m : Jn) : Mx := ⟨vre m.a, vim m.a, vre m.b, vim m.b, vre m.c, vim m.c, vre m.d, vim m.d⟩

theorem jv_inj {a b : Jn} (ha : a.valid) (hb : b.valid) (h : jv a = jv b) : a = b := by
  obtain ⟨a1, a2, a3, a4⟩ := ha
  obtain ⟨b1, b2, b3, b4⟩ := hb
  unfold jv at h
  simp only [Mx.mk.injEq] at h
  obtain ⟨h1, h2, h3, h4, h5, h6, h7, h8⟩ := h
  have e1 := v_inj a1 b1 h1 h2
  have e2 := v_inj a2 b2 h3 h4
  have e3 := v_inj a3 b3 h5 h6
  have e4 := v_inj a4 b4 h7 h8
  cases a; cases b; simp_all

theorem two_ok {j : Cx → Cx → Cx × Int} {a b c d : Cx} (h : (two j a b c d).2 = 0) : (mul a b).2 = 0 ∧ (mul c d).2 = 0 ∧ (j (mul a b).1 (mul c d).1).2 = 0 ∧ two j a b c d = j (mul a b).1 (mul c d).1 := by
  unfold two at h ⊢
  split at h
  · rename_i h'; exact absurd h h'
  · rename_i h1
    rw [if_neg h1]
    split at h
    · rename_i h'; exact absurd h h'
    · rename_i h2
      rw [if_neg h2]
      exact ⟨by simpa using h1, by simpa using h2, h, rfl⟩

theorem two_add_v {a b c d : Cx} (ha : a.valid) (hb : b.valid) (hc : c.valid) (hd : d.valid) (h : (two add a b c d).2 = 0) :
    vre (two add a b c d).1 = (vre a * vre b - vim a * vim b) + (vre c * vre d - vim c * vim d) ∧ vim (two add a b c d).1 = (vre a * vim b + vim a * vre b) + (vre c * vim d + vim c * vre d) ∧ (two add a b c d).1.valid := by
  obtain ⟨h1, h2, h3, h4⟩ := two_ok h
  obtain ⟨p1, p2, p3⟩ := mul_v ha hb h1
  obtain ⟨q1, q2, q3⟩ := mul_v hc hd h2
  obtain ⟨r1, r2, r3⟩ := add_v p3 q3 h3
  rw [h4, r1, r2, p1, p2, q1, q2]
  exact ⟨rfl, rfl, r3⟩

theorem two_sub_v {a b c d : Cx} (ha : a.valid) (hb : b.valid) (hc : c.valid) (hd : d.valid) (h : (two sub a b c d).2 = 0) :
    vre (two sub a b c d).1 = (vre a * vre b - vim a * vim b) - (vre c * vre d - vim c * vim d) ∧ vim (two sub a b c d).1 = (vre a * vim b + vim a * vre b) - (vre c * vim d + vim c * vre d) ∧ (two sub a b c d).1.valid := by
  obtain ⟨h1, h2, h3, h4⟩ := two_ok h
  obtain ⟨p1, p2, p3⟩ := mul_v ha hb h1
  obtain ⟨q1, q2, q3⟩ := mul_v hc hd h2
  obtain ⟨r1, r2, r3⟩ := sub_v p3 q3 h3
  rw [h4, r1, r2, p1, p2, q1, q2]
  exact ⟨rfl, rfl, r3⟩

theorem seq4_okM {f : Nat → Cx × Int} (h : (seq4 f).2 = 0) : (f 0).2 = 0 ∧ (f 1).2 = 0 ∧ (f 2).2 = 0 ∧ (f 3).2 = 0 ∧ seq4 f = (⟨(f 0).1, (f 1).1, (f 2).1, (f 3).1⟩, 0) := by
  unfold seq4 at h ⊢
  split at h
  · rename_i h'; exact absurd h h'
  rename_i h0; rw [if_neg h0]
  split at h
  · rename_i h'; exact absurd h h'
  rename_i h1; rw [if_neg h1]
  split at h
  · rename_i h'; exact absurd h h'
  rename_i h2; rw [if_neg h2]
  split at h
  · rename_i h'; exact absurd h h'
  rename_i h3; rw [if_neg h3]
  exact ⟨by simpa using h0, by simpa using h1, by simpa using h2, by simpa using h3, rfl⟩

theorem jmul_v {a b : Jn} (h : (jmul a b).2 = 0) : a.valid ∧ b.valid ∧ (jmul a b).1.valid ∧ jv (jmul a b).1 = mm (jv a) (jv b) := by
  unfold jmul at h ⊢
  split at h
  · rename_i hv
    rw [if_pos hv]
    obtain ⟨h0, h1, h2, h3, e⟩ := seq4_okM h
    rw [e]
    obtain ⟨⟨a1, a2, a3, a4⟩, ⟨b1, b2, b3, b4⟩⟩ := hv
    obtain ⟨p1, p2, p3⟩ := two_add_v a1 b1 a2 b3 h0
    obtain ⟨q1, q2, q3⟩ := two_add_v a1 b2 a2 b4 h1
    obtain ⟨r1, r2, r3⟩ := two_add_v a3 b1 a4 b3 h2
    obtain ⟨s1, s2, s3⟩ := two_add_v a3 b2 a4 b4 h3
    refine ⟨⟨a1, a2, a3, a4⟩, ⟨b1, b2, b3, b4⟩, ⟨p3, q3, r3, s3⟩, ?_⟩
    exact Mx.ext' p1 p2 q1 q2 r1 r2 s1 s2
  · simp at h

theorem jadj_v {a : Jn} (h : a.valid) : (jadj a).2 = 0 ∧ (jadj a).1.valid ∧ jv (jadj a).1 = madj (jv a) := by
  rw [jadj, if_pos h]
  obtain ⟨a1, a2, a3, a4⟩ := h
  refine ⟨rfl, ⟨conj_valid a1, conj_valid a3, conj_valid a2, conj_valid a4⟩, ?_⟩
  apply Mx.ext'
  · exact (conj_v a.a).1
  · exact (conj_v a.a).2
  · exact (conj_v a.c).1
  · exact (conj_v a.c).2
  · exact (conj_v a.b).1
  · exact (conj_v a.b).2
  · exact (conj_v a.d).1
  · exact (conj_v a.d).2

theorem jdet_v {a : Jn} (h : (jdet a).2 = 0) : a.valid ∧ (jdet a).1.valid ∧ (vre (jdet a).1, vim (jdet a).1) = mdet (jv a) := by
  unfold jdet at h ⊢
  split at h
  · rename_i hv
    rw [if_pos hv]
    obtain ⟨p1, p2, p3⟩ := two_sub_v hv.1 hv.2.2.2 hv.2.1 hv.2.2.1 h
    exact ⟨hv, p3, by rw [p1, p2]; rfl⟩
  · simp at h

theorem jtr_v {a : Jn} (h : (jtr a).2 = 0) : a.valid ∧ (jtr a).1.valid ∧ (vre (jtr a).1, vim (jtr a).1) = mtr (jv a) := by
  unfold jtr at h ⊢
  split at h
  · rename_i hv
    rw [if_pos hv]
    obtain ⟨p1, p2, p3⟩ := add_v hv.1 hv.2.2.2 h
    exact ⟨hv, p3, by rw [p1, p2]; rfl⟩
  · simp at h

theorem jreg_okM {a : Jn} (h : (jreg a).2 = 0) : (jdet a).2 = 0 ∧ ¬ (jdet a).1.zero ∧ jreg a = ((jdet a).1, 0) := by
  unfold jreg at h ⊢
  split at h
  · rename_i h'; exact absurd h h'
  rename_i h0; rw [if_neg h0]
  split at h
  · simp at h
  rename_i h1; rw [if_neg h1]
  exact ⟨by simpa using h0, h1, rfl⟩

theorem neg_v (a : Cx) : vre (neg a) = - vre a ∧ vim (neg a) = - vim a := by
  unfold vre vim neg
  simp only [Rat.intCast_neg]
  exact ⟨by grind, by grind⟩

theorem neg_validM {a : Cx} (h : a.valid) : (neg a).valid := by
  obtain ⟨h1, h2, h3, h4, h5⟩ := h
  refine ⟨h1, h2, by unfold fits at *; simp only [neg]; omega, by unfold fits at *; simp only [neg]; omega, ?_⟩
  unfold g3 at h5 ⊢
  simpa [neg] using h5

/-- What a quotient is, multiplied out. -/
theorem div_back {a b : Cx} (ha : a.valid) (hb : b.valid) (hz : ¬ b.zero) (h : (div a b).2 = 0) :
    vre (div a b).1 * vre b - vim (div a b).1 * vim b = vre a ∧ vre (div a b).1 * vim b + vim (div a b).1 * vre b = vim a ∧ (div a b).1.valid := by
  obtain ⟨h1, h2, h3⟩ := div_v ha hb hz h
  have nz := v_nz hb hz
  exact ⟨by grind, by grind, h3⟩

/-- A number that is not 0 may be struck. -/
theorem strike {x y d e p q : Rat} (hd : d * d + e * e ≠ 0) (h1 : x * d - y * e = p * d - q * e) (h2 : x * e + y * d = p * e + q * d) : x = p ∧ y = q := by
  have k1 : (x - p) * (d * d + e * e) = 0 := by grind
  have k2 : (y - q) * (d * d + e * e) = 0 := by grind
  constructor <;> grind

theorem jinv_v {a : Jn} (h : (jinv a).2 = 0) : a.valid ∧ (jinv a).1.valid ∧ mm (jv a) (jv (jinv a).1) = m1 ∧ mm (jv (jinv a).1) (jv a) = m1 ∧ ¬ (jdet a).1.zero ∧ (jdet a).2 = 0 := by
  unfold jinv at h ⊢
  split at h
  · rename_i h'; exact absurd h h'
  rename_i hr
  rw [if_neg hr]
  have hr : (jreg a).2 = 0 := by simpa using hr
  obtain ⟨d0, dz, de⟩ := jreg_okM hr
  obtain ⟨hv, dv, dd⟩ := jdet_v d0
  rw [de] at h ⊢
  obtain ⟨h0, h1, h2, h3, e⟩ := seq4_okM h
  rw [e]
  obtain ⟨a1, a2, a3, a4⟩ := hv
  obtain ⟨p1, p2, p3⟩ := div_back a4 dv dz h0
  obtain ⟨q1, q2, q3⟩ := div_back (neg_validM a2) dv dz h1
  obtain ⟨r1, r2, r3⟩ := div_back (neg_validM a3) dv dz h2
  obtain ⟨s1, s2, s3⟩ := div_back a1 dv dz h3
  rw [(neg_v _).1] at q1 r1
  rw [(neg_v _).2] at q2 r2
  have nz := v_nz dv dz
  have e1 := congrArg Prod.fst dd
  have e2 := congrArg Prod.snd dd
  simp only [mdet, jv] at e1 e2
  refine ⟨⟨a1, a2, a3, a4⟩, ⟨p3, q3, r3, s3⟩, ?_, ?_, dz, d0⟩
  · have k := fun x y p q => @strike x y (vre (jdet a).1) (vim (jdet a).1) p q nz
    obtain ⟨u1, u2⟩ := k (mm (jv a) (jv ⟨(jient a (jdet a).1 0).1, (jient a (jdet a).1 1).1, (jient a (jdet a).1 2).1, (jient a (jdet a).1 3).1⟩)).ar (mm (jv a) (jv ⟨(jient a (jdet a).1 0).1, (jient a (jdet a).1 1).1, (jient a (jdet a).1 2).1, (jient a (jdet a).1 3).1⟩)).ai 1 0 (by simp only [mm, jv, jient]; grind) (by simp only [mm, jv, jient]; grind)
    obtain ⟨u3, u4⟩ := k (mm (jv a) (jv ⟨(jient a (jdet a).1 0).1, (jient a (jdet a).1 1).1, (jient a (jdet a).1 2).1, (jient a (jdet a).1 3).1⟩)).br (mm (jv a) (jv ⟨(jient a (jdet a).1 0).1, (jient a (jdet a).1 1).1, (jient a (jdet a).1 2).1, (jient a (jdet a).1 3).1⟩)).bi 0 0 (by simp only [mm, jv, jient]; grind) (by simp only [mm, jv, jient]; grind)
    obtain ⟨u5, u6⟩ := k (mm (jv a) (jv ⟨(jient a (jdet a).1 0).1, (jient a (jdet a).1 1).1, (jient a (jdet a).1 2).1, (jient a (jdet a).1 3).1⟩)).cr (mm (jv a) (jv ⟨(jient a (jdet a).1 0).1, (jient a (jdet a).1 1).1, (jient a (jdet a).1 2).1, (jient a (jdet a).1 3).1⟩)).ci 0 0 (by simp only [mm, jv, jient]; grind) (by simp only [mm, jv, jient]; grind)
    obtain ⟨u7, u8⟩ := k (mm (jv a) (jv ⟨(jient a (jdet a).1 0).1, (jient a (jdet a).1 1).1, (jient a (jdet a).1 2).1, (jient a (jdet a).1 3).1⟩)).dr (mm (jv a) (jv ⟨(jient a (jdet a).1 0).1, (jient a (jdet a).1 1).1, (jient a (jdet a).1 2).1, (jient a (jdet a).1 3).1⟩)).di 1 0 (by simp only [mm, jv, jient]; grind) (by simp only [mm, jv, jient]; grind)
    exact Mx.ext' u1 u2 u3 u4 u5 u6 u7 u8
  · have k := fun x y p q => @strike x y (vre (jdet a).1) (vim (jdet a).1) p q nz
    obtain ⟨u1, u2⟩ := k (mm (jv ⟨(jient a (jdet a).1 0).1, (jient a (jdet a).1 1).1, (jient a (jdet a).1 2).1, (jient a (jdet a).1 3).1⟩) (jv a)).ar (mm (jv ⟨(jient a (jdet a).1 0).1, (jient a (jdet a).1 1).1, (jient a (jdet a).1 2).1, (jient a (jdet a).1 3).1⟩) (jv a)).ai 1 0 (by simp only [mm, jv, jient]; grind) (by simp only [mm, jv, jient]; grind)
    obtain ⟨u3, u4⟩ := k (mm (jv ⟨(jient a (jdet a).1 0).1, (jient a (jdet a).1 1).1, (jient a (jdet a).1 2).1, (jient a (jdet a).1 3).1⟩) (jv a)).br (mm (jv ⟨(jient a (jdet a).1 0).1, (jient a (jdet a).1 1).1, (jient a (jdet a).1 2).1, (jient a (jdet a).1 3).1⟩) (jv a)).bi 0 0 (by simp only [mm, jv, jient]; grind) (by simp only [mm, jv, jient]; grind)
    obtain ⟨u5, u6⟩ := k (mm (jv ⟨(jient a (jdet a).1 0).1, (jient a (jdet a).1 1).1, (jient a (jdet a).1 2).1, (jient a (jdet a).1 3).1⟩) (jv a)).cr (mm (jv ⟨(jient a (jdet a).1 0).1, (jient a (jdet a).1 1).1, (jient a (jdet a).1 2).1, (jient a (jdet a).1 3).1⟩) (jv a)).ci 0 0 (by simp only [mm, jv, jient]; grind) (by simp only [mm, jv, jient]; grind)
    obtain ⟨u7, u8⟩ := k (mm (jv ⟨(jient a (jdet a).1 0).1, (jient a (jdet a).1 1).1, (jient a (jdet a).1 2).1, (jient a (jdet a).1 3).1⟩) (jv a)).dr (mm (jv ⟨(jient a (jdet a).1 0).1, (jient a (jdet a).1 1).1, (jient a (jdet a).1 2).1, (jient a (jdet a).1 3).1⟩) (jv a)).di 1 0 (by simp only [mm, jv, jient]; grind) (by simp only [mm, jv, jient]; grind)
    exact Mx.ext' u1 u2 u3 u4 u5 u6 u7 u8
end Go.Pv

/- Events that spoil data, in plain Lean. -/
namespace Go.Pv
open Go.Vc

structure Spo where
  kind : Int
  st : Int
  fr : Int
  to : Int
  v : Cx
  q : Int
deriving DecidableEq

instance : Enc Spo where
  sz := 8
  cs s := [u8 s.kind, i64 s.st, i64 s.fr, i64 s.to, i64 s.v.re, i64 s.v.im, i64 s.v.den, i64 s.q]
  ok s := (0 ≤ s.kind ∧ s.kind ≤ 255) ∧ I64 s.st ∧ I64 s.fr ∧ I64 s.to ∧ Enc.ok s.v ∧ I64 s.q
  len _ := rfl
  pos := by decide

abbrev spo (s : Spo) : PV := .agg [u8 s.kind, i64 s.st, i64 s.fr, i64 s.to, i64 s.v.re, i64 s.v.im, i64 s.v.den, i64 s.q]

def Spo.ok (s : Spo) : Prop := 0 ≤ s.st ∧ s.st < 8 ∧ 0 ≤ s.fr ∧ s.fr ≤ s.to ∧ s.to ≤ 32 ∧
  ((s.kind = 1 ∧ s.q = 0 ∧ s.v.valid ∧ ¬ s.v.zero) ∨ ((s.kind = 2 ∨ s.kind = 3) ∧ s.v = c0 ∧ 0 ≤ s.q ∧ s.q ≤ 3))
instance (s : Spo) : Decidable s.ok := by unfold Spo.ok; infer_instance

/-- The number of an event at a time. -/
def num (s : Spo) (t : Int) : Cx := if t < s.fr ∨ s.to ≤ t then one else if s.kind = 1 then s.v else rotN (quart (if s.kind = 3 then s.q * (t - s.fr) else s.q)) one

theorem quart_lt (q : Int) : quart q < 4 := by
  unfold quart
  have h1 : -4 < q.tmod 4 ∧ q.tmod 4 < 4 := by
    have e := Int.tmod_eq_emod (a := q) (b := 4)
    split at e <;> omega
  have h2 : 0 ≤ (q.tmod 4 + 4).tmod 4 ∧ (q.tmod 4 + 4).tmod 4 < 4 := by
    rw [Int.tmod_eq_emod_of_nonneg (by omega)]; omega
  omega

theorem one_validK : one.valid := by decide

theorem rotN_one {k : Nat} (h : k < 4) : (rotN k one).valid := by
  obtain rfl | rfl | rfl | rfl : k = 0 ∨ k = 1 ∨ k = 2 ∨ k = 3 := by omega
  all_goals decide

theorem num_valid {s : Spo} (h : s.ok) (t : Int) : (num s t).valid := by
  unfold num
  split
  · exact one_validK
  · split
    · rename_i hk
      rcases h.2.2.2.2.2 with h | h
      · exact h.2.2.1
      · omega
    · exact rotN_one (quart_lt _)

/-- One more factor. -/
def accStep (a : Cx × Int) (x : Cx) : Cx × Int := if a.2 ≠ 0 then a else if (mul a.1 x).2 ≠ 0 then (c0, 16) else ((mul a.1 x).1, 0)
def acc (xs : List Cx) : Cx × Int := xs.foldl accStep (one, 0)
theorem acc_snoc (xs : List Cx) (x : Cx) : acc (xs ++ [x]) = accStep (acc xs) x := by unfold acc; rw [List.foldl_append]; rfl

theorem acc_bad {xs : List Cx} (h : (acc xs).2 ≠ 0) (ys : List Cx) : (acc (xs ++ ys)).2 ≠ 0 := by
  induction ys generalizing xs with
  | nil => simpa using h
  | cons y ys ih =>
    rw [show xs ++ y :: ys = (xs ++ [y]) ++ ys by simp]
    apply ih
    rw [acc_snoc, accStep, if_pos h]; exact h

theorem acc_valid {xs : List Cx} (h : ∀ x ∈ xs, x.valid) : (acc xs).2 = 0 → (acc xs).1.valid := by
  suffices H : ∀ (xs : List Cx) (a : Cx × Int), (∀ x ∈ xs, x.valid) → (a.2 = 0 → a.1.valid) → (xs.foldl accStep a).2 = 0 → (xs.foldl accStep a).1.valid from H xs _ h (fun _ => one_validK)
  intro xs
  induction xs with
  | nil => intro a _ h2 h3; exact h2 h3
  | cons x xs ih =>
    intro a h1 h2
    refine ih _ (fun y hy => h1 y (by simp [hy])) fun h => ?_
    unfold accStep at h ⊢
    split at h
    · rename_i h'; exact absurd h h'
    · rename_i h'
      rw [if_neg h']
      split at h
      · simp at h
      · rename_i h''
        rw [if_neg h'']
        exact (mul_ok (h2 (by simpa using h')) (h1 x (by simp)) (by simpa using h'')).2

def nums (l : List Spo) (t : Int) (i : Nat) : List Cx := (l.filter fun s => decide (s.st = (i : Int))).map fun s => num s t
def stn (l : List Spo) (t : Int) (i : Nat) : Cx × Int := acc (nums l t i)

theorem nums_hit (l : List Spo) (s : Spo) (t : Int) {i : Nat} (h : s.st = (i : Int)) : nums (l ++ [s]) t i = nums l t i ++ [num s t] := by
  simp [nums, h]
theorem nums_off (l : List Spo) (s : Spo) (t : Int) {i : Nat} (h : s.st ≠ (i : Int)) : nums (l ++ [s]) t i = nums l t i := by
  simp [nums, h]
theorem nums_app (l r : List Spo) (t : Int) (i : Nat) : nums (l ++ r) t i = nums l t i ++ nums r t i := by simp [nums]

theorem stn_bad {l : List Spo} {t : Int} {i k : Nat} (h : (stn (l.take k) t i).2 ≠ 0) : (stn l t i).2 ≠ 0 := by
  unfold stn at *
  conv => lhs; rw [← List.take_append_drop k l, nums_app]
  exact acc_bad h _

theorem stn_valid {l : List Spo} {t : Int} {i : Nat} (h : ∀ s ∈ l, s.ok) (h0 : (stn l t i).2 = 0) : (stn l t i).1.valid :=
  acc_valid (fun x hx => by
    unfold nums at hx
    rw [List.mem_map] at hx
    obtain ⟨s, hs, rfl⟩ := hx
    exact num_valid (h s (List.mem_filter.1 hs).1) t) h0

def rowOf (l : List Spo) (t : Int) : List Cx := (List.range 8).map fun i => (stn l t i).1

def allOk (l : List Spo) (t : Int) (n : Nat) : Prop := ∀ i, i < n → (stn l t i).2 = 0
instance (l : List Spo) (t : Int) (n : Nat) : Decidable (allOk l t n) := by unfold allOk; infer_instance

/-- The table of events at a time. -/
def table (l : List Spo) (t : Int) : List Cx × Int :=
  if t < 0 ∨ 32 ≤ t then ([], 2) else if 8 < l.length then ([], 4) else if ∀ s ∈ l, s.ok then (if allOk l t 8 then (rowOf l t, 0) else ([], 16)) else ([], 8)

theorem table_length (l : List Spo) (t : Int) : (table l t).1.length ≤ 8 := by
  unfold table
  split
  · simp
  · split
    · simp
    · split
      · split
        · simp [rowOf]
        · simp
      · simp

/-- One more event: the row of numbers. -/
theorem row_step {l : List Spo} {t : Int} {s : Spo} {j : Nat} (hj : s.st = (j : Int)) (h0 : (stn l t j).2 = 0) (hm : (mul (stn l t j).1 (num s t)).2 = 0) : rowOf (l ++ [s]) t = (rowOf l t).set j (mul (stn l t j).1 (num s t)).1 := by
  apply List.ext_getElem
  · simp [rowOf]
  · intro i h1 h2
    rw [List.getElem_set]
    simp only [rowOf, List.getElem_map, List.getElem_range]
    split
    · rename_i h; subst h
      unfold stn at *
      rw [nums_hit _ _ _ hj, acc_snoc, accStep, if_neg (by simp [h0]), if_neg (by simp [hm])]
    · rename_i h
      unfold stn
      rw [nums_off _ _ _ (by omega)]

theorem allOk_step {l : List Spo} {t : Int} {s : Spo} {j : Nat} (hj : s.st = (j : Int)) (h : allOk l t 8) (h0 : (stn l t j).2 = 0) (hm : (mul (stn l t j).1 (num s t)).2 = 0) : allOk (l ++ [s]) t 8 := by
  intro i hi
  have := h i hi
  unfold stn at *
  by_cases e : s.st = (i : Int)
  · have : i = j := by omega
    subst this
    rw [nums_hit _ _ _ e, acc_snoc, accStep, if_neg (by simp [h0]), if_neg (by simp [hm])]
  · rw [nums_off _ _ _ e]; exact this

theorem step_bad {l : List Spo} {t : Int} {s : Spo} {j : Nat} (hj : s.st = (j : Int)) (h0 : (stn l t j).2 = 0) (hm : (mul (stn l t j).1 (num s t)).2 ≠ 0) : (stn (l ++ [s]) t j).2 ≠ 0 := by
  unfold stn at *
  rw [nums_hit _ _ _ hj, acc_snoc, accStep, if_neg (by simp [h0]), if_pos hm]
  simp

/-- The same baselines in the same order. -/
def bas (a b : List Vis) : Bool := decide (a.map Vis.key = b.map Vis.key)

def ferr : List (List Vis) → Int
  | [] => 0
  | l :: r => if ck27 l ≠ 0 then ck27 l else ferr r

theorem ferr_bad {s : List (List Vis)} {k : Nat} (hk : k < s.length) (h : ∀ l ∈ s.take k, ck27 l = 0) (hb : ck27 s[k] ≠ 0) : ferr s = ck27 s[k] := by
  induction s generalizing k with
  | nil => simp at hk
  | cons l r ih =>
    cases k with
    | zero => rw [ferr]; simp only [List.getElem_cons_zero] at hb ⊢; rw [if_pos hb]
    | succ k =>
      rw [ferr, if_neg (by simp [h l (by simp)])]
      exact ih (by simpa using hk) (fun x hx => h x (by simp [hx])) hb

theorem ferr_0 {s : List (List Vis)} (h : ∀ l ∈ s, ck27 l = 0) : ferr s = 0 := by
  induction s with
  | nil => rfl
  | cons l r ih => rw [ferr, if_neg (by simp [h l (by simp)])]; exact ih fun x hx => h x (by simp [hx])

def ck35 (s : List (List Vis)) : Int := if 32 < s.length then 4 else if ferr s ≠ 0 then ferr s else if s.all (fun l => bas l (s.headD [])) then 0 else 8

theorem ck35_8 {s : List (List Vis)} (hn : s.length ≤ 32) (hf : ferr s = 0) {k : Nat} (hk : k < s.length) (hb : bas s[k] (s.headD []) = false) : ck35 s = 8 := by
  unfold ck35
  rw [if_neg (by omega), if_neg (by simp [hf]), if_neg]
  intro h
  rw [List.all_eq_true] at h
  rw [h _ (List.getElem_mem hk)] at hb
  cases hb

theorem ck35_0 {s : List (List Vis)} (hn : s.length ≤ 32) (hf : ferr s = 0) (h : ∀ l ∈ s, bas l (s.headD []) = true) : ck35 s = 0 := by
  unfold ck35
  rw [if_neg (by omega), if_neg (by simp [hf]), if_pos]
  rw [List.all_eq_true]
  exact h

/-- Larger than the statements consider. -/
def great (s : List (List Vis)) : Bool := s.any (fun l => decide (20 < l.length ∧ l.length ≤ 64 ∨ 100 < l.length)) || decide (8 < s.length ∧ s.length ≤ 32 ∨ 40 < s.length)

end Go.Pv

/- Events over time, in plain Lean. -/
namespace Go.Pv
open Go.Vc

theorem quart_nn {q : Int} (h : 0 ≤ q) : quart q = (q % 4).toNat := by
  unfold quart
  rw [Int.tmod_eq_emod_of_nonneg h, Int.tmod_eq_emod_of_nonneg (by omega)]
  congr 1
  omega

theorem rotN_rotN {a b c : Nat} (ha : a < 4) (hb : b < 4) (hc : c = (a + b) % 4) : rotN a (rotN b one) = rotN c one := by
  subst hc
  obtain rfl | rfl | rfl | rfl : a = 0 ∨ a = 1 ∨ a = 2 ∨ a = 3 := by omega
  all_goals
    obtain rfl | rfl | rfl | rfl : b = 0 ∨ b = 1 ∨ b = 2 ∨ b = 3 := by omega
    all_goals decide

def row1 (x : Spo) (t : Int) : List Cx := (List.range 8).map fun (i : Nat) => if x.st = (i : Int) then num x t else one

theorem row1_length (x : Spo) (t : Int) : (row1 x t).length = 8 := by simp [row1]
theorem row1_get (x : Spo) (t : Int) {k : Nat} (h : k < (row1 x t).length) : (row1 x t)[k] = if x.st = (k : Int) then num x t else one := by simp [row1]

theorem stn1 {x : Spo} (h : x.ok) (t : Int) (i : Nat) : stn [x] t i = (if x.st = (i : Int) then num x t else one, 0) := by
  unfold stn
  split
  · rename_i e
    have : nums [x] t i = [num x t] := by simp [nums, e]
    rw [this]
    show accStep (one, 0) (num x t) = _
    rw [accStep, if_neg (by simp), mul_one_left (num_valid h t)]
    simp
  · rename_i e
    have : nums [x] t i = [] := by simp [nums, e]
    rw [this]; rfl

theorem table1 {x : Spo} (h : x.ok) {t : Int} (ht : 0 ≤ t ∧ t < 32) : table [x] t = (row1 x t, 0) := by
  rw [table, if_neg (by omega), if_neg (by simp), if_pos (by simpa using h), if_pos (show allOk [x] t 8 from fun i _ => by rw [stn1 h])]
  congr 1
  unfold rowOf row1
  simp only [stn1 h]

theorem num_off {x : Spo} {t : Int} (h : t < x.fr ∨ x.to ≤ t) : num x t = one := by rw [num, if_pos h]
theorem num_gain {x : Spo} {t : Int} (h : ¬ (t < x.fr ∨ x.to ≤ t)) (hk : x.kind = 1) : num x t = x.v := by rw [num, if_neg h, if_pos hk]
theorem num_sky {x : Spo} {t : Int} (h : ¬ (t < x.fr ∨ x.to ≤ t)) (hk : x.kind = 2) : num x t = rotN (quart x.q) one := by rw [num, if_neg h, if_neg (by omega), if_neg (by omega)]
theorem num_clock {x : Spo} {t : Int} (h : ¬ (t < x.fr ∨ x.to ≤ t)) (hk : x.kind = 3) : num x t = rotN (quart (x.q * (t - x.fr))) one := by rw [num, if_neg h, if_neg (by omega), if_pos hk]

theorem clock_from {x : Spo} (h : ¬ (x.fr < x.fr ∨ x.to ≤ x.fr)) (hk : x.kind = 3) : num x x.fr = one := by
  rw [num_clock h hk, show x.q * (x.fr - x.fr) = 0 by rw [Int.sub_self, Int.mul_zero]]; rfl

theorem clock_4 {x : Spo} {t : Int} (hq : 0 ≤ x.q) (h : x.fr ≤ t) (h4 : t + 4 < x.to) (hk : x.kind = 3) : num x (t + 4) = num x t := by
  have h0 : 0 ≤ x.q * (t - x.fr) := Int.mul_nonneg hq (by omega)
  rw [num_clock (by omega) hk, num_clock (by omega) hk, show x.q * (t + 4 - x.fr) = x.q * (t - x.fr) + 4 * x.q by rw [show t + 4 - x.fr = (t - x.fr) + 4 by omega, Int.mul_add]; omega]
  rw [quart_nn (by omega), quart_nn h0]
  congr 2
  omega

theorem clock_1 {x : Spo} {t : Int} (hq : 0 ≤ x.q) (h : x.fr ≤ t) (h4 : t + 1 < x.to) (hk : x.kind = 3) : rotN (quart x.q) (num x t) = num x (t + 1) := by
  have h0 : 0 ≤ x.q * (t - x.fr) := Int.mul_nonneg hq (by omega)
  rw [num_clock (by omega) hk, num_clock (by omega) hk, show x.q * (t + 1 - x.fr) = x.q * (t - x.fr) + x.q by rw [show t + 1 - x.fr = (t - x.fr) + 1 by omega, Int.mul_add]; omega]
  refine rotN_rotN (quart_lt _) (quart_lt _) ?_
  rw [quart_nn (by omega), quart_nn h0, quart_nn hq]
  omega
end Go.Pv

/- Series spoilt by events, in plain Lean. -/
namespace Go.Pv
open Go.Vc

/-- The first error of a sequence. -/
def err1 (f : Nat → Int) : Nat → Int
  | 0 => 0
  | n + 1 => if err1 f n ≠ 0 then err1 f n else f n

theorem err1_bad {f : Nat → Int} {k : Nat} (h0 : err1 f k = 0) (hb : f k ≠ 0) {n : Nat} (hn : k < n) : err1 f n = f k := by
  induction n with
  | zero => omega
  | succ n ih =>
    by_cases e : k = n
    · subst e; rw [err1, if_neg (by simp [h0])]
    · have := ih (by omega)
      rw [err1, if_pos (by rw [this]; exact hb), this]

theorem err1_all {f : Nat → Int} {n : Nat} : err1 f n = 0 ↔ ∀ k, k < n → f k = 0 := by
  induction n with
  | zero => simp [err1]
  | succ n ih =>
    rw [err1]
    constructor
    · intro h k hk
      split at h
      · rename_i h'; exact absurd h h'
      · rename_i h'
        by_cases e : k = n
        · subst e; exact h
        · exact ih.1 (by simpa using h') k (by omega)
    · intro h
      rw [if_neg (by simpa using ih.2 fun k hk => h k (by omega))]
      exact h n (by omega)

theorem err1_step {f : Nat → Int} {k : Nat} (h0 : err1 f k = 0) (h : f k = 0) : err1 f (k + 1) = 0 := by
  rw [err1, if_neg (by simp [h0])]; exact h

abbrev terr (l : List Spo) : Nat → Int := err1 fun t => (table l t).2

def tabs (l : List Spo) (n : Nat) : List (List Cx) × Int := if terr l n ≠ 0 then ([], terr l n) else ((List.range n).map fun (t : Nat) => (table l t).1, 0)

/-- One time. -/
def one35 (ch : List Cx → List Cx × Int) (s : List (List Vis)) (l : List Spo) (t : Nat) : List Vis × Int := if (ch (table l t).1).2 ≠ 0 then ([], (ch (table l t).1).2) else act26 (ch (table l t).1).1 (s.getD t [])

def spo35 (ch : List Cx → List Cx × Int) (s : List (List Vis)) (l : List Spo) : List (List Vis) × Int :=
  if ck35 s ≠ 0 then ([], ck35 s) else if s.length = 0 then ([], (table l 0).2) else if terr l s.length ≠ 0 then ([], terr l s.length)
  else if err1 (fun t => (one35 ch s l t).2) s.length ≠ 0 then ([], err1 (fun t => (one35 ch s l t).2) s.length)
  else ((List.range s.length).map fun t => (one35 ch s l t).1, 0)

def noch (g : List Cx) : List Cx × Int := (g, 0)
abbrev spoil := spo35 noch
abbrev undo := spo35 tinv

theorem one35_get {ch : List Cx → List Cx × Int} {s : List (List Vis)} {l : List Spo} {t : Nat} (ht : t < s.length) (h : (ch (table l t).1).2 = 0) : one35 ch s l t = act26 (ch (table l t).1).1 s[t] := by
  rw [one35, if_neg (by simp [h])]
  simp [List.getD_eq_getElem?_getD, List.getElem?_eq_getElem ht]

theorem one35_bad {ch : List Cx → List Cx × Int} {s : List (List Vis)} {l : List Spo} {t : Nat} (h : (ch (table l t).1).2 ≠ 0) : one35 ch s l t = ([], (ch (table l t).1).2) := by
  rw [one35, if_pos h]

theorem spo35_4 {ch : List Cx → List Cx × Int} {s : List (List Vis)} {l : List Spo} (h1 : ck35 s = 0) {k : Nat} (hz : terr l k = 0) (hk : k < s.length) (hb : (table l k).2 ≠ 0) : spo35 ch s l = ([], (table l k).2) := by
  have e : terr l s.length = (table l k).2 := err1_bad (f := fun t => (table l t).2) hz hb hk
  rw [spo35, if_neg (by simp [h1]), if_neg (by omega), e, if_pos hb]

theorem spo35_5 {ch : List Cx → List Cx × Int} {s : List (List Vis)} {l : List Spo} (h1 : ck35 s = 0) (ht : terr l s.length = 0) {k : Nat} (hz : err1 (fun t => (one35 ch s l t).2) k = 0) (hk : k < s.length) (hb : (one35 ch s l k).2 ≠ 0) : spo35 ch s l = ([], (one35 ch s l k).2) := by
  have e : err1 (fun t => (one35 ch s l t).2) s.length = (one35 ch s l k).2 := err1_bad (f := fun t => (one35 ch s l t).2) hz hb hk
  rw [spo35, if_neg (by simp [h1]), if_neg (by omega), if_neg (by simp [ht]), e, if_pos hb]

theorem spo35_0 {ch : List Cx → List Cx × Int} {s : List (List Vis)} {l : List Spo} (h1 : ck35 s = 0) (h0 : s.length ≠ 0) (ht : terr l s.length = 0) (hz : err1 (fun t => (one35 ch s l t).2) s.length = 0) : spo35 ch s l = ((List.range s.length).map fun t => (one35 ch s l t).1, 0) := by
  rw [spo35, if_neg (by simp [h1]), if_neg h0, if_neg (by simp [ht]), if_neg (by simp [hz])]

theorem table_valid {l : List Spo} {t : Int} (h : (table l t).2 = 0) : ∀ c ∈ (table l t).1, c.valid := by
  intro c hc
  unfold table at h hc
  split at h
  · cases h
  · rename_i h1
    rw [if_neg h1] at hc
    split at h
    · cases h
    · rename_i h2
      rw [if_neg h2] at hc
      split at h
      · rename_i h3
        rw [if_pos h3] at hc
        split at h
        · rename_i h4
          rw [if_pos h4] at hc
          simp only [rowOf, List.mem_map, List.mem_range] at hc
          obtain ⟨i, hi, rfl⟩ := hc
          exact stn_valid h3 (h4 i hi)
        · cases h
      · cases h

theorem ck35_len {s : List (List Vis)} (h : ck35 s = 0) : s.length ≤ 32 := by
  unfold ck35 at h
  split at h
  · cases h
  · omega
end Go.Pv

/- Coherencies and tables of matrices, in plain Lean. -/
namespace Go.Pv
open Go.Vc

structure Pol where
  i : Int
  j : Int
  v : Jn
  n : Int
deriving DecidableEq

instance : Enc Pol where
  sz := 15
  cs p := [i64 p.i, i64 p.j, i64 p.v.a.re, i64 p.v.a.im, i64 p.v.a.den, i64 p.v.b.re, i64 p.v.b.im, i64 p.v.b.den, i64 p.v.c.re, i64 p.v.c.im, i64 p.v.c.den, i64 p.v.d.re, i64 p.v.d.im, i64 p.v.d.den, i64 p.n]
  ok p := I64 p.i ∧ I64 p.j ∧ Enc.ok p.v ∧ I64 p.n
  len _ := rfl
  pos := by decide

def Pol.good (p : Pol) (n : Int) : Prop := 0 ≤ p.i ∧ p.i < p.j ∧ p.j < n ∧ 0 ≤ p.n ∧ p.v.valid
instance (p : Pol) (n : Int) : Decidable (p.good n) := by unfold Pol.good; infer_instance

def Pol.set (p : Pol) (m : Jn) : Pol := ⟨p.i, p.j, m, p.n⟩

def jall (l : List Pol) (n : Int) : Int := if 64 < l.length then 4 else if ∀ p ∈ l, p.good n then 0 else 8

theorem jall_0 {l : List Pol} {n : Int} (h : jall l n = 0) : l.length ≤ 64 ∧ ∀ p ∈ l, p.good n := by
  unfold jall at h
  split at h
  · omega
  · split at h
    · rename_i h1 h2; exact ⟨by omega, h2⟩
    · omega

theorem jall_8 {l : List Pol} {n : Int} (hl : l.length ≤ 64) {k : Nat} (hk : k < l.length) (h : ¬ l[k].good n) : jall l n = 8 := by
  rw [jall, if_neg (by omega), if_neg]
  exact fun h' => h (h' _ (List.getElem_mem hk))

/-- The first error of the determinants. -/
def rerr (t : List Jn) (n : Nat) : Int := err1 (fun k => (jreg (t.getD k j0)).2) n
def jtab (t : List Jn) : Int := if 8 < t.length then 4 else if t.length = 0 ∨ ¬ ∀ m ∈ t, m.valid then 8 else rerr t t.length

theorem jtab_0 {t : List Jn} (h : jtab t = 0) : t.length ≤ 8 ∧ 0 < t.length ∧ (∀ m ∈ t, m.valid) ∧ ∀ m ∈ t, (jreg m).2 = 0 := by
  unfold jtab at h
  split at h
  · omega
  · split at h
    · omega
    · rename_i h1 h2
      have h3 : ∀ m ∈ t, m.valid := by
        by_cases e : ∀ m ∈ t, m.valid
        · exact e
        · exact absurd (.inr e) h2
      refine ⟨by omega, by omega, h3, fun m hm => ?_⟩
      obtain ⟨k, hk, rfl⟩ := List.getElem_of_mem hm
      have := err1_all.1 h k hk
      simpa [hk] using this

def jg (t : List Jn) (i : Int) : Jn := t.getD i.toNat j0
theorem jg_get {t : List Jn} {i : Nat} (h : i < t.length) : jg t i = t[i] := by simp [jg, h]

def jact1 (t : List Jn) (p : Pol) : Jn × Int :=
  if (jmul (jg t p.i) p.v).2 ≠ 0 then (j0, 16) else if (jmul (jmul (jg t p.i) p.v).1 (jadj (jg t p.j)).1).2 ≠ 0 then (j0, 16) else jmul (jmul (jg t p.i) p.v).1 (jadj (jg t p.j)).1

def jact (t : List Jn) (l : List Pol) : List Pol × Int :=
  if jtab t ≠ 0 then ([], jtab t) else if jall l t.length ≠ 0 then ([], jall l t.length) else if ∀ p ∈ l, (jact1 t p).2 = 0 then (l.map fun p => p.set (jact1 t p).1, 0) else ([], 16)

abbrev resP (r : List Pol × Int) : SV := .tup [.p (sl r.1), .p (i64 r.2)]

theorem jn_ok {m : Jn} (h : m.valid) : Enc.ok m := ⟨jn_of_valid h.1, jn_of_valid h.2.1, jn_of_valid h.2.2.1, jn_of_valid h.2.2.2⟩
end Go.Pv
