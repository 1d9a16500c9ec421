/- Complex numbers with rational parts, in plain Lean. -/
import Derived.Test.YtikimjgbbbajoaaPvKm
namespace Go.Pv
open Go.Vc

structure Cx where
  re : Int
  im : Int
  den : Int
deriving DecidableEq

instance : Enc Cx where
  sz := 3
  cs l := [i64 l.re, i64 l.im, i64 l.den]
  ok l := I64 l.re ∧ I64 l.im ∧ I64 l.den
  len _ := rfl
  pos := by decide

abbrev cx (a : Cx) : PV := .agg [i64 a.re, i64 a.im, i64 a.den]

structure Frac where
  num : Int
  den : Int
deriving DecidableEq

instance : Enc Frac where
  sz := 2
  cs l := [i64 l.num, i64 l.den]
  ok l := I64 l.num ∧ I64 l.den
  len _ := rfl
  pos := by decide

abbrev fr (a : Frac) : PV := .agg [i64 a.num, i64 a.den]

/-- The common divisor of three numbers. -/
def g3 (x y z : Int) : Nat := Int.gcd (Int.gcd x y) z

def fits (x : Int) : Prop := -1000000000 ≤ x ∧ x ≤ 1000000000
instance (x : Int) : Decidable (fits x) := by unfold fits; infer_instance

/-- Valid numbers. -/
def Cx.valid (a : Cx) : Prop := 1 ≤ a.den ∧ a.den ≤ 1000000000 ∧ fits a.re ∧ fits a.im ∧ g3 a.re a.im a.den = 1
instance (a : Cx) : Decidable a.valid := by unfold Cx.valid; infer_instance

def chk (a : Cx) : Int := if a.valid then 0 else 8

def Cx.zero (a : Cx) : Prop := a.re = 0 ∧ a.im = 0
instance (a : Cx) : Decidable a.zero := by unfold Cx.zero; infer_instance

def c0 : Cx := ⟨0, 0, 0⟩
def one : Cx := ⟨1, 0, 1⟩

/-- In lowest terms. -/
def norm (x y z : Int) : Cx := ⟨x / g3 x y z, y / g3 x y z, z / g3 x y z⟩

/-- The number, or an error: its parts are too great. -/
def make (x y z : Int) : Cx × Int :=
  if fits (norm x y z).re ∧ fits (norm x y z).im ∧ fits (norm x y z).den then (norm x y z, 0) else (c0, 16)

theorem g3_dvd (x y z : Int) : ((g3 x y z : Nat) : Int) ∣ x ∧ ((g3 x y z : Nat) : Int) ∣ y ∧ ((g3 x y z : Nat) : Int) ∣ z := by
  have h1 : ((g3 x y z : Nat) : Int) ∣ ((Int.gcd x y : Nat) : Int) := Int.gcd_dvd_left ..
  exact ⟨Int.dvd_trans h1 (Int.gcd_dvd_left ..), Int.dvd_trans h1 (Int.gcd_dvd_right ..), Int.gcd_dvd_right ..⟩

theorem dvd_g3 {d : Nat} {x y z : Int} (hx : (d : Int) ∣ x) (hy : (d : Int) ∣ y) (hz : (d : Int) ∣ z) : d ∣ g3 x y z := by
  have h1 : (d : Int) ∣ ((Int.gcd x y : Nat) : Int) := Int.dvd_coe_gcd hx hy
  exact Int.ofNat_dvd.1 (Int.dvd_coe_gcd h1 hz)

theorem g3_pos {x y z : Int} (h : z ≠ 0) : 0 < g3 x y z := Int.gcd_pos_of_ne_zero_right _ h

theorem g3_mul (k : Nat) (x y z : Int) : g3 (x * k) (y * k) (z * k) = g3 x y z * k := by
  unfold g3
  rw [Int.gcd_mul_right, Int.natCast_mul]
  have : ((Int.natAbs (k : Int) : Nat) : Int) = k := by simp
  rw [this, Int.gcd_mul_right]
  simp

/-- A multiple in lowest terms. -/
theorem norm_spec {x y z : Int} (h : 0 < z) : ∃ g : Nat, 0 < g ∧ x = (norm x y z).re * g ∧ y = (norm x y z).im * g ∧ z = (norm x y z).den * g ∧ 0 < (norm x y z).den ∧ g3 (norm x y z).re (norm x y z).im (norm x y z).den = 1 := by
  have hp := g3_pos (x := x) (y := y) (z := z) (by omega)
  obtain ⟨h1, h2, h3⟩ := g3_dvd x y z
  have e1 : x = (norm x y z).re * (g3 x y z : Nat) := (Int.ediv_mul_cancel h1).symm
  have e2 : y = (norm x y z).im * (g3 x y z : Nat) := (Int.ediv_mul_cancel h2).symm
  have e3 : z = (norm x y z).den * (g3 x y z : Nat) := (Int.ediv_mul_cancel h3).symm
  refine ⟨g3 x y z, hp, e1, e2, e3, ?_, ?_⟩
  · have : 0 < (norm x y z).den * ((g3 x y z : Nat) : Int) := by rw [← e3]; exact h
    exact Int.pos_of_mul_pos_left this (by omega)
  · have := g3_mul (g3 x y z) (norm x y z).re (norm x y z).im (norm x y z).den
    rw [← e1, ← e2, ← e3] at this
    have h5 : 1 * g3 x y z = g3 (norm x y z).re (norm x y z).im (norm x y z).den * g3 x y z := by omega
    exact (Nat.eq_of_mul_eq_mul_right hp h5).symm

/-- There is just one number in lowest terms. -/
theorem low_unique {x y z u v t : Int} (hz : 0 < z) (ht : 0 < t) (h1 : g3 x y z = 1) (h2 : g3 u v t = 1) (e1 : x * t = u * z) (e2 : y * t = v * z) : x = u ∧ y = v ∧ z = t := by
  have dv : ∀ {x y z u v t : Int}, 0 < z → 0 < t → g3 x y z = 1 → x * t = u * z → y * t = v * z → z ∣ t := by
    intro x y z u v t hz ht h1 e1 e2
    have hzn : ((z.natAbs : Nat) : Int) = z := by omega
    have htn : ((t.natAbs : Nat) : Int) = t := by omega
    have h3 := dvd_g3 (d := z.natAbs) (x := x * t) (y := y * t) (z := z * t) (by rw [hzn, e1]; exact Int.dvd_mul_left ..) (by rw [hzn, e2]; exact Int.dvd_mul_left ..) (by rw [hzn]; exact Int.dvd_mul_right ..)
    rw [← htn, g3_mul, h1, Nat.one_mul] at h3
    exact Int.natAbs_dvd_natAbs.1 h3
  have a1 := dv hz ht h1 e1 e2
  have a2 := dv ht hz h2 e1.symm e2.symm
  have hzt : z = t := Int.dvd_antisymm (by omega) (by omega) a1 a2
  subst hzt
  exact ⟨Int.eq_of_mul_eq_mul_right (by omega) e1, Int.eq_of_mul_eq_mul_right (by omega) e2, rfl⟩

theorem norm_eq {x y z u v t : Int} (hz : 0 < z) (ht : 0 < t) (h2 : g3 u v t = 1) (e1 : x * t = u * z) (e2 : y * t = v * z) : norm x y z = ⟨u, v, t⟩ := by
  obtain ⟨g, hg, f1, f2, f3, hp, hc⟩ := norm_spec (x := x) (y := y) hz
  have hgz : ((g : Nat) : Int) ≠ 0 := by omega
  obtain ⟨a1, a2, a3⟩ := low_unique (x := (norm x y z).re) (y := (norm x y z).im) (z := (norm x y z).den) hp ht hc h2
    (by have : (norm x y z).re * t * g = u * (norm x y z).den * g := by
          rw [Int.mul_right_comm, ← f1, e1, Int.mul_assoc, ← f3]
        exact Int.eq_of_mul_eq_mul_right hgz this)
    (by have : (norm x y z).im * t * g = v * (norm x y z).den * g := by
          rw [Int.mul_right_comm, ← f2, e2, Int.mul_assoc, ← f3]
        exact Int.eq_of_mul_eq_mul_right hgz this)
  cases hn : norm x y z
  simp only [hn] at a1 a2 a3
  rw [a1, a2, a3]

theorem norm_low {x y z : Int} (hz : 0 < z) (h : g3 x y z = 1) : norm x y z = ⟨x, y, z⟩ := norm_eq hz hz h rfl rfl

theorem valid_norm {x y z : Int} (hz : 0 < z) : (norm x y z).valid ↔ fits (norm x y z).re ∧ fits (norm x y z).im ∧ fits (norm x y z).den := by
  obtain ⟨g, _, _, _, _, hp, hc⟩ := norm_spec (x := x) (y := y) hz
  unfold Cx.valid fits
  constructor
  · intro h; exact ⟨h.2.2.1, h.2.2.2.1, by omega, h.2.1⟩
  · intro h; exact ⟨by omega, h.2.2.2, h.1, h.2.1, hc⟩

theorem make_valid {x y z : Int} (hz : 0 < z) : make x y z = if (norm x y z).valid then (norm x y z, 0) else (c0, 16) := by
  unfold make
  by_cases h : (norm x y z).valid
  · rw [if_pos ((valid_norm hz).1 h), if_pos h]
  · rw [if_neg (fun h' => h ((valid_norm hz).2 h')), if_neg h]

/-- Valid numbers are the same if they are as much. -/
theorem Cx.eq_of {a b : Cx} (ha : a.valid) (hb : b.valid) (e1 : a.re * b.den = b.re * a.den) (e2 : a.im * b.den = b.im * a.den) : a = b := by
  obtain ⟨h1, h2, h3⟩ := low_unique (x := a.re) (y := a.im) (z := a.den) (by have := ha.1; omega) (by have := hb.1; omega) ha.2.2.2.2 hb.2.2.2.2 e1 e2
  cases a; cases b
  simp_all

/-! ### The four kinds of reckoning -/

def mul (a b : Cx) : Cx × Int := if a.valid ∧ b.valid then make (a.re * b.re - a.im * b.im) (a.re * b.im + a.im * b.re) (a.den * b.den) else (c0, 8)
def add (a b : Cx) : Cx × Int := if a.valid ∧ b.valid then make (a.re * b.den + b.re * a.den) (a.im * b.den + b.im * a.den) (a.den * b.den) else (c0, 8)
def sub (a b : Cx) : Cx × Int := if a.valid ∧ b.valid then make (a.re * b.den - b.re * a.den) (a.im * b.den - b.im * a.den) (a.den * b.den) else (c0, 8)
def div (a b : Cx) : Cx × Int := if a.valid ∧ b.valid then (if b.zero then (c0, 18) else make ((a.re * b.re + a.im * b.im) * b.den) ((a.im * b.re - a.re * b.im) * b.den) ((b.re * b.re + b.im * b.im) * a.den)) else (c0, 8)
def neg (a : Cx) : Cx := ⟨-a.re, -a.im, a.den⟩
def conj (a : Cx) : Cx := ⟨a.re, -a.im, a.den⟩

/-- A number and an error code. -/
abbrev resC (r : Cx × Int) : SV := .tup [.p (cx r.1), .p (i64 r.2)]
abbrev resF (r : Frac × Int) : SV := .tup [.p (fr r.1), .p (i64 r.2)]

theorem mul_bound {a b : Int} (ha : fits a) (hb : fits b) : -1000000000000000000 ≤ a * b ∧ a * b ≤ 1000000000000000000 := by
  unfold fits at ha hb
  have h1 : (a * b).natAbs ≤ 1000000000 * 1000000000 := by
    rw [Int.natAbs_mul]
    exact Nat.mul_le_mul (by omega) (by omega)
  omega

theorem valid_fits {a : Cx} (h : a.valid) : fits a.re ∧ fits a.im ∧ fits a.den ∧ 1 ≤ a.den := by
  obtain ⟨h1, h2, h3, h4, _⟩ := h
  exact ⟨h3, h4, by unfold fits; omega, h1⟩

theorem mul_pos' {a b : Int} (ha : 1 ≤ a) (hb : 1 ≤ b) : 0 < a * b := Int.mul_pos (by omega) (by omega)

theorem gcd_step (x y : Int) : Int.gcd y (x.tmod y) = Int.gcd x y := by
  unfold Int.gcd
  rw [Int.natAbs_tmod, Nat.gcd_comm x.natAbs, Nat.gcd_rec y.natAbs x.natAbs, Nat.gcd_comm]

theorem tdiv_g {x g : Int} (h : g ∣ x) (hg : 0 < g) : x.tdiv g = x / g := by
  rw [Int.tdiv_eq_ediv_of_dvd h]

/-- Division by a common divisor, as the machine does it. -/
theorem quo_w {x : Int} {g : Nat} (hg : 0 < g) (hd : ((g : Nat) : Int) ∣ x) (hx : -9223372036854775807 ≤ x ∧ x ≤ 9223372036854775807) : IntKind.i64.wrap (x.tdiv (g : Int)) = x / g := by
  have e : x.tdiv (g : Int) = x / g := tdiv_g hd (by omega)
  rw [e]
  obtain ⟨c, rfl⟩ := hd
  rw [Int.mul_ediv_cancel_left _ (by omega)]
  have hle : c.natAbs ≤ (((g : Nat) : Int) * c).natAbs := by
    rw [Int.natAbs_mul]
    exact Nat.le_mul_of_pos_left _ (by omega)
  exact wrap_id (by omega) (by omega)

theorem ediv_le {x : Int} {g : Nat} (hg : 0 < g) (hd : ((g : Nat) : Int) ∣ x) : (x / g).natAbs ≤ x.natAbs := by
  obtain ⟨c, rfl⟩ := hd
  rw [Int.mul_ediv_cancel_left _ (by omega), Int.natAbs_mul]
  exact Nat.le_mul_of_pos_left _ (by omega)

theorem ediv_pos {x : Int} {g : Nat} (hg : 0 < g) (hd : ((g : Nat) : Int) ∣ x) (hx : 0 < x) : 0 < x / g := by
  obtain ⟨c, rfl⟩ := hd
  rw [Int.mul_ediv_cancel_left _ (by omega)]
  exact Int.pos_of_mul_pos_right hx (by omega)

/-! The quotient's parts, made prime to each other before anything is multiplied. -/
section
variable (p q n d e : Int)
def rg1 : Nat := g3 p q n
def rg2 : Nat := Int.gcd d e
def rre : Int := p / rg1 p q n
def rim : Int := q / rg1 p q n
def rden : Int := n / rg1 p q n
def rtop : Int := d / rg2 d e
def rbot : Int := e / rg2 d e
def rg3 : Nat := g3 (rre p q n) (rim p q n) (rbot d e)
def rg4 : Nat := Int.gcd (rtop d e) (rden p q n)
def fre : Int := rre p q n / rg3 p q n d e
def fim : Int := rim p q n / rg3 p q n d e
def fbot : Int := rbot d e / rg3 p q n d e
def ftop : Int := rtop d e / rg4 p q n d e
def fden : Int := rden p q n / rg4 p q n d e
end

theorem cop_div {a b : Int} (h : 0 < Int.gcd a b) : Int.gcd (a / Int.gcd a b) (b / Int.gcd a b) = 1 := Int.gcd_ediv_gcd_ediv_gcd h

theorem gcd_dvd_one {a b a' b' : Int} (h : Int.gcd a b = 1) (ha : a' ∣ a) (hb : b' ∣ b) : Int.gcd a' b' = 1 := by
  have h1 : ((Int.gcd a' b' : Nat) : Int) ∣ ((Int.gcd a b : Nat) : Int) := Int.dvd_coe_gcd (Int.dvd_trans (Int.gcd_dvd_left ..) ha) (Int.dvd_trans (Int.gcd_dvd_right ..) hb)
  rw [h] at h1
  have := Int.ofNat_dvd.1 h1
  exact Nat.eq_one_of_dvd_one this

theorem red_facts {p q n d e : Int} (hn : 0 < n) (hd : 0 < d) (he : 0 < e) :
    0 < rg1 p q n ∧ 0 < rg2 d e ∧ 0 < rg3 p q n d e ∧ 0 < rg4 p q n d e ∧ 0 < rden p q n ∧ 0 < rtop d e ∧ 0 < rbot d e ∧ 0 < fden p q n d e ∧ 0 < ftop p q n d e ∧ 0 < fbot p q n d e ∧
    ((rg1 p q n : Nat) : Int) ∣ p ∧ ((rg1 p q n : Nat) : Int) ∣ q ∧ ((rg1 p q n : Nat) : Int) ∣ n ∧ ((rg2 d e : Nat) : Int) ∣ d ∧ ((rg2 d e : Nat) : Int) ∣ e ∧
    ((rg3 p q n d e : Nat) : Int) ∣ rre p q n ∧ ((rg3 p q n d e : Nat) : Int) ∣ rim p q n ∧ ((rg3 p q n d e : Nat) : Int) ∣ rbot d e ∧ ((rg4 p q n d e : Nat) : Int) ∣ rtop d e ∧ ((rg4 p q n d e : Nat) : Int) ∣ rden p q n := by
  have h1 : 0 < rg1 p q n := g3_pos (by omega)
  have h2 : 0 < rg2 d e := Int.gcd_pos_of_ne_zero_right _ (by omega)
  obtain ⟨a1, a2, a3⟩ := g3_dvd p q n
  have b1 : ((rg2 d e : Nat) : Int) ∣ d := Int.gcd_dvd_left ..
  have b2 : ((rg2 d e : Nat) : Int) ∣ e := Int.gcd_dvd_right ..
  have c1 : 0 < rden p q n := ediv_pos h1 a3 hn
  have c2 : 0 < rtop d e := ediv_pos h2 b1 hd
  have c3 : 0 < rbot d e := ediv_pos h2 b2 he
  have h3 : 0 < rg3 p q n d e := g3_pos (by omega)
  have h4 : 0 < rg4 p q n d e := Int.gcd_pos_of_ne_zero_right _ (by omega)
  obtain ⟨d1, d2, d3⟩ := g3_dvd (rre p q n) (rim p q n) (rbot d e)
  have e1 : ((rg4 p q n d e : Nat) : Int) ∣ rtop d e := Int.gcd_dvd_left ..
  have e2 : ((rg4 p q n d e : Nat) : Int) ∣ rden p q n := Int.gcd_dvd_right ..
  exact ⟨h1, h2, h3, h4, c1, c2, c3, ediv_pos h4 e2 c1, ediv_pos h4 e1 c2, ediv_pos h3 d3 c3, a1, a2, a3, b1, b2, d1, d2, d3, e1, e2⟩

theorem div_dvd {x : Int} {g : Nat} (hd : ((g : Nat) : Int) ∣ x) : x / g ∣ x := ⟨g, (Int.ediv_mul_cancel hd).symm⟩

theorem red_low {p q n d e : Int} (hn : 0 < n) (hd : 0 < d) (he : 0 < e) : g3 (fre p q n d e * ftop p q n d e) (fim p q n d e * ftop p q n d e) (fden p q n d e * fbot p q n d e) = 1 := by
  obtain ⟨h1, h2, h3, h4, c1, c2, c3, f1, f2, f3, a1, a2, a3, b1, b2, d1, d2, d3, e1, e2⟩ := red_facts (p := p) (q := q) hn hd he
  have k1 : g3 (rre p q n) (rim p q n) (rden p q n) = 1 := by
    obtain ⟨g, hg, x1, x2, x3, _, hc⟩ := norm_spec (x := p) (y := q) hn
    exact hc
  have k2 : Int.gcd (rtop d e) (rbot d e) = 1 := cop_div h2
  have k3 : g3 (fre p q n d e) (fim p q n d e) (fbot p q n d e) = 1 := by
    obtain ⟨g, hg, x1, x2, x3, _, hc⟩ := norm_spec (x := rre p q n) (y := rim p q n) c3
    exact hc
  have k4 : Int.gcd (ftop p q n d e) (fden p q n d e) = 1 := cop_div h4
  have k5 : Int.gcd (ftop p q n d e) (fbot p q n d e) = 1 := gcd_dvd_one k2 (div_dvd e1) (div_dvd d3)
  have k6 : Int.gcd ((Int.gcd (fre p q n d e) (fim p q n d e) : Nat) : Int) (fden p q n d e) = 1 := by
    refine gcd_dvd_one (a := ((Int.gcd (rre p q n) (rim p q n) : Nat) : Int)) (b := rden p q n) k1 ?_ (div_dvd e2)
    exact Int.dvd_coe_gcd (Int.dvd_trans (Int.gcd_dvd_left ..) (div_dvd d1)) (Int.dvd_trans (Int.gcd_dvd_right ..) (div_dvd d2))
  unfold g3 at k3 ⊢
  rw [Int.gcd_mul_right]
  generalize Int.gcd (fre p q n d e) (fim p q n d e) = h at k3 k6
  unfold Int.gcd at k3 k4 k5 k6 ⊢
  simp only [Int.natAbs_mul, Int.natAbs_natCast] at k3 k4 k5 k6 ⊢
  exact Nat.Coprime.mul_left (Nat.Coprime.mul_right k6 k3) (Nat.Coprime.mul_right k4 k5)

theorem red_norm {p q n d e : Int} (hn : 0 < n) (hd : 0 < d) (he : 0 < e) : norm (p * d) (q * d) (n * e) = ⟨fre p q n d e * ftop p q n d e, fim p q n d e * ftop p q n d e, fden p q n d e * fbot p q n d e⟩ := by
  obtain ⟨h1, h2, h3, h4, c1, c2, c3, f1, f2, f3, a1, a2, a3, b1, b2, d1, d2, d3, e1, e2⟩ := red_facts (p := p) (q := q) hn hd he
  refine norm_eq (Int.mul_pos hn he) (Int.mul_pos f1 f3) (red_low hn hd he) ?_ ?_
  · have x1 : p = fre p q n d e * rg3 p q n d e * rg1 p q n := by rw [fre, Int.ediv_mul_cancel d1, rre, Int.ediv_mul_cancel a1]
    have x2 : d = ftop p q n d e * rg4 p q n d e * rg2 d e := by rw [ftop, Int.ediv_mul_cancel e1, rtop, Int.ediv_mul_cancel b1]
    have x3 : n = fden p q n d e * rg4 p q n d e * rg1 p q n := by rw [fden, Int.ediv_mul_cancel e2, rden, Int.ediv_mul_cancel a3]
    have x4 : e = fbot p q n d e * rg3 p q n d e * rg2 d e := by rw [fbot, Int.ediv_mul_cancel d3, rbot, Int.ediv_mul_cancel b2]
    generalize fre p q n d e = A at *
    generalize ftop p q n d e = B at *
    generalize fden p q n d e = C at *
    generalize fbot p q n d e = D at *
    generalize ((rg1 p q n : Nat) : Int) = G1 at *
    generalize ((rg2 d e : Nat) : Int) = G2 at *
    generalize ((rg3 p q n d e : Nat) : Int) = G3 at *
    generalize ((rg4 p q n d e : Nat) : Int) = G4 at *
    clear a1 a2 a3 b1 b2 d1 d2 d3 e1 e2 h1 h2 h3 h4 c1 c2 c3
    subst x1 x2 x3 x4
    grind
  · have x1 : q = fim p q n d e * rg3 p q n d e * rg1 p q n := by rw [fim, Int.ediv_mul_cancel d2, rim, Int.ediv_mul_cancel a2]
    have x2 : d = ftop p q n d e * rg4 p q n d e * rg2 d e := by rw [ftop, Int.ediv_mul_cancel e1, rtop, Int.ediv_mul_cancel b1]
    have x3 : n = fden p q n d e * rg4 p q n d e * rg1 p q n := by rw [fden, Int.ediv_mul_cancel e2, rden, Int.ediv_mul_cancel a3]
    have x4 : e = fbot p q n d e * rg3 p q n d e * rg2 d e := by rw [fbot, Int.ediv_mul_cancel d3, rbot, Int.ediv_mul_cancel b2]
    generalize fim p q n d e = A at *
    generalize ftop p q n d e = B at *
    generalize fden p q n d e = C at *
    generalize fbot p q n d e = D at *
    generalize ((rg1 p q n : Nat) : Int) = G1 at *
    generalize ((rg2 d e : Nat) : Int) = G2 at *
    generalize ((rg3 p q n d e : Nat) : Int) = G3 at *
    generalize ((rg4 p q n d e : Nat) : Int) = G4 at *
    clear a1 a2 a3 b1 b2 d1 d2 d3 e1 e2 h1 h2 h3 h4 c1 c2 c3
    subst x1 x2 x3 x4
    grind

theorem eqPL_cx (a b : Cx) : eqPL [i64 a.re, i64 a.im, i64 a.den] [i64 b.re, i64 b.im, i64 b.den] = decide (a = b) := by
  cases a; cases b
  rw [Bool.eq_iff_iff]
  simp [eqPL, eqP]

/-- The square of the absolute value. -/
def nrm (a : Cx) : Frac × Int :=
  if a.valid then
    (if (a.re * a.re + a.im * a.im) / Int.gcd (a.re * a.re + a.im * a.im) (a.den * a.den) > 1000000000000000000 then (⟨0, 0⟩, 16)
     else (⟨(a.re * a.re + a.im * a.im) / Int.gcd (a.re * a.re + a.im * a.im) (a.den * a.den), (a.den * a.den) / Int.gcd (a.re * a.re + a.im * a.im) (a.den * a.den)⟩, 0))
  else (⟨0, 0⟩, 8)

def rot (a : Cx) : Cx := ⟨-a.im, a.re, a.den⟩
def rotN : Nat → Cx → Cx
  | 0, a => a
  | n + 1, a => rotN n (rot a)

/-- Quarters of a turn. -/
def quart (q : Int) : Nat := ((q.tmod 4 + 4).tmod 4).toNat
def turn (a : Cx) (q : Int) : Cx × Int := if a.valid then (rotN (quart q) a, 0) else (c0, 8)

def ray (a : Cx) : Cx × Int := if a.valid then (if a.zero then (c0, 18) else (⟨a.re / Int.gcd a.re a.im, a.im / Int.gcd a.re a.im, 1⟩, 0)) else (c0, 8)

theorem sq_nonneg (x : Int) : 0 ≤ x * x := by rw [← Int.natAbs_mul_self]; omega

end Go.Pv

/- Visibilities, in plain Lean. -/
namespace Go.Pv
open Go.Vc

structure Vis where
  i : Int
  j : Int
  v : Cx
  n : Int
deriving DecidableEq

instance : Enc Vis where
  sz := 6
  cs l := [i64 l.i, i64 l.j, i64 l.v.re, i64 l.v.im, i64 l.v.den, i64 l.n]
  ok l := I64 l.i ∧ I64 l.j ∧ Enc.ok l.v ∧ I64 l.n
  len _ := rfl
  pos := by decide

abbrev vi (l : Vis) : PV := .agg [i64 l.i, i64 l.j, i64 l.v.re, i64 l.v.im, i64 l.v.den, i64 l.n]

/-- Valid for n stations. -/
def Vis.good (v : Vis) (n : Int) : Prop := 0 ≤ v.i ∧ v.i < v.j ∧ v.j < n ∧ 0 ≤ v.n ∧ v.v.valid
instance (v : Vis) (n : Int) : Decidable (v.good n) := by unfold Vis.good; infer_instance

def all26 (l : List Vis) (n : Int) : Int := if 64 < l.length then 4 else if l.all (fun v => decide (v.good n)) then 0 else 8

def Vis.key (v : Vis) : Int × Int := (v.i, v.j)

def ck27 (l : List Vis) : Int := if all26 l 8 ≠ 0 then all26 l 8 else if (l.map Vis.key).Nodup then 0 else 14

theorem all26_0 {l : List Vis} {n : Int} (h : all26 l n = 0) : l.length ≤ 64 ∧ ∀ v ∈ l, v.good n := by
  unfold all26 at h
  split at h
  · omega
  · split at h
    · rename_i h1 h2
      rw [List.all_eq_true] at h2
      exact ⟨by omega, fun v hv => by simpa using h2 v hv⟩
    · omega

theorem all26_8 {l : List Vis} {n : Int} (h : l.length ≤ 64) {k : Nat} (hk : k < l.length) (hb : ¬ l[k].good n) : all26 l n = 8 := by
  unfold all26
  rw [if_neg (by omega), if_neg]
  rw [List.all_eq_true]
  intro h'
  have := h' l[k] (List.getElem_mem hk)
  exact hb (by simpa using this)

theorem ck27_0 {l : List Vis} (h : ck27 l = 0) : l.length ≤ 64 ∧ (∀ v ∈ l, v.good 8) ∧ (l.map Vis.key).Nodup := by
  unfold ck27 at h
  split at h
  · omega
  · split at h
    · rename_i h1 h2
      have := all26_0 (by omega : all26 l 8 = 0)
      exact ⟨this.1, this.2, h2⟩
    · omega

theorem keys_succ {l : List Vis} {k : Nat} (hk : k < l.length) : ((l.take (k + 1)).map Vis.key).Nodup ↔ ((l.take k).map Vis.key).Nodup ∧ ∀ m, (hm : m < k) → (l[m]'(by omega)).key ≠ l[k].key := by
  rw [List.take_succ_eq_append_getElem hk, List.map_append, List.map_singleton, List.nodup_append]
  constructor
  · rintro ⟨h1, _, h3⟩
    refine ⟨h1, fun m hm => ?_⟩
    refine h3 _ ?_ _ (by simp)
    rw [List.mem_map]
    exact ⟨l[m], by rw [List.mem_take_iff_getElem]; exact ⟨m, by omega, rfl⟩, rfl⟩
  · rintro ⟨h1, h2⟩
    refine ⟨h1, by simp, ?_⟩
    intro a ha b hb
    simp at hb
    subst hb
    rw [List.mem_map] at ha
    obtain ⟨v, hv, rfl⟩ := ha
    rw [List.mem_take_iff_getElem] at hv
    obtain ⟨m, hm, rfl⟩ := hv
    exact h2 m (by omega)

theorem keys_take {l : List Vis} (k : Nat) (h : (l.map Vis.key).Nodup) : ((l.take k).map Vis.key).Nodup := by
  rw [List.map_take]
  exact h.sublist (List.take_sublist ..)

/-- Whether a pair of stations is there. -/
def hit (l : List Vis) (c : Nat) : Bool := l.any fun v => v.i * 8 + v.j == c

theorem hit_snoc (l : List Vis) (v : Vis) (c : Nat) : hit (l ++ [v]) c = (hit l c || (v.i * 8 + v.j == c)) := by
  simp [hit]

def seenAt (l : List Vis) : List PV := (List.range 64).map fun c => bl (hit l c)

theorem seenAt_nil : List.replicate 64 (bl false) = seenAt [] := rfl

theorem part_map {α : Type} (g : Nat → α) (n i m : Nat) (h : i + m ≤ n) : (((List.range n).map g).drop i).take m = (List.range m).map fun j => g (i + j) := by
  apply List.ext_getElem?
  intro j
  rw [List.getElem?_take]
  split
  · rename_i hj
    rw [List.getElem?_drop, List.getElem?_map, List.getElem?_map, List.getElem?_range (by omega), List.getElem?_range (by omega)]
    rfl
  · rename_i hj
    rw [List.getElem?_eq_none]
    simp; omega

theorem spl_map {α : Type} (g g' : Nat → α) (n i : Nat) (v : α) (h : i < n) (hv : g' i = v) (hg : ∀ j, j ≠ i → g' j = g j) : spl ((List.range n).map g) i [v] = (List.range n).map g' := by
  apply List.ext_getElem?
  intro j
  unfold spl
  have hl : (((List.range n).map g).take i).length = i := by simp; omega
  rw [List.append_assoc, List.getElem?_append, hl]
  split
  · rename_i hj
    rw [List.getElem?_take, if_pos hj, List.getElem?_map, List.getElem?_map, List.getElem?_range (by omega)]
    simp [hg j (by omega)]
  · rename_i hj
    rw [List.getElem?_append]
    split
    · rename_i hj2
      simp at hj2
      have : j = i := by omega
      subst this
      simp [h, hv]
    · rename_i hj2
      simp at hj2
      rw [List.getElem?_drop, List.getElem?_map, List.getElem?_map]
      simp only [List.length_singleton]
      rw [show i + 1 + (j - i - 1) = j by omega]
      by_cases hjn : j < n
      · rw [List.getElem?_range hjn]; simp [hg j (by omega)]
      · rw [List.getElem?_eq_none (by simp; omega)]; simp

theorem hit_iff {l : List Vis} (hl : ∀ v ∈ l, v.good 8) {v : Vis} (hv : v.good 8) {c : Nat} (hc : v.i * 8 + v.j = c) : hit l c = true ↔ ∃ u ∈ l, u.key = v.key := by
  unfold hit
  rw [List.any_eq_true]
  constructor
  · rintro ⟨u, hu, h⟩
    have g := hl u hu
    simp at h
    refine ⟨u, hu, ?_⟩
    unfold Vis.good at g hv
    unfold Vis.key
    have : u.i = v.i := by omega
    have : u.j = v.j := by omega
    simp [*]
  · rintro ⟨u, hu, h⟩
    refine ⟨u, hu, ?_⟩
    unfold Vis.key at h
    simp at h
    simp [h.1, h.2, hc]

/-- The visibility from a station to another one. -/
def got (i j : Int) : List Vis → Option Cx
  | [] => none
  | v :: r => if v.i = i ∧ v.j = j then some v.v else if v.i = j ∧ v.j = i then some (conj v.v) else got i j r

theorem got_drop {l : List Vis} {k : Nat} (hk : k < l.length) (i j : Int) : got i j (l.drop k) = if l[k].i = i ∧ l[k].j = j then some l[k].v else if l[k].i = j ∧ l[k].j = i then some (conj l[k].v) else got i j (l.drop (k + 1)) := by
  rw [List.drop_eq_getElem_cons hk]; rfl

/-- All are stations, and different. -/
def apart (l : List Int) : Prop := (∀ s ∈ l, 0 ≤ s ∧ s < 8) ∧ l.Nodup
instance (l : List Int) : Decidable (apart l) := by unfold apart; infer_instance

theorem apart_succ {l : List Int} {k : Nat} (hk : k < l.length) : apart (l.take (k + 1)) ↔ apart (l.take k) ∧ (0 ≤ l[k] ∧ l[k] < 8) ∧ l[k] ∉ l.take k := by
  unfold apart
  rw [List.take_succ_eq_append_getElem hk, List.nodup_append]
  constructor
  · rintro ⟨h1, h2, _, h3⟩
    exact ⟨⟨fun s hs => h1 s (List.mem_append_left _ hs), h2⟩, h1 _ (List.mem_append_right _ (List.mem_singleton.2 rfl)), fun hm => h3 _ hm _ (List.mem_singleton.2 rfl) rfl⟩
  · rintro ⟨⟨h1, h2⟩, h3, h4⟩
    refine ⟨fun s hs => ?_, h2, by simp, fun a ha b hb => ?_⟩
    · rw [List.mem_append] at hs
      rcases hs with hs | hs
      · exact h1 s hs
      · simp at hs; rw [hs]; exact h3
    · simp at hb; rintro rfl; exact h4 (hb ▸ ha)

theorem apart_take {l : List Int} (k : Nat) (h : apart l) : apart (l.take k) :=
  ⟨fun s hs => h.1 s (List.mem_of_mem_take hs), h.2.sublist (List.take_sublist ..)⟩

def inAt (l : List Int) : List PV := (List.range 8).map fun (c : Nat) => bl (decide ((c : Int) ∈ l))

def get27 (l : List Vis) (i j : Int) : Cx × Int :=
  if ck27 l ≠ 0 then (c0, ck27 l) else if ¬ apart [i, j] then (c0, 2) else match got i j l with | some c => (c, 0) | none => (c0, 6)

/-! Triples -/

structure Tri where
  a : Int
  b : Int
  c : Int
deriving DecidableEq

instance : Enc Tri where
  sz := 3
  cs l := [i64 l.a, i64 l.b, i64 l.c]
  ok l := I64 l.a ∧ I64 l.b ∧ I64 l.c
  len _ := rfl
  pos := by decide

def isTri (l : List Vis) (n : Nat) : Bool := decide (n / 64 < n / 8 % 8) && decide (n / 8 % 8 < n % 8) && hit l (n / 64 * 8 + n / 8 % 8) && hit l (n / 8 % 8 * 8 + n % 8) && hit l (n / 64 * 8 + n % 8)

def tris (l : List Vis) : Nat → List Tri
  | 0 => []
  | n + 1 => tris l n ++ if isTri l n then [⟨(n / 64 : Nat), (n / 8 % 8 : Nat), (n % 8 : Nat)⟩] else []

theorem tris_skip (l : List Vis) (x : Nat) : ∀ d : Nat, (∀ m, x ≤ m → m < x + d → isTri l m = false) → tris l (x + d) = tris l x
  | 0, _ => rfl
  | d + 1, h => by
    rw [show x + (d + 1) = (x + d) + 1 from rfl, tris, h (x + d) (by omega) (by omega), tris_skip l x d fun m h1 h2 => h m h1 (by omega)]
    simp

theorem tris_length (l : List Vis) : ∀ n, (tris l n).length ≤ n
  | 0 => Nat.le_refl _
  | n + 1 => by
    have := tris_length l n
    rw [tris, List.length_append]
    split <;> simp <;> omega

def triples (l : List Vis) : List Tri × Int := if ck27 l ≠ 0 then ([], ck27 l) else (tris l 512, 0)

theorem got_some {l : List Vis} (hl : ∀ v ∈ l, v.good 8) {a b : Nat} (hab : a < b) (hb : b < 8) : (got a b l).isSome = hit l (a * 8 + b) := by
  induction l with
  | nil => rfl
  | cons v r ih =>
    have g := hl v (by simp)
    unfold Vis.good at g
    have ih := ih fun u hu => hl u (by simp [hu])
    unfold got hit
    rw [List.any_cons]
    by_cases h : v.i = a ∧ v.j = b
    · rw [if_pos h]
      simp [h.1, h.2]
    · rw [if_neg h, if_neg (by omega), ih]
      have : ¬ (v.i * 8 + v.j = ((a * 8 + b : Nat) : Int)) := by omega
      rw [show (v.i * 8 + v.j == ((a * 8 + b : Nat) : Int)) = false by simp; omega]
      rfl

end Go.Pv

/- Triples of stations, in plain Lean. -/
namespace Go.Pv
open Go.Vc

theorem tris_b (l : List Vis) {a : Nat} (ha : a < 8) : tris l (a * 64 + (a + 1) * 8) = tris l (a * 64) := by
  refine tris_skip l _ _ fun m h1 h2 => ?_
  have e1 : m / 64 = a := by omega
  have e2 : ¬ (m / 64 < m / 8 % 8) := by omega
  simp [isTri, e2]

theorem tris_c (l : List Vis) {a b : Nat} (ha : a < 8) (hb : b < 8) : tris l (a * 64 + b * 8 + (b + 1)) = tris l (a * 64 + b * 8) := by
  refine tris_skip l _ _ fun m h1 h2 => ?_
  have e2 : ¬ (m / 8 % 8 < m % 8) := by omega
  simp [isTri, e2]

theorem isTri_at (l : List Vis) {a b c : Nat} (hab : a < b) (hbc : b < c) (hc : c < 8) : isTri l (a * 64 + b * 8 + c) = (hit l (a * 8 + b) && hit l (b * 8 + c) && hit l (a * 8 + c)) := by
  have e1 : (a * 64 + b * 8 + c) / 64 = a := by omega
  have e2 : (a * 64 + b * 8 + c) / 8 % 8 = b := by omega
  have e3 : (a * 64 + b * 8 + c) % 8 = c := by omega
  simp [isTri, e1, e2, e3, hab, hbc]

theorem tris_at (l : List Vis) {a b c : Nat} (hab : a < b) (hbc : b < c) (hc : c < 8) : tris l (a * 64 + b * 8 + (c + 1)) = tris l (a * 64 + b * 8 + c) ++ if (hit l (a * 8 + b) && hit l (b * 8 + c) && hit l (a * 8 + c)) then [⟨a, b, c⟩] else [] := by
  rw [← Nat.add_assoc, tris, isTri_at l hab hbc hc]
  have e1 : (a * 64 + b * 8 + c) / 64 = a := by omega
  have e2 : (a * 64 + b * 8 + c) / 8 % 8 = b := by omega
  have e3 : (a * 64 + b * 8 + c) % 8 = c := by omega
  rw [e1, e2, e3]

end Go.Pv

/- Tables of gains, in plain Lean. -/
namespace Go.Pv
open Go.Vc

def okG (c : Cx) : Prop := c.valid ∧ ¬ c.zero
instance (c : Cx) : Decidable (okG c) := by unfold okG; infer_instance

/-- The error of a table. -/
def ck26 (g : List Cx) : Int := if 8 < g.length then 4 else if g.length = 0 then 8 else if g.all (fun c => decide (okG c)) then 0 else 8

theorem ck26_0 {g : List Cx} (h : ck26 g = 0) : g.length ≤ 8 ∧ 0 < g.length ∧ ∀ c ∈ g, okG c := by
  unfold ck26 at h
  split at h
  · omega
  · split at h
    · omega
    · split at h
      · rename_i h1 h2 h3
        rw [List.all_eq_true] at h3
        exact ⟨by omega, by omega, fun c hc => by simpa using h3 c hc⟩
      · omega

theorem ck26_8 {g : List Cx} (h : g.length ≤ 8) {k : Nat} (hk : k < g.length) (hb : ¬ okG g[k]) : ck26 g = 8 := by
  unfold ck26
  rw [if_neg (by omega), if_neg (by omega), if_neg]
  rw [List.all_eq_true]
  intro h'
  exact hb (by simpa using h' g[k] (List.getElem_mem hk))

theorem ck26_ok {g : List Cx} (h : g.length ≤ 8) (h0 : 0 < g.length) (hb : ∀ c ∈ g, okG c) : ck26 g = 0 := by
  unfold ck26
  rw [if_neg (by omega), if_neg (by omega), if_pos]
  rw [List.all_eq_true]
  intro c hc
  simpa using hb c hc

theorem conj_valid {a : Cx} (h : a.valid) : (conj a).valid := by
  obtain ⟨h1, h2, h3, h4, h5⟩ := h
  refine ⟨h1, h2, h3, by unfold fits at *; simp only [conj]; omega, ?_⟩
  unfold g3 at h5 ⊢
  simpa [conj] using h5

theorem make_err (x y z : Int) : (make x y z).2 = 0 ∨ make x y z = (c0, 16) := by
  unfold make
  split
  · exact .inl rfl
  · exact .inr rfl

/-- Products of valid numbers: there is one, or it is out of range. -/
theorem mul_err {a b : Cx} (ha : a.valid) (hb : b.valid) : (mul a b).2 = 0 ∨ mul a b = (c0, 16) := by
  unfold mul
  rw [if_pos ⟨ha, hb⟩]
  exact make_err _ _ _

theorem make_ok {x y z : Int} (hz : 0 < z) (h : (make x y z).2 = 0) : (make x y z).1 = norm x y z ∧ (norm x y z).valid := by
  rw [make_valid hz] at h ⊢
  split at h
  · rename_i hv; rw [if_pos hv]; exact ⟨rfl, hv⟩
  · simp at h

theorem mul_ok {a b : Cx} (ha : a.valid) (hb : b.valid) (h : (mul a b).2 = 0) : (mul a b).1 = norm (a.re * b.re - a.im * b.im) (a.re * b.im + a.im * b.re) (a.den * b.den) ∧ (mul a b).1.valid := by
  have e : mul a b = make (a.re * b.re - a.im * b.im) (a.re * b.im + a.im * b.re) (a.den * b.den) := by rw [mul, if_pos ⟨ha, hb⟩]
  rw [e] at h ⊢
  have hp : 0 < a.den * b.den := mul_pos' ha.1 hb.1
  obtain ⟨h1, h2⟩ := make_ok hp h
  rw [h1]
  exact ⟨rfl, h2⟩

/-- A number times the conjugate of another one. -/
def tconj (a b : Cx) : Cx × Int := if b.valid then mul a (conj b) else (c0, 8)

/-- The first error among products. -/
def perr (m : Cx → Cx → Cx × Int) (u v : Nat → Cx) : Nat → Int
  | 0 => 0
  | n + 1 => if perr m u v n ≠ 0 then perr m u v n else (m (u n) (v n)).2

def prods (m : Cx → Cx → Cx × Int) (u v : Nat → Cx) (n : Nat) : List Cx × Int :=
  if perr m u v n = 0 then ((List.range n).map fun k => (m (u k) (v k)).1, 0) else ([], perr m u v n)

theorem perr_le {m : Cx → Cx → Cx × Int} {u v : Nat → Cx} {n : Nat} (h : perr m u v n ≠ 0) : ∀ d, perr m u v (n + d) = perr m u v n
  | 0 => rfl
  | d + 1 => by rw [show n + (d + 1) = (n + d) + 1 from rfl, perr, perr_le h d, if_pos h]

theorem perr_bad {m : Cx → Cx → Cx × Int} {u v : Nat → Cx} {k n : Nat} (hk : k < n) (h0 : perr m u v k = 0) (h : (m (u k) (v k)).2 ≠ 0) : perr m u v n = (m (u k) (v k)).2 := by
  have e : perr m u v (k + 1) = (m (u k) (v k)).2 := by rw [perr, if_neg (by simp [h0])]
  obtain ⟨d, rfl⟩ : ∃ d, n = (k + 1) + d := ⟨n - (k + 1), by omega⟩
  rw [perr_le (by rw [e]; exact h), e]

theorem perr_0 {m : Cx → Cx → Cx × Int} {u v : Nat → Cx} : ∀ {n : Nat}, perr m u v n = 0 ↔ ∀ k, k < n → (m (u k) (v k)).2 = 0
  | 0 => ⟨fun _ k hk => by omega, fun _ => rfl⟩
  | n + 1 => by
    rw [perr]
    constructor
    · intro h k hk
      by_cases h0 : perr m u v n = 0
      · rw [if_neg (by simp [h0])] at h
        by_cases e : k = n
        · subst e; exact h
        · exact (perr_0.1 h0) k (by omega)
      · rw [if_pos h0] at h; exact absurd h h0
    · intro h
      have h0 : perr m u v n = 0 := perr_0.2 fun k hk => h k (by omega)
      rw [if_neg (by simp [h0])]
      exact h n (by omega)

/-- All errors are the same. -/
theorem perr_16 {m : Cx → Cx → Cx × Int} {u v : Nat → Cx} {n : Nat} (hm : ∀ k, k < n → (m (u k) (v k)).2 = 0 ∨ m (u k) (v k) = (c0, 16)) : perr m u v n = 0 ∨ perr m u v n = 16 := by
  induction n with
  | zero => exact .inl rfl
  | succ n ih =>
    rw [perr]
    rcases ih fun k hk => hm k (by omega) with h | h
    · rw [if_neg (by simp [h])]
      rcases hm n (by omega) with h | h
      · exact .inl h
      · exact .inr (by rw [h])
    · rw [if_pos (by omega)]; exact .inr h

def at_ (g : List Cx) (i : Int) : Cx := g.getD i.toNat c0

/-- What a table makes of one visibility's value. -/
def act1 (g : List Cx) (v : Vis) : Cx × Int :=
  if (mul (at_ g v.i) v.v).2 ≠ 0 then (c0, 16) else
  if (mul (mul (at_ g v.i) v.v).1 (conj (at_ g v.j))).2 ≠ 0 then (c0, 16) else mul (mul (at_ g v.i) v.v).1 (conj (at_ g v.j))

def Vis.set (v : Vis) (c : Cx) : Vis := ⟨v.i, v.j, c, v.n⟩

def act26 (g : List Cx) (l : List Vis) : List Vis × Int :=
  if ck26 g ≠ 0 then ([], ck26 g) else if all26 l g.length ≠ 0 then ([], all26 l g.length) else
  if l.all (fun v => (act1 g v).2 = 0) then (l.map fun v => v.set (act1 g v).1, 0) else ([], 16)

abbrev resV (r : List Vis × Int) : SV := .tup [.p (sl r.1), .p (i64 r.2)]
abbrev resCs (r : List Cx × Int) : SV := .tup [.p (sl r.1), .p (i64 r.2)]

theorem at_get {g : List Cx} {k : Nat} (h : k < g.length) : at_ g k = g[k] := by
  simp [at_, List.getD, h]

theorem at_mem {g : List Cx} {i : Int} (h0 : 0 ≤ i) (h : i < g.length) : at_ g i ∈ g := by
  obtain ⟨k, rfl⟩ : ∃ k : Nat, i = k := ⟨i.toNat, by omega⟩
  rw [at_get (by omega)]
  exact List.getElem_mem _

end Go.Pv

/- Closure phases and amplitudes, in plain Lean. -/
namespace Go.Pv
open Go.Vc

structure Pr where
  a : Int
  b : Int
deriving DecidableEq

instance : Enc Pr where
  sz := 2
  cs l := [i64 l.a, i64 l.b]
  ok l := I64 l.a ∧ I64 l.b
  len _ := rfl
  pos := by decide

def gD (l : List Vis) (s : Pr) : Cx := (got s.a s.b l).getD c0

/-- The visibilities of some steps. -/
def along27 (l : List Vis) (st : List Pr) : List Cx × Int :=
  if st.all (fun s => (got s.a s.b l).isSome) then (if st.any (fun s => decide (gD l s).zero) then ([], 18) else (st.map (gD l), 0)) else ([], 6)

/-- A circle's steps. -/
def pairs (c : List Int) : List Pr := (List.range c.length).map fun k => ⟨c.getD k 0, c.getD ((k + 1) % c.length) 0⟩

def turned (r v : Cx) : Cx × Int :=
  if (ray v).2 ≠ 0 then (c0, (ray v).2) else if (mul r (ray v).1).2 ≠ 0 then (c0, (mul r (ray v).1).2) else ray (mul r (ray v).1).1

def fold27 (r : Cx) : List Cx → Cx × Int
  | [] => (r, 0)
  | v :: t => if (turned r v).2 ≠ 0 then (c0, (turned r v).2) else fold27 (turned r v).1 t

def circle (c : List Int) : Prop := 3 ≤ c.length ∧ c.length ≤ 8 ∧ apart c
instance (c : List Int) : Decidable (circle c) := by unfold circle; infer_instance

def phase (l : List Vis) (c : List Int) : Cx × Int :=
  if ck27 l ≠ 0 then (c0, ck27 l) else if ¬ circle c then (c0, 2) else if (along27 l (pairs c)).2 ≠ 0 then (c0, (along27 l (pairs c)).2) else fold27 one (along27 l (pairs c)).1

def f0 : Frac := ⟨0, 0⟩

def amp4 (p q r s : Cx) : Frac × Int :=
  if (mul p q).2 ≠ 0 then (f0, (mul p q).2) else if (mul r s).2 ≠ 0 then (f0, (mul r s).2) else if (div (mul p q).1 (mul r s).1).2 ≠ 0 then (f0, (div (mul p q).1 (mul r s).1).2) else nrm (div (mul p q).1 (mul r s).1).1

def amp (l : List Vis) (a b c d : Int) : Frac × Int :=
  if ck27 l ≠ 0 then (f0, ck27 l) else if ¬ apart [a, b, c, d] then (f0, 2) else if (along27 l [⟨a, b⟩, ⟨c, d⟩, ⟨a, c⟩, ⟨b, d⟩]).2 ≠ 0 then (f0, (along27 l [⟨a, b⟩, ⟨c, d⟩, ⟨a, c⟩, ⟨b, d⟩]).2)
  else amp4 (gD l ⟨a, b⟩) (gD l ⟨c, d⟩) (gD l ⟨a, c⟩) (gD l ⟨b, d⟩)

theorem got_valid {l : List Vis} (hl : ∀ v ∈ l, v.good 8) {i j : Int} {c : Cx} (h : got i j l = some c) : c.valid := by
  induction l with
  | nil => cases h
  | cons v r ih =>
    have g := (hl v (by simp)).2.2.2.2
    unfold got at h
    split at h
    · cases h; exact g
    · split at h
      · cases h; exact conj_valid g
      · exact ih (fun u hu => hl u (by simp [hu])) h

theorem gD_valid {l : List Vis} (hl : ∀ v ∈ l, v.good 8) {s : Pr} (h : (got s.a s.b l).isSome = true) : (gD l s).valid := by
  unfold gD
  cases hg : got s.a s.b l with
  | none => rw [hg] at h; cases h
  | some c => exact got_valid hl hg

theorem along27_0 {l : List Vis} (hl : ∀ v ∈ l, v.good 8) {st : List Pr} (h : (along27 l st).2 = 0) : (along27 l st).1 = st.map (gD l) ∧ (∀ s ∈ st, (got s.a s.b l).isSome = true) ∧ ∀ s ∈ st, (gD l s).valid ∧ ¬ (gD l s).zero := by
  unfold along27 at h ⊢
  split at h
  · rename_i h1
    split at h
    · simp at h
    · rename_i h2
      rw [if_pos h1, if_neg h2]
      rw [List.all_eq_true] at h1
      refine ⟨rfl, h1, fun s hs => ⟨gD_valid hl (h1 s hs), fun hz => h2 ?_⟩⟩
      rw [List.any_eq_true]
      exact ⟨s, hs, by simpa using hz⟩
  · simp at h

theorem nz_gcd {a : Cx} (h : ¬ a.zero) : 0 < Int.gcd a.re a.im := by
  rcases Nat.eq_zero_or_pos (Int.gcd a.re a.im) with h0 | h0
  · rw [Int.gcd_eq_zero_iff] at h0; exact absurd h0 h
  · exact h0

/-- A ray is a valid number, and its own ray. -/
theorem ray_ok {a : Cx} (ha : a.valid) (hz : ¬ a.zero) : (ray a).2 = 0 ∧ (ray a).1.valid ∧ ¬ (ray a).1.zero ∧ (ray a).1 = ⟨a.re / Int.gcd a.re a.im, a.im / Int.gcd a.re a.im, 1⟩ ∧ Int.gcd (ray a).1.re (ray a).1.im = 1 := by
  have hg := nz_gcd hz
  have e : ray a = (⟨a.re / Int.gcd a.re a.im, a.im / Int.gcd a.re a.im, 1⟩, 0) := by rw [ray, if_pos ha, if_neg hz]
  have d1 : ((Int.gcd a.re a.im : Nat) : Int) ∣ a.re := Int.gcd_dvd_left ..
  have d2 : ((Int.gcd a.re a.im : Nat) : Int) ∣ a.im := Int.gcd_dvd_right ..
  have l1 := ediv_le hg d1
  have l2 := ediv_le hg d2
  have hc : Int.gcd (a.re / Int.gcd a.re a.im) (a.im / Int.gcd a.re a.im) = 1 := cop_div hg
  obtain ⟨f1, f2, _, _⟩ := valid_fits ha
  unfold fits at f1 f2
  rw [e]
  refine ⟨rfl, ⟨by simp, by simp, by unfold fits; simp only; omega, by unfold fits; simp only; omega, ?_⟩, ?_, rfl, hc⟩
  · unfold g3; simp only; rw [hc]; rfl
  · rintro ⟨z1, z2⟩
    simp only at z1 z2
    rw [z1, z2] at hc
    simp at hc

theorem ray_ray {a : Cx} (h1 : a.den = 1) (h2 : Int.gcd a.re a.im = 1) (hv : a.valid) (hz : ¬ a.zero) : ray a = (a, 0) := by
  rw [ray, if_pos hv, if_neg hz, h2]
  cases a
  simp at h1
  simp [h1]

theorem one_valid : one.valid := by decide

theorem mul_one_left {a : Cx} (ha : a.valid) : mul one a = (a, 0) := by
  rw [mul, if_pos ⟨one_valid, ha⟩]
  have e : make (one.re * a.re - one.im * a.im) (one.re * a.im + one.im * a.re) (one.den * a.den) = make a.re a.im a.den := by simp [one]
  rw [e, make_valid (by have := ha.1; omega), norm_low (by have := ha.1; omega) ha.2.2.2.2]
  exact if_pos ha

theorem turned_one {v : Cx} (hv : v.valid) (hz : ¬ v.zero) : turned one v = ray v := by
  obtain ⟨h1, h2, h3, h4, h5⟩ := ray_ok hv hz
  rw [turned, if_neg (by simp [h1]), mul_one_left h2, if_neg (by simp), ray_ray (by rw [h4]) h5 h2 h3]
  rw [← h1]

/-- Numbers are zero only if a factor is. -/
theorem mul_zero_iff {a b : Cx} (ha : a.valid) (hb : b.valid) (h : (mul a b).2 = 0) : (mul a b).1.zero ↔ a.zero ∨ b.zero := by
  obtain ⟨h1, h2⟩ := mul_ok ha hb h
  have hp : 0 < a.den * b.den := mul_pos' ha.1 hb.1
  obtain ⟨g, hg, e1, e2, e3, _, _⟩ := norm_spec (x := a.re * b.re - a.im * b.im) (y := a.re * b.im + a.im * b.re) hp
  rw [← h1] at e1 e2
  have key : (a.re * b.re - a.im * b.im) * (a.re * b.re - a.im * b.im) + (a.re * b.im + a.im * b.re) * (a.re * b.im + a.im * b.re) = (a.re * a.re + a.im * a.im) * (b.re * b.re + b.im * b.im) := by grind
  have nz : ∀ c : Cx, c.re * c.re + c.im * c.im = 0 ↔ c.zero := by
    intro c
    constructor
    · intro h
      have s1 := sq_nonneg c.re
      have s2 := sq_nonneg c.im
      have t1 : c.re * c.re = 0 := by omega
      have t2 : c.im * c.im = 0 := by omega
      exact ⟨by rcases Int.mul_eq_zero.1 t1 with h | h <;> exact h, by rcases Int.mul_eq_zero.1 t2 with h | h <;> exact h⟩
    · rintro ⟨h1, h2⟩; rw [h1, h2]; rfl
  constructor
  · rintro ⟨z1, z2⟩
    rw [z1] at e1
    rw [z2] at e2
    rw [e1, e2] at key
    have : (a.re * a.re + a.im * a.im) * (b.re * b.re + b.im * b.im) = 0 := by rw [← key]; simp
    rcases Int.mul_eq_zero.1 this with h | h
    · exact .inl ((nz a).1 h)
    · exact .inr ((nz b).1 h)
  · intro h
    have hx : a.re * b.re - a.im * b.im = 0 ∧ a.re * b.im + a.im * b.re = 0 := by
      rcases h with ⟨z1, z2⟩ | ⟨z1, z2⟩ <;> simp [z1, z2]
    rw [hx.1] at e1
    rw [hx.2] at e2
    have hgz : ((g : Nat) : Int) ≠ 0 := by omega
    exact ⟨(Int.mul_eq_zero.1 e1.symm).resolve_right hgz, (Int.mul_eq_zero.1 e2.symm).resolve_right hgz⟩

/-- One more step: it fails only by range, and gives a ray. -/
theorem turned_err {r v : Cx} (hr : r.valid) (hrz : ¬ r.zero) (hv : v.valid) (hz : ¬ v.zero) :
    ((mul r (ray v).1).2 = 0 ∧ turned r v = ray (mul r (ray v).1).1 ∧ (turned r v).2 = 0 ∧ (turned r v).1.valid ∧ ¬ (turned r v).1.zero ∧ (turned r v).1.den = 1 ∧ Int.gcd (turned r v).1.re (turned r v).1.im = 1) ∨ (mul r (ray v).1 = (c0, 16) ∧ turned r v = (c0, 16)) := by
  obtain ⟨h1, h2, h3, _, _⟩ := ray_ok hv hz
  rcases mul_err hr h2 with h | h
  · refine .inl ?_
    have e : turned r v = ray (mul r (ray v).1).1 := by rw [turned, if_neg (by simp [h1]), if_neg (by simp [h])]
    have hnz : ¬ (mul r (ray v).1).1.zero := by
      rw [mul_zero_iff hr h2 h]
      rintro (h | h)
      · exact hrz h
      · exact h3 h
    obtain ⟨k1, k2, k3, k4, k5⟩ := ray_ok (mul_ok hr h2 h).2 hnz
    refine ⟨h, e, ?_, ?_, ?_, ?_, ?_⟩
    · rw [e]; exact k1
    · rw [e]; exact k2
    · rw [e]; exact k3
    · rw [e, k4]
    · rw [e]; exact k5
  · exact .inr ⟨h, by rw [turned, if_neg (by simp [h1]), h, if_pos (by simp)]⟩

theorem one_nz : ¬ one.zero := by decide

end Go.Pv

/- Directions of complex numbers: closure phases do not depend on the order of the steps. -/
namespace Go.Pv
open Go.Vc

/-- Whole complex numbers. -/
abbrev Z := Int × Int
def zmul (a b : Z) : Z := (a.1 * b.1 - a.2 * b.2, a.1 * b.2 + a.2 * b.1)
def zconj (a : Z) : Z := (a.1, -a.2)
def zn (c : Cx) : Z := (c.re, c.im)

theorem zmul_comm (a b : Z) : zmul a b = zmul b a := by
  unfold zmul; ext <;> grind
theorem zmul_assoc (a b c : Z) : zmul (zmul a b) c = zmul a (zmul b c) := by
  unfold zmul; ext <;> grind
theorem zmul_one (a : Z) : zmul a (1, 0) = a := by
  unfold zmul; ext <;> simp
theorem zmul_conj (a b : Z) : zmul (zconj a) (zconj b) = zconj (zmul a b) := by
  unfold zmul zconj; ext <;> grind

def zprod (l : List Cx) : Z := l.foldr (fun v z => zmul (zn v) z) (1, 0)

theorem zprod_cons (v : Cx) (l : List Cx) : zprod (v :: l) = zmul (zn v) (zprod l) := rfl

theorem zprod_perm {l m : List Cx} (h : l.Perm m) : zprod l = zprod m := by
  induction h with
  | nil => rfl
  | cons x _ ih => rw [zprod_cons, zprod_cons, ih]
  | swap x y l =>
    rw [zprod_cons, zprod_cons, zprod_cons, zprod_cons, ← zmul_assoc, zmul_comm (zn y), zmul_assoc]
  | trans _ _ h1 h2 => rw [h1, h2]

theorem zprod_conj (l : List Cx) : zprod (l.map conj) = zconj (zprod l) := by
  induction l with
  | nil => rfl
  | cons v r ih =>
    rw [List.map_cons, zprod_cons, zprod_cons, ih, show zn (conj v) = zconj (zn v) from rfl, zmul_conj]

/-- The same direction. -/
def par (a b : Z) : Prop := ∃ s t : Int, 0 < s ∧ 0 < t ∧ a.1 * s = b.1 * t ∧ a.2 * s = b.2 * t

theorem par_refl (a : Z) : par a a := ⟨1, 1, by decide, by decide, rfl, rfl⟩
theorem par_symm {a b : Z} : par a b → par b a := fun ⟨s, t, h1, h2, h3, h4⟩ => ⟨t, s, h2, h1, h3.symm, h4.symm⟩
theorem par_trans {a b c : Z} : par a b → par b c → par a c := fun ⟨s, t, h1, h2, h3, h4⟩ ⟨u, v, k1, k2, k3, k4⟩ =>
  ⟨s * u, t * v, Int.mul_pos h1 k1, Int.mul_pos h2 k2, by grind, by grind⟩
theorem par_mul {a b c d : Z} : par a b → par c d → par (zmul a c) (zmul b d) := fun ⟨s, t, h1, h2, h3, h4⟩ ⟨u, v, k1, k2, k3, k4⟩ =>
  ⟨s * u, t * v, Int.mul_pos h1 k1, Int.mul_pos h2 k2, by unfold zmul; grind, by unfold zmul; grind⟩
theorem par_conj {a b : Z} : par a b → par (zconj a) (zconj b) := fun ⟨s, t, h1, h2, h3, h4⟩ => ⟨s, t, h1, h2, h3, by unfold zconj; simp only; grind⟩

theorem par_unique {a b : Z} (h : par a b) (ha : Int.gcd a.1 a.2 = 1) (hb : Int.gcd b.1 b.2 = 1) : a = b := by
  obtain ⟨s, t, h1, h2, h3, h4⟩ := h
  have e : Int.gcd (a.1 * s) (a.2 * s) = Int.gcd (b.1 * t) (b.2 * t) := by rw [h3, h4]
  rw [Int.gcd_mul_right, Int.gcd_mul_right, ha, hb] at e
  have : s = t := by omega
  subst this
  have hs : s ≠ 0 := by omega
  exact Prod.ext (Int.eq_of_mul_eq_mul_right hs h3) (Int.eq_of_mul_eq_mul_right hs h4)

theorem ray_par {a : Cx} (ha : a.valid) (hz : ¬ a.zero) : par (zn (ray a).1) (zn a) := by
  obtain ⟨_, _, _, e, _⟩ := ray_ok ha hz
  have hg := nz_gcd hz
  rw [e]
  refine ⟨Int.gcd a.re a.im, 1, by omega, by decide, ?_, ?_⟩
  · show a.re / (Int.gcd a.re a.im : Int) * (Int.gcd a.re a.im : Int) = a.re * 1
    rw [Int.ediv_mul_cancel (Int.gcd_dvd_left ..), Int.mul_one]
  · show a.im / (Int.gcd a.re a.im : Int) * (Int.gcd a.re a.im : Int) = a.im * 1
    rw [Int.ediv_mul_cancel (Int.gcd_dvd_right ..), Int.mul_one]

theorem mul_par {a b : Cx} (ha : a.valid) (hb : b.valid) (h : (mul a b).2 = 0) : par (zn (mul a b).1) (zmul (zn a) (zn b)) := by
  rw [(mul_ok ha hb h).1]
  obtain ⟨g, hg, e1, e2, _⟩ := norm_spec (x := a.re * b.re - a.im * b.im) (y := a.re * b.im + a.im * b.re) (mul_pos' ha.1 hb.1)
  exact ⟨g, 1, by omega, by decide, by rw [Int.mul_one]; exact e1.symm, by rw [Int.mul_one]; exact e2.symm⟩

/-- A step's direction. -/
theorem turned_par {r v : Cx} (hr : r.valid) (hrz : ¬ r.zero) (hv : v.valid) (hz : ¬ v.zero) (h : (turned r v).2 = 0) : par (zn (turned r v).1) (zmul (zn r) (zn v)) := by
  rcases turned_err hr hrz hv hz with h' | h'
  · obtain ⟨h1, h2, _⟩ := h'
    obtain ⟨k1, k2, k3, _, _⟩ := ray_ok hv hz
    have hnz : ¬ (mul r (ray v).1).1.zero := by
      rw [mul_zero_iff hr k2 h1]
      rintro (h | h)
      · exact hrz h
      · exact k3 h
    rw [h2]
    exact par_trans (ray_par (mul_ok hr k2 h1).2 hnz) (par_trans (mul_par hr k2 h1) (par_mul (par_refl _) (ray_par hv hz)))
  · rw [h'.2] at h; simp at h

theorem fold_par : ∀ (vs : List Cx) {r : Cx}, r.valid → ¬ r.zero → (∀ v ∈ vs, v.valid ∧ ¬ v.zero) → (fold27 r vs).2 = 0 → par (zn (fold27 r vs).1) (zmul (zn r) (zprod vs))
  | [], r, _, _, _, _ => by
    show par (zn r) (zmul (zn r) (1, 0))
    rw [zmul_one]; exact par_refl _
  | v :: vs, r, hr, hrz, hv, h => by
    rw [fold27] at h ⊢
    have hv0 := hv v (by simp)
    split at h
    · rename_i h'; exact absurd h h'
    · rename_i h'
      rw [if_neg h']
      have h' : (turned r v).2 = 0 := by simpa using h'
      have ht := turned_par hr hrz hv0.1 hv0.2 h'
      rcases turned_err hr hrz hv0.1 hv0.2 with t | t
      · have ih := fold_par vs t.2.2.2.1 t.2.2.2.2.1 (fun v hv' => hv v (by simp [hv'])) h
        rw [zprod_cons, ← zmul_assoc]
        exact par_trans ih (par_mul ht (par_refl _))
      · rw [t.2] at h'; simp at h'

theorem fold_good : ∀ (vs : List Cx) {r : Cx}, r.valid → ¬ r.zero → r.den = 1 → Int.gcd r.re r.im = 1 → (∀ v ∈ vs, v.valid ∧ ¬ v.zero) →
    ((fold27 r vs).2 = 0 ∧ (fold27 r vs).1.valid ∧ (fold27 r vs).1.den = 1 ∧ Int.gcd (fold27 r vs).1.re (fold27 r vs).1.im = 1) ∨ fold27 r vs = (c0, 16)
  | [], r, hr, hrz, h1, h2, _ => .inl ⟨rfl, hr, h1, h2⟩
  | v :: vs, r, hr, hrz, h1, h2, hv => by
    have hv0 := hv v (by simp)
    rw [fold27]
    rcases turned_err hr hrz hv0.1 hv0.2 with t | t
    · rw [if_neg (by simp [t.2.2.1])]
      exact fold_good vs t.2.2.2.1 t.2.2.2.2.1 t.2.2.2.2.2.1 t.2.2.2.2.2.2 fun v hv' => hv v (by simp [hv'])
    · rw [t.2, if_pos (by simp)]; exact .inr rfl

/-- The same circle, begun elsewhere. -/
theorem pairs_rot {c : List Int} (h1 : 3 ≤ c.length) (h2 : c.length ≤ 8) {k : Nat} (hk : k < c.length) : pairs (c.drop k ++ c.take k) = (pairs c).drop k ++ (pairs c).take k := by
  match c, h1, h2, hk with
  | [a, b, c], _, _, hk =>
    obtain rfl | rfl | rfl : k = 0 ∨ k = 1 ∨ k = 2 := by simp at hk; omega
    all_goals simp [pairs, List.range, List.range.loop]
  | [a, b, c, d], _, _, hk =>
    obtain rfl | rfl | rfl | rfl : k = 0 ∨ k = 1 ∨ k = 2 ∨ k = 3 := by simp at hk; omega
    all_goals simp [pairs, List.range, List.range.loop]
  | [a, b, c, d, e], _, _, hk =>
    obtain rfl | rfl | rfl | rfl | rfl : k = 0 ∨ k = 1 ∨ k = 2 ∨ k = 3 ∨ k = 4 := by simp at hk; omega
    all_goals simp [pairs, List.range, List.range.loop]
  | [a, b, c, d, e, f], _, _, hk =>
    obtain rfl | rfl | rfl | rfl | rfl | rfl : k = 0 ∨ k = 1 ∨ k = 2 ∨ k = 3 ∨ k = 4 ∨ k = 5 := by simp at hk; omega
    all_goals simp [pairs, List.range, List.range.loop]
  | [a, b, c, d, e, f, g], _, _, hk =>
    obtain rfl | rfl | rfl | rfl | rfl | rfl | rfl : k = 0 ∨ k = 1 ∨ k = 2 ∨ k = 3 ∨ k = 4 ∨ k = 5 ∨ k = 6 := by simp at hk; omega
    all_goals simp [pairs, List.range, List.range.loop]
  | [a, b, c, d, e, f, g, h], _, _, hk =>
    obtain rfl | rfl | rfl | rfl | rfl | rfl | rfl | rfl : k = 0 ∨ k = 1 ∨ k = 2 ∨ k = 3 ∨ k = 4 ∨ k = 5 ∨ k = 6 ∨ k = 7 := by simp at hk; omega
    all_goals simp [pairs, List.range, List.range.loop]
  | _ :: _ :: _ :: _ :: _ :: _ :: _ :: _ :: _ :: _, _, h, _ => simp at h

def swap (s : Pr) : Pr := ⟨s.b, s.a⟩

theorem pairs_rev {c : List Int} (h1 : 3 ≤ c.length) (h2 : c.length ≤ 8) : pairs c.reverse = (((pairs c).map swap).reverse).drop 1 ++ (((pairs c).map swap).reverse).take 1 := by
  match c, h1, h2 with
  | [a, b, c], _, _ => simp [pairs, swap, List.range, List.range.loop]
  | [a, b, c, d], _, _ => simp [pairs, swap, List.range, List.range.loop]
  | [a, b, c, d, e], _, _ => simp [pairs, swap, List.range, List.range.loop]
  | [a, b, c, d, e, f], _, _ => simp [pairs, swap, List.range, List.range.loop]
  | [a, b, c, d, e, f, g], _, _ => simp [pairs, swap, List.range, List.range.loop]
  | [a, b, c, d, e, f, g, h], _, _ => simp [pairs, swap, List.range, List.range.loop]
  | _ :: _ :: _ :: _ :: _ :: _ :: _ :: _ :: _ :: _, _, h => simp at h

theorem rot_perm {α : Type} (l : List α) (k : Nat) : (l.drop k ++ l.take k).Perm l := by
  conv => rhs; rw [← List.take_append_drop k l]
  exact List.perm_append_comm

theorem conj_conj (a : Cx) : conj (conj a) = a := by
  unfold conj; simp

/-- The other way about. -/
theorem got_swap {l : List Vis} (hl : ∀ v ∈ l, v.good 8) (i j : Int) : got j i l = (got i j l).map conj := by
  induction l with
  | nil => rfl
  | cons v r ih =>
    have g := hl v (by simp)
    unfold got
    by_cases h1 : v.i = i ∧ v.j = j
    · have h2 : ¬ (v.i = j ∧ v.j = i) := fun h => by
        have := g.2.1
        omega
      rw [if_pos h1, if_neg h2, if_pos h1]; rfl
    · by_cases h2 : v.i = j ∧ v.j = i
      · rw [if_pos h2, if_neg h1, if_pos h2]; show some v.v = some (conj (conj v.v)); rw [conj_conj]
      · rw [if_neg h1, if_neg h2, if_neg h2, if_neg h1]
        exact ih fun u hu => hl u (by simp [hu])

theorem gD_swap {l : List Vis} (hl : ∀ v ∈ l, v.good 8) (s : Pr) : gD l (swap s) = conj (gD l s) := by
  unfold gD swap
  rw [got_swap hl]
  cases got s.a s.b l with
  | none => rfl
  | some c => rfl

theorem conj_zero (a : Cx) : (conj a).zero ↔ a.zero := by
  unfold conj Cx.zero; simp

theorem along_perm {l : List Vis} {s t : List Pr} (h : s.Perm t) : (along27 l s).2 = (along27 l t).2 := by
  unfold along27
  have e1 : s.all (fun s => (got s.a s.b l).isSome) = t.all (fun s => (got s.a s.b l).isSome) := by
    rw [Bool.eq_iff_iff, List.all_eq_true, List.all_eq_true]
    exact ⟨fun H x hx => H x (h.mem_iff.2 hx), fun H x hx => H x (h.mem_iff.1 hx)⟩
  have e2 : s.any (fun s => decide (gD l s).zero) = t.any (fun s => decide (gD l s).zero) := by
    rw [Bool.eq_iff_iff, List.any_eq_true, List.any_eq_true]
    exact ⟨fun ⟨x, hx, H⟩ => ⟨x, h.mem_iff.1 hx, H⟩, fun ⟨x, hx, H⟩ => ⟨x, h.mem_iff.2 hx, H⟩⟩
  rw [e1, e2]
  split
  · split <;> rfl
  · rfl

theorem along_swap {l : List Vis} (hl : ∀ v ∈ l, v.good 8) (s : List Pr) : (along27 l (s.map swap)).2 = (along27 l s).2 := by
  unfold along27
  have e1 : (s.map swap).all (fun s => (got s.a s.b l).isSome) = s.all (fun s => (got s.a s.b l).isSome) := by
    rw [List.all_map]
    congr 1
    funext x
    show (got x.b x.a l).isSome = _
    rw [got_swap hl]; simp
  have e2 : (s.map swap).any (fun s => decide (gD l s).zero) = s.any (fun s => decide (gD l s).zero) := by
    rw [List.any_map]
    congr 1
    funext x
    show decide (gD l (swap x)).zero = _
    rw [gD_swap hl, Bool.eq_iff_iff]
    simp [conj_zero]
  rw [e1, e2]
  split
  · split <;> rfl
  · rfl

theorem gcd_one_one : Int.gcd one.re one.im = 1 := by decide

theorem apart_perm {c d : List Int} (h : c.Perm d) : apart c ↔ apart d := by
  unfold apart
  exact ⟨fun ⟨a, b⟩ => ⟨fun s hs => a s (h.mem_iff.2 hs), h.nodup_iff.1 b⟩, fun ⟨a, b⟩ => ⟨fun s hs => a s (h.mem_iff.1 hs), h.nodup_iff.2 b⟩⟩

theorem circle_perm {c d : List Int} (h : c.Perm d) : circle c ↔ circle d := by
  unfold circle
  rw [apart_perm h, h.length_eq]

/-- What a phase is: an error that does not depend on the steps' order, or the direction of the product. -/
theorem phase_cases {l : List Vis} (h0 : ck27 l = 0) {c : List Int} (hc : circle c) :
    ((along27 l (pairs c)).2 ≠ 0 ∧ phase l c = (c0, (along27 l (pairs c)).2)) ∨ ((along27 l (pairs c)).2 = 0 ∧
      (phase l c = (c0, 16) ∨ ((phase l c).2 = 0 ∧ (phase l c).1.valid ∧ (phase l c).1.den = 1 ∧ Int.gcd (phase l c).1.re (phase l c).1.im = 1 ∧ par (zn (phase l c).1) (zprod ((pairs c).map (gD l)))))) := by
  obtain ⟨hlen, hgood, _⟩ := ck27_0 h0
  have e : phase l c = if (along27 l (pairs c)).2 ≠ 0 then (c0, (along27 l (pairs c)).2) else fold27 one (along27 l (pairs c)).1 := by
    rw [phase, if_neg (by simp [h0]), if_neg (by simp [hc])]
  by_cases h1 : (along27 l (pairs c)).2 = 0
  · refine .inr ⟨h1, ?_⟩
    obtain ⟨e1, e2, e3⟩ := along27_0 hgood h1
    rw [if_neg (by simp [h1]), e1] at e
    have hv : ∀ v ∈ (pairs c).map (gD l), v.valid ∧ ¬ v.zero := fun v hv => by
      rw [List.mem_map] at hv
      obtain ⟨s, hs, rfl⟩ := hv
      exact e3 s hs
    rcases fold_good _ one_valid one_nz rfl gcd_one_one hv with h | h
    · refine .inr ?_
      rw [e]
      refine ⟨h.1, h.2.1, h.2.2.1, h.2.2.2, ?_⟩
      have := fold_par _ one_valid one_nz hv h.1
      rwa [zmul_comm, show zn one = (1, 0) from rfl, zmul_one] at this
    · exact .inl (by rw [e, h])
  · exact .inl ⟨h1, by rw [e, if_pos h1]⟩

/-- Two ways along the same steps. -/
theorem phase_like {l : List Vis} (h0 : ck27 l = 0) {c d : List Int} (hc : circle c) (hd : circle d) (ha : (along27 l (pairs d)).2 = (along27 l (pairs c)).2) :
    ((phase l c).2 = (phase l d).2 ∨ (phase l c).2 = 16 ∨ (phase l d).2 = 16) := by
  rcases phase_cases h0 hc with ⟨h1, h2⟩ | ⟨h1, h2⟩
  · rcases phase_cases h0 hd with ⟨k1, k2⟩ | ⟨k1, k2⟩
    · rw [h2, k2]; exact .inl ha.symm
    · exact absurd (ha.symm.trans k1) h1
  · rcases phase_cases h0 hd with ⟨k1, k2⟩ | ⟨k1, k2⟩
    · exact absurd (ha.trans h1) k1
    · rcases h2 with h2 | h2
      · rw [h2]; exact .inr (.inl rfl)
      · rcases k2 with k2 | k2
        · rw [k2]; exact .inr (.inr rfl)
        · rw [h2.1, k2.1]; exact .inl rfl

theorem phase_ok {l : List Vis} (h0 : ck27 l = 0) {c : List Int} (hc : circle c) (h : (phase l c).2 = 0) : (phase l c).1.valid ∧ (phase l c).1.den = 1 ∧ Int.gcd (phase l c).1.re (phase l c).1.im = 1 ∧ par (zn (phase l c).1) (zprod ((pairs c).map (gD l))) := by
  rcases phase_cases h0 hc with ⟨h1, h2⟩ | ⟨h1, h2 | h2⟩
  · rw [h2] at h; exact absurd h h1
  · rw [h2] at h; simp at h
  · exact h2.2

theorem cx_of_zn {a b : Cx} (h : zn a = zn b) (h1 : a.den = b.den) : a = b := by
  cases a; cases b
  simp only [zn, Prod.mk.injEq] at h
  simp only at h1
  simp [h.1, h.2, h1]

/-- A circle that begins elsewhere. -/
theorem phase_rot {l : List Vis} (h0 : ck27 l = 0) {c : List Int} (hc : circle c) {k : Nat} (hk : k < c.length) :
    ((phase l c).2 = (phase l (c.drop k ++ c.take k)).2 ∨ (phase l c).2 = 16 ∨ (phase l (c.drop k ++ c.take k)).2 = 16) ∧ ((phase l c).2 = 0 → (phase l (c.drop k ++ c.take k)).2 = 0 → phase l c = phase l (c.drop k ++ c.take k)) := by
  have hd : circle (c.drop k ++ c.take k) := (circle_perm (rot_perm c k)).2 hc
  have hp : (pairs (c.drop k ++ c.take k)).Perm (pairs c) := by rw [pairs_rot hc.1 hc.2.1 hk]; exact rot_perm _ _
  refine ⟨phase_like h0 hc hd (along_perm hp), fun h1 h2 => ?_⟩
  obtain ⟨_, d1, g1, p1⟩ := phase_ok h0 hc h1
  obtain ⟨_, d2, g2, p2⟩ := phase_ok h0 hd h2
  have e := zprod_perm (hp.map (gD l))
  rw [e] at p2
  exact Prod.ext (cx_of_zn (par_unique (par_trans p1 (par_symm p2)) g1 g2) (d1.trans d2.symm)) (h1.trans h2.symm)

/-- The other way about. -/
theorem phase_rev {l : List Vis} (h0 : ck27 l = 0) {c : List Int} (hc : circle c) :
    ((phase l c).2 = (phase l c.reverse).2 ∨ (phase l c).2 = 16 ∨ (phase l c.reverse).2 = 16) ∧ ((phase l c).2 = 0 → (phase l c.reverse).2 = 0 → (phase l c.reverse).1 = conj (phase l c).1) := by
  have hd : circle c.reverse := (circle_perm (List.reverse_perm c)).2 hc
  obtain ⟨_, hgood, _⟩ := ck27_0 h0
  have hp : (pairs c.reverse).Perm ((pairs c).map swap) := by
    rw [pairs_rev hc.1 hc.2.1]
    exact (rot_perm _ _).trans (List.reverse_perm _)
  refine ⟨phase_like h0 hc hd (by rw [along_perm hp, along_swap hgood]), fun h1 h2 => ?_⟩
  obtain ⟨_, d1, g1, p1⟩ := phase_ok h0 hc h1
  obtain ⟨_, d2, g2, p2⟩ := phase_ok h0 hd h2
  have e := zprod_perm (hp.map (gD l))
  rw [e, List.map_map, show (gD l ∘ swap) = conj ∘ gD l from funext fun s => gD_swap hgood s, ← List.map_map, zprod_conj] at p2
  refine cx_of_zn (par_unique (par_trans p2 (par_symm (par_conj p1))) g2 ?_) (d2.trans d1.symm)
  show Int.gcd (phase l c).1.re (-(phase l c).1.im) = 1
  rw [Int.gcd_neg]; exact g1

end Go.Pv
