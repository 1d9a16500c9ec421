/- Complex numbers with rational parts, in plain Lean. -/
import Derived.Test.YtaaijmojlodefaaPvL
namespace Go.Pv
open Go.Vc

structure Cx where
  re : Int
  im : Int
  den : Int
deriving DecidableEq

instance : Enc Cx where
  sz := 3
  cs l := [i64 l.re, i64 l.im, i64 l.den]
  ok l := I64 l.re ∧ I64 l.im ∧ I64 l.den
  len _ := rfl
  pos := by decide

abbrev cx (a : Cx) : PV := .agg [i64 a.re, i64 a.im, i64 a.den]

structure Frac where
  num : Int
  den : Int
deriving DecidableEq

instance : Enc Frac where
  sz := 2
  cs l := [i64 l.num, i64 l.den]
  ok l := I64 l.num ∧ I64 l.den
  len _ := rfl
  pos := by decide

abbrev fr (a : Frac) : PV := .agg [i64 a.num, i64 a.den]

/-- The common divisor of three numbers. -/
def g3 (x y z : Int) : Nat := Int.gcd (Int.gcd x y) z

def fits (x : Int) : Prop := -1000000000 ≤ x ∧ x ≤ 1000000000
instance (x : Int) : Decidable (fits x) := by unfold fits; infer_instance

/-- Valid numbers. -/
def Cx.valid (a : Cx) : Prop := 1 ≤ a.den ∧ a.den ≤ 1000000000 ∧ fits a.re ∧ fits a.im ∧ g3 a.re a.im a.den = 1
instance (a : Cx) : Decidable a.valid := by unfold Cx.valid; infer_instance

def chk (a : Cx) : Int := if a.valid then 0 else 8

def Cx.zero (a : Cx) : Prop := a.re = 0 ∧ a.im = 0
instance (a : Cx) : Decidable a.zero := by unfold Cx.zero; infer_instance

def c0 : Cx := ⟨0, 0, 0⟩
def one : Cx := ⟨1, 0, 1⟩

/-- In lowest terms. -/
def norm (x y z : Int) : Cx := ⟨x / g3 x y z, y / g3 x y z, z / g3 x y z⟩

/-- The number, or an error: its parts are too great. -/
def make (x y z : Int) : Cx × Int :=
  if fits (norm x y z).re ∧ fits (norm x y z).im ∧ fits (norm x y z).den then (norm x y z, 0) else (c0, 16)

theorem g3_dvd (x y z : Int) : ((g3 x y z : Nat) : Int) ∣ x ∧ ((g3 x y z : Nat) : Int) ∣ y ∧ ((g3 x y z : Nat) : Int) ∣ z := by
  have h1 : ((g3 x y z : Nat) : Int) ∣ ((Int.gcd x y : Nat) : Int) := Int.gcd_dvd_left ..
  exact ⟨Int.dvd_trans h1 (Int.gcd_dvd_left ..), Int.dvd_trans h1 (Int.gcd_dvd_right ..), Int.gcd_dvd_right ..⟩

theorem dvd_g3 {d : Nat} {x y z : Int} (hx : (d : Int) ∣ x) (hy : (d : Int) ∣ y) (hz : (d : Int) ∣ z) : d ∣ g3 x y z := by
  have h1 : (d : Int) ∣ ((Int.gcd x y : Nat) : Int) := Int.dvd_coe_gcd hx hy
  exact Int.ofNat_dvd.1 (Int.dvd_coe_gcd h1 hz)

theorem g3_pos {x y z : Int} (h : z ≠ 0) : 0 < g3 x y z := Int.gcd_pos_of_ne_zero_right _ h

theorem g3_mul (k : Nat) (x y z : Int) : g3 (x * k) (y * k) (z * k) = g3 x y z * k := by
  unfold g3
  rw [Int.gcd_mul_right, Int.natCast_mul]
  have : ((Int.natAbs (k : Int) : Nat) : Int) = k := by simp
  rw [this, Int.gcd_mul_right]
  simp

/-- A multiple in lowest terms. -/
theorem norm_spec {x y z : Int} (h : 0 < z) : ∃ g : Nat, 0 < g ∧ x = (norm x y z).re * g ∧ y = (norm x y z).im * g ∧ z = (norm x y z).den * g ∧ 0 < (norm x y z).den ∧ g3 (norm x y z).re (norm x y z).im (norm x y z).den = 1 := by
  have hp := g3_pos (x := x) (y := y) (z := z) (by omega)
  obtain ⟨h1, h2, h3⟩ := g3_dvd x y z
  have e1 : x = (norm x y z).re * (g3 x y z : Nat) := (Int.ediv_mul_cancel h1).symm
  have e2 : y = (norm x y z).im * (g3 x y z : Nat) := (Int.ediv_mul_cancel h2).symm
  have e3 : z = (norm x y z).den * (g3 x y z : Nat) := (Int.ediv_mul_cancel h3).symm
  refine ⟨g3 x y z, hp, e1, e2, e3, ?_, ?_⟩
  · have : 0 < (norm x y z).den * ((g3 x y z : Nat) : Int) := by rw [← e3]; exact h
    exact Int.pos_of_mul_pos_left this (by omega)
  · have := g3_mul (g3 x y z) (norm x y z).re (norm x y z).im (norm x y z).den
    rw [← e1, ← e2, ← e3] at this
    have h5 : 1 * g3 x y z = g3 (norm x y z).re (norm x y z).im (norm x y z).den * g3 x y z := by omega
    exact (Nat.eq_of_mul_eq_mul_right hp h5).symm

/-- There is just one number in lowest terms. -/
theorem low_unique {x y z u v t : Int} (hz : 0 < z) (ht : 0 < t) (h1 : g3 x y z = 1) (h2 : g3 u v t = 1) (e1 : x * t = u * z) (e2 : y * t = v * z) : x = u ∧ y = v ∧ z = t := by
  have dv : ∀ {x y z u v t : Int}, 0 < z → 0 < t → g3 x y z = 1 → x * t = u * z → y * t = v * z → z ∣ t := by
    intro x y z u v t hz ht h1 e1 e2
    have hzn : ((z.natAbs : Nat) : Int) = z := by omega
    have htn : ((t.natAbs : Nat) : Int) = t := by omega
    have h3 := dvd_g3 (d := z.natAbs) (x := x * t) (y := y * t) (z := z * t) (by rw [hzn, e1]; exact Int.dvd_mul_left ..) (by rw [hzn, e2]; exact Int.dvd_mul_left ..) (by rw [hzn]; exact Int.dvd_mul_right ..)
    rw [← htn, g3_mul, h1, Nat.one_mul] at h3
    exact Int.natAbs_dvd_natAbs.1 h3
  have a1 := dv hz ht h1 e1 e2
  have a2 := dv ht hz h2 e1.symm e2.symm
  have hzt : z = t := Int.dvd_antisymm (by omega) (by omega) a1 a2
  subst hzt
  exact ⟨Int.eq_of_mul_eq_mul_right (by omega) e1, Int.eq_of_mul_eq_mul_right (by omega) e2, rfl⟩

theorem norm_eq {x y z u v t : Int} (hz : 0 < z) (ht : 0 < t) (h2 : g3 u v t = 1) (e1 : x * t = u * z) (e2 : y * t = v * z) : norm x y z = ⟨u, v, t⟩ := by
  obtain ⟨g, hg, f1, f2, f3, hp, hc⟩ := norm_spec (x := x) (y := y) hz
  have hgz : ((g : Nat) : Int) ≠ 0 := by omega
  obtain ⟨a1, a2, a3⟩ := low_unique (x := (norm x y z).re) (y := (norm x y z).im) (z := (norm x y z).den) hp ht hc h2
    (by have : (norm x y z).re * t * g = u * (norm x y z).den * g := by
          rw [Int.mul_right_comm, ← f1, e1, Int.mul_assoc, ← f3]
        exact Int.eq_of_mul_eq_mul_right hgz this)
    (by have : (norm x y z).im * t * g = v * (norm x y z).den * g := by
          rw [Int.mul_right_comm, ← f2, e2, Int.mul_assoc, ← f3]
        exact Int.eq_of_mul_eq_mul_right hgz this)
  cases hn : norm x y z
  simp only [hn] at a1 a2 a3
  rw [a1, a2, a3]

theorem norm_low {x y z : Int} (hz : 0 < z) (h : g3 x y z = 1) : norm x y z = ⟨x, y, z⟩ := norm_eq hz hz h rfl rfl

theorem valid_norm {x y z : Int} (hz : 0 < z) : (norm x y z).valid ↔ fits (norm x y z).re ∧ fits (norm x y z).im ∧ fits (norm x y z).den := by
  obtain ⟨g, _, _, _, _, hp, hc⟩ := norm_spec (x := x) (y := y) hz
  unfold Cx.valid fits
  constructor
  · intro h; exact ⟨h.2.2.1, h.2.2.2.1, by omega, h.2.1⟩
  · intro h; exact ⟨by omega, h.2.2.2, h.1, h.2.1, hc⟩

theorem make_valid {x y z : Int} (hz : 0 < z) : make x y z = if (norm x y z).valid then (norm x y z, 0) else (c0, 16) := by
  unfold make
  by_cases h : (norm x y z).valid
  · rw [if_pos ((valid_norm hz).1 h), if_pos h]
  · rw [if_neg (fun h' => h ((valid_norm hz).2 h')), if_neg h]

/-- Valid numbers are the same if they are as much. -/
theorem Cx.eq_of {a b : Cx} (ha : a.valid) (hb : b.valid) (e1 : a.re * b.den = b.re * a.den) (e2 : a.im * b.den = b.im * a.den) : a = b := by
  obtain ⟨h1, h2, h3⟩ := low_unique (x := a.re) (y := a.im) (z := a.den) (by have := ha.1; omega) (by have := hb.1; omega) ha.2.2.2.2 hb.2.2.2.2 e1 e2
  cases a; cases b
  simp_all

/-! ### The four kinds of reckoning -/

def mul (a b : Cx) : Cx × Int := if a.valid ∧ b.valid then make (a.re * b.re - a.im * b.im) (a.re * b.im + a.im * b.re) (a.den * b.den) else (c0, 8)
def add (a b : Cx) : Cx × Int := if a.valid ∧ b.valid then make (a.re * b.den + b.re * a.den) (a.im * b.den + b.im * a.den) (a.den * b.den) else (c0, 8)
def sub (a b : Cx) : Cx × Int := if a.valid ∧ b.valid then make (a.re * b.den - b.re * a.den) (a.im * b.den - b.im * a.den) (a.den * b.den) else (c0, 8)
def div (a b : Cx) : Cx × Int := if a.valid ∧ b.valid then (if b.zero then (c0, 18) else make ((a.re * b.re + a.im * b.im) * b.den) ((a.im * b.re - a.re * b.im) * b.den) ((b.re * b.re + b.im * b.im) * a.den)) else (c0, 8)
def neg (a : Cx) : Cx := ⟨-a.re, -a.im, a.den⟩
def conj (a : Cx) : Cx := ⟨a.re, -a.im, a.den⟩

/-- A number and an error code. -/
abbrev resC (r : Cx × Int) : SV := .tup [.p (cx r.1), .p (i64 r.2)]
abbrev resF (r : Frac × Int) : SV := .tup [.p (fr r.1), .p (i64 r.2)]

theorem mul_bound {a b : Int} (ha : fits a) (hb : fits b) : -1000000000000000000 ≤ a * b ∧ a * b ≤ 1000000000000000000 := by
  unfold fits at ha hb
  have h1 : (a * b).natAbs ≤ 1000000000 * 1000000000 := by
    rw [Int.natAbs_mul]
    exact Nat.mul_le_mul (by omega) (by omega)
  omega

theorem valid_fits {a : Cx} (h : a.valid) : fits a.re ∧ fits a.im ∧ fits a.den ∧ 1 ≤ a.den := by
  obtain ⟨h1, h2, h3, h4, _⟩ := h
  exact ⟨h3, h4, by unfold fits; omega, h1⟩

theorem mul_pos' {a b : Int} (ha : 1 ≤ a) (hb : 1 ≤ b) : 0 < a * b := Int.mul_pos (by omega) (by omega)

theorem gcd_step (x y : Int) : Int.gcd y (x.tmod y) = Int.gcd x y := by
  unfold Int.gcd
  rw [Int.natAbs_tmod, Nat.gcd_comm x.natAbs, Nat.gcd_rec y.natAbs x.natAbs, Nat.gcd_comm]

theorem tdiv_g {x g : Int} (h : g ∣ x) (hg : 0 < g) : x.tdiv g = x / g := by
  rw [Int.tdiv_eq_ediv_of_dvd h]

/-- Division by a common divisor, as the machine does it. -/
theorem quo_w {x : Int} {g : Nat} (hg : 0 < g) (hd : ((g : Nat) : Int) ∣ x) (hx : -9223372036854775807 ≤ x ∧ x ≤ 9223372036854775807) : IntKind.i64.wrap (x.tdiv (g : Int)) = x / g := by
  have e : x.tdiv (g : Int) = x / g := tdiv_g hd (by omega)
  rw [e]
  obtain ⟨c, rfl⟩ := hd
  rw [Int.mul_ediv_cancel_left _ (by omega)]
  have hle : c.natAbs ≤ (((g : Nat) : Int) * c).natAbs := by
    rw [Int.natAbs_mul]
    exact Nat.le_mul_of_pos_left _ (by omega)
  exact wrap_id (by omega) (by omega)

theorem ediv_le {x : Int} {g : Nat} (hg : 0 < g) (hd : ((g : Nat) : Int) ∣ x) : (x / g).natAbs ≤ x.natAbs := by
  obtain ⟨c, rfl⟩ := hd
  rw [Int.mul_ediv_cancel_left _ (by omega), Int.natAbs_mul]
  exact Nat.le_mul_of_pos_left _ (by omega)

theorem ediv_pos {x : Int} {g : Nat} (hg : 0 < g) (hd : ((g : Nat) : Int) ∣ x) (hx : 0 < x) : 0 < x / g := by
  obtain ⟨c, rfl⟩ := hd
  rw [Int.mul_ediv_cancel_left _ (by omega)]
  exact Int.pos_of_mul_pos_right hx (by omega)

/-! The quotient's parts, made prime to each other before anything is multiplied. -/
section
variable (p q n d e : Int)
def rg1 : Nat := g3 p q n
def rg2 : Nat := Int.gcd d e
def rre : Int := p / rg1 p q n
def rim : Int := q / rg1 p q n
def rden : Int := n / rg1 p q n
def rtop : Int := d / rg2 d e
def rbot : Int := e / rg2 d e
def rg3 : Nat := g3 (rre p q n) (rim p q n) (rbot d e)
def rg4 : Nat := Int.gcd (rtop d e) (rden p q n)
def fre : Int := rre p q n / rg3 p q n d e
def fim : Int := rim p q n / rg3 p q n d e
def fbot : Int := rbot d e / rg3 p q n d e
def ftop : Int := rtop d e / rg4 p q n d e
def fden : Int := rden p q n / rg4 p q n d e
end

theorem cop_div {a b : Int} (h : 0 < Int.gcd a b) : Int.gcd (a / Int.gcd a b) (b / Int.gcd a b) = 1 := Int.gcd_ediv_gcd_ediv_gcd h

theorem gcd_dvd_one {a b a' b' : Int} (h : Int.gcd a b = 1) (ha : a' ∣ a) (hb : b' ∣ b) : Int.gcd a' b' = 1 := by
  have h1 : ((Int.gcd a' b' : Nat) : Int) ∣ ((Int.gcd a b : Nat) : Int) := Int.dvd_coe_gcd (Int.dvd_trans (Int.gcd_dvd_left ..) ha) (Int.dvd_trans (Int.gcd_dvd_right ..) hb)
  rw [h] at h1
  have := Int.ofNat_dvd.1 h1
  exact Nat.eq_one_of_dvd_one this

theorem red_facts {p q n d e : Int} (hn : 0 < n) (hd : 0 < d) (he : 0 < e) :
    0 < rg1 p q n ∧ 0 < rg2 d e ∧ 0 < rg3 p q n d e ∧ 0 < rg4 p q n d e ∧ 0 < rden p q n ∧ 0 < rtop d e ∧ 0 < rbot d e ∧ 0 < fden p q n d e ∧ 0 < ftop p q n d e ∧ 0 < fbot p q n d e ∧
    ((rg1 p q n : Nat) : Int) ∣ p ∧ ((rg1 p q n : Nat) : Int) ∣ q ∧ ((rg1 p q n : Nat) : Int) ∣ n ∧ ((rg2 d e : Nat) : Int) ∣ d ∧ ((rg2 d e : Nat) : Int) ∣ e ∧
    ((rg3 p q n d e : Nat) : Int) ∣ rre p q n ∧ ((rg3 p q n d e : Nat) : Int) ∣ rim p q n ∧ ((rg3 p q n d e : Nat) : Int) ∣ rbot d e ∧ ((rg4 p q n d e : Nat) : Int) ∣ rtop d e ∧ ((rg4 p q n d e : Nat) : Int) ∣ rden p q n := by
  have h1 : 0 < rg1 p q n := g3_pos (by omega)
  have h2 : 0 < rg2 d e := Int.gcd_pos_of_ne_zero_right _ (by omega)
  obtain ⟨a1, a2, a3⟩ := g3_dvd p q n
  have b1 : ((rg2 d e : Nat) : Int) ∣ d := Int.gcd_dvd_left ..
  have b2 : ((rg2 d e : Nat) : Int) ∣ e := Int.gcd_dvd_right ..
  have c1 : 0 < rden p q n := ediv_pos h1 a3 hn
  have c2 : 0 < rtop d e := ediv_pos h2 b1 hd
  have c3 : 0 < rbot d e := ediv_pos h2 b2 he
  have h3 : 0 < rg3 p q n d e := g3_pos (by omega)
  have h4 : 0 < rg4 p q n d e := Int.gcd_pos_of_ne_zero_right _ (by omega)
  obtain ⟨d1, d2, d3⟩ := g3_dvd (rre p q n) (rim p q n) (rbot d e)
  have e1 : ((rg4 p q n d e : Nat) : Int) ∣ rtop d e := Int.gcd_dvd_left ..
  have e2 : ((rg4 p q n d e : Nat) : Int) ∣ rden p q n := Int.gcd_dvd_right ..
  exact ⟨h1, h2, h3, h4, c1, c2, c3, ediv_pos h4 e2 c1, ediv_pos h4 e1 c2, ediv_pos h3 d3 c3, a1, a2, a3, b1, b2, d1, d2, d3, e1, e2⟩

theorem div_dvd {x : Int} {g : Nat} (hd : ((g : Nat) : Int) ∣ x) : x / g ∣ x := ⟨g, (Int.ediv_mul_cancel hd).symm⟩

theorem red_low {p q n d e : Int} (hn : 0 < n) (hd : 0 < d) (he : 0 < e) : g3 (fre p q n d e * ftop p q n d e) (fim p q n d e * ftop p q n d e) (fden p q n d e * fbot p q n d e) = 1 := by
  obtain ⟨h1, h2, h3, h4, c1, c2, c3, f1, f2, f3, a1, a2, a3, b1, b2, d1, d2, d3, e1, e2⟩ := red_facts (p := p) (q := q) hn hd he
  have k1 : g3 (rre p q n) (rim p q n) (rden p q n) = 1 := by
    obtain ⟨g, hg, x1, x2, x3, _, hc⟩ := norm_spec (x := p) (y := q) hn
    exact hc
  have k2 : Int.gcd (rtop d e) (rbot d e) = 1 := cop_div h2
  have k3 : g3 (fre p q n d e) (fim p q n d e) (fbot p q n d e) = 1 := by
    obtain ⟨g, hg, x1, x2, x3, _, hc⟩ := norm_spec (x := rre p q n) (y := rim p q n) c3
    exact hc
  have k4 : Int.gcd (ftop p q n d e) (fden p q n d e) = 1 := cop_div h4
  have k5 : Int.gcd (ftop p q n d e) (fbot p q n d e) = 1 := gcd_dvd_one k2 (div_dvd e1) (div_dvd d3)
  have k6 : Int.gcd ((Int.gcd (fre p q n d e) (fim p q n d e) : Nat) : Int) (fden p q n d e) = 1 := by
    refine gcd_dvd_one (a := ((Int.gcd (rre p q n) (rim p q n) : Nat) : Int)) (b := rden p q n) k1 ?_ (div_dvd e2)
    exact Int.dvd_coe_gcd (Int.dvd_trans (Int.gcd_dvd_left ..) (div_dvd d1)) (Int.dvd_trans (Int.gcd_dvd_right ..) (div_dvd d2))
  unfold g3 at k3 ⊢
  rw [Int.gcd_mul_right]
  generalize Int.gcd (fre p q n d e) (fim p q n d e) = h at k3 k6
  unfold Int.gcd at k3 k4 k5 k6 ⊢
  simp only [Int.natAbs_mul, Int.natAbs_natCast] at k3 k4 k5 k6 ⊢
  exact Nat.Coprime.mul_left (Nat.Coprime.mul_right k6 k3) (Nat.Coprime.mul_right k4 k5)

theorem red_norm {p q n d e : Int} (hn : 0 < n) (hd : 0 < d) (he : 0 < e) : norm (p * d) (q * d) (n * e) = ⟨fre p q n d e * ftop p q n d e, fim p q n d e * ftop p q n d e, fden p q n d e * fbot p q n d e⟩ := by
  obtain ⟨h1, h2, h3, h4, c1, c2, c3, f1, f2, f3, a1, a2, a3, b1, b2, d1, d2, d3, e1, e2⟩ := red_facts (p := p) (q := q) hn hd he
  refine norm_eq (Int.mul_pos hn he) (Int.mul_pos f1 f3) (red_low hn hd he) ?_ ?_
  · have x1 : p = fre p q n d e * rg3 p q n d e * rg1 p q n := by rw [fre, Int.ediv_mul_cancel d1, rre, Int.ediv_mul_cancel a1]
    have x2 : d = ftop p q n d e * rg4 p q n d e * rg2 d e := by rw [ftop, Int.ediv_mul_cancel e1, rtop, Int.ediv_mul_cancel b1]
    have x3 : n = fden p q n d e * rg4 p q n d e * rg1 p q n := by rw [fden, Int.ediv_mul_cancel e2, rden, Int.ediv_mul_cancel a3]
    have x4 : e = fbot p q n d e * rg3 p q n d e * rg2 d e := by rw [fbot, Int.ediv_mul_cancel d3, rbot, Int.ediv_mul_cancel b2]
    generalize fre p q n d e = A at *
    generalize ftop p q n d e = B at *
    generalize fden p q n d e = C at *
    generalize fbot p q n d e = D at *
    generalize ((rg1 p q n : Nat) : Int) = G1 at *
    generalize ((rg2 d e : Nat) : Int) = G2 at *
    generalize ((rg3 p q n d e : Nat) : Int) = G3 at *
    generalize ((rg4 p q n d e : Nat) : Int) = G4 at *
    clear a1 a2 a3 b1 b2 d1 d2 d3 e1 e2 h1 h2 h3 h4 c1 c2 c3
    subst x1 x2 x3 x4
    grind
  · have x1 : q = fim p q n d e * rg3 p q n d e * rg1 p q n := by rw [fim, Int.ediv_mul_cancel d2, rim, Int.ediv_mul_cancel a2]
    have x2 : d = ftop p q n d e * rg4 p q n d e * rg2 d e := by rw [ftop, Int.ediv_mul_cancel e1, rtop, Int.ediv_mul_cancel b1]
    have x3 : n = fden p q n d e * rg4 p q n d e * rg1 p q n := by rw [fden, Int.ediv_mul_cancel e2, rden, Int.ediv_mul_cancel a3]
    have x4 : e = fbot p q n d e * rg3 p q n d e * rg2 d e := by rw [fbot, Int.ediv_mul_cancel d3, rbot, Int.ediv_mul_cancel b2]
    generalize fim p q n d e = A at *
    generalize ftop p q n d e = B at *
    generalize fden p q n d e = C at *
    generalize fbot p q n d e = D at *
    generalize ((rg1 p q n : Nat) : Int) = G1 at *
    generalize ((rg2 d e : Nat) : Int) = G2 at *
    generalize ((rg3 p q n d e : Nat) : Int) = G3 at *
    generalize ((rg4 p q n d e : Nat) : Int) = G4 at *
    clear a1 a2 a3 b1 b2 d1 d2 d3 e1 e2 h1 h2 h3 h4 c1 c2 c3
    subst x1 x2 x3 x4
    grind

theorem eqPL_cx (a b : Cx) : eqPL [i64 a.re, i64 a.im, i64 a.den] [i64 b.re, i64 b.im, i64 b.den] = decide (a = b) := by
  cases a; cases b
  rw [Bool.eq_iff_iff]
  simp [eqPL, eqP]

/-- The square of the absolute value. -/
def nrm (a : Cx) : Frac × Int :=
  if a.valid then
    (if (a.re * a.re + a.im * a.im) / Int.gcd (a.re * a.re + a.im * a.im) (a.den * a.den) > 1000000000000000000 then (⟨0, 0⟩, 16)
     else (⟨(a.re * a.re + a.im * a.im) / Int.gcd (a.re * a.re + a.im * a.im) (a.den * a.den), (a.den * a.den) / Int.gcd (a.re * a.re + a.im * a.im) (a.den * a.den)⟩, 0))
  else (⟨0, 0⟩, 8)

def rot (a : Cx) : Cx := ⟨-a.im, a.re, a.den⟩
def rotN : Nat → Cx → Cx
  | 0, a => a
  | n + 1, a => rotN n (rot a)

/-- Quarters of a turn. -/
def quart (q : Int) : Nat := ((q.tmod 4 + 4).tmod 4).toNat
def turn (a : Cx) (q : Int) : Cx × Int := if a.valid then (rotN (quart q) a, 0) else (c0, 8)

def ray (a : Cx) : Cx × Int := if a.valid then (if a.zero then (c0, 18) else (⟨a.re / Int.gcd a.re a.im, a.im / Int.gcd a.re a.im, 1⟩, 0)) else (c0, 8)

theorem sq_nonneg (x : Int) : 0 ≤ x * x := by rw [← Int.natAbs_mul_self]; omega

end Go.Pv

/- Visibilities, in plain Lean. -/
namespace Go.Pv
open Go.Vc

structure Vis where
  i : Int
  j : Int
  v : Cx
  n : Int
deriving DecidableEq

instance : Enc Vis where
  sz := 6
  cs l := [i64 l.i, i64 l.j, i64 l.v.re, i64 l.v.im, i64 l.v.den, i64 l.n]
  ok l := I64 l.i ∧ I64 l.j ∧ Enc.ok l.v ∧ I64 l.n
  len _ := rfl
  pos := by decide

abbrev vi (l : Vis) : PV := .agg [i64 l.i, i64 l.j, i64 l.v.re, i64 l.v.im, i64 l.v.den, i64 l.n]

/-- Valid for n stations. -/
def Vis.good (v : Vis) (n : Int) : Prop := 0 ≤ v.i ∧ v.i < v.j ∧ v.j < n ∧ 0 ≤ v.n ∧ v.v.valid
instance (v : Vis) (n : Int) : Decidable (v.good n) := by unfold Vis.good; infer_instance

def all26 (l : List Vis) (n : Int) : Int := if 64 < l.length then 4 else if l.all (fun v => decide (v.good n)) then 0 else 8

def Vis.key (v : Vis) : Int × Int := (v.i, v.j)

def ck27 (l : List Vis) : Int := if all26 l 8 ≠ 0 then all26 l 8 else if (l.map Vis.key).Nodup then 0 else 14

theorem all26_0 {l : List Vis} {n : Int} (h : all26 l n = 0) : l.length ≤ 64 ∧ ∀ v ∈ l, v.good n := by
  unfold all26 at h
  split at h
  · omega
  · split at h
    · rename_i h1 h2
      rw [List.all_eq_true] at h2
      exact ⟨by omega, fun v hv => by simpa using h2 v hv⟩
    · omega

theorem all26_8 {l : List Vis} {n : Int} (h : l.length ≤ 64) {k : Nat} (hk : k < l.length) (hb : ¬ l[k].good n) : all26 l n = 8 := by
  unfold all26
  rw [if_neg (by omega), if_neg]
  rw [List.all_eq_true]
  intro h'
  have := h' l[k] (List.getElem_mem hk)
  exact hb (by simpa using this)

theorem ck27_0 {l : List Vis} (h : ck27 l = 0) : l.length ≤ 64 ∧ (∀ v ∈ l, v.good 8) ∧ (l.map Vis.key).Nodup := by
  unfold ck27 at h
  split at h
  · omega
  · split at h
    · rename_i h1 h2
      have := all26_0 (by omega : all26 l 8 = 0)
      exact ⟨this.1, this.2, h2⟩
    · omega

theorem keys_succ {l : List Vis} {k : Nat} (hk : k < l.length) : ((l.take (k + 1)).map Vis.key).Nodup ↔ ((l.take k).map Vis.key).Nodup ∧ ∀ m, (hm : m < k) → (l[m]'(by omega)).key ≠ l[k].key := by
  rw [List.take_succ_eq_append_getElem hk, List.map_append, List.map_singleton, List.nodup_append]
  constructor
  · rintro ⟨h1, _, h3⟩
    refine ⟨h1, fun m hm => ?_⟩
    refine h3 _ ?_ _ (by simp)
    rw [List.mem_map]
    exact ⟨l[m], by rw [List.mem_take_iff_getElem]; exact ⟨m, by omega, rfl⟩, rfl⟩
  · rintro ⟨h1, h2⟩
    refine ⟨h1, by simp, ?_⟩
    intro a ha b hb
    simp at hb
    subst hb
    rw [List.mem_map] at ha
    obtain ⟨v, hv, rfl⟩ := ha
    rw [List.mem_take_iff_getElem] at hv
    obtain ⟨m, hm, rfl⟩ := hv
    exact h2 m (by omega)

theorem keys_take {l : List Vis} (k : Nat) (h : (l.map Vis.key).Nodup) : ((l.take k).map Vis.key).Nodup := by
  rw [List.map_take]
  exact h.sublist (List.take_sublist ..)

/-- Whether a pair of stations is there. -/
def hit (l : List Vis) (c : Nat) : Bool := l.any fun v => v.i * 8 + v.j == c

theorem hit_snoc (l : List Vis) (v : Vis) (c : Nat) : hit (l ++ [v]) c = (hit l c || (v.i * 8 + v.j == c)) := by
  simp [hit]

def seenAt (l : List Vis) : List PV := (List.range 64).map fun c => bl (hit l c)

theorem seenAt_nil : List.replicate 64 (bl false) = seenAt [] := rfl

theorem part_map {α : Type} (g : Nat → α) (n i m : Nat) (h : i + m ≤ n) : (((List.range n).map g).drop i).take m = (List.range m).map fun j => g (i + j) := by
  apply List.ext_getElem?
  intro j
  rw [List.getElem?_take]
  split
  · rename_i hj
    rw [List.getElem?_drop, List.getElem?_map, List.getElem?_map, List.getElem?_range (by omega), List.getElem?_range (by omega)]
    rfl
  · rename_i hj
    rw [List.getElem?_eq_none]
    simp; omega

theorem spl_map {α : Type} (g g' : Nat → α) (n i : Nat) (v : α) (h : i < n) (hv : g' i = v) (hg : ∀ j, j ≠ i → g' j = g j) : spl ((List.range n).map g) i [v] = (List.range n).map g' := by
  apply List.ext_getElem?
  intro j
  unfold spl
  have hl : (((List.range n).map g).take i).length = i := by simp; omega
  rw [List.append_assoc, List.getElem?_append, hl]
  split
  · rename_i hj
    rw [List.getElem?_take, if_pos hj, List.getElem?_map, List.getElem?_map, List.getElem?_range (by omega)]
    simp [hg j (by omega)]
  · rename_i hj
    rw [List.getElem?_append]
    split
    · rename_i hj2
      simp at hj2
      have : j = i := by omega
      subst this
      simp [h, hv]
    · rename_i hj2
      simp at hj2
      rw [List.getElem?_drop, List.getElem?_map, List.getElem?_map]
      simp only [List.length_singleton]
      rw [show i + 1 + (j - i - 1) = j by omega]
      by_cases hjn : j < n
      · rw [List.getElem?_range hjn]; simp [hg j (by omega)]
      · rw [List.getElem?_eq_none (by simp; omega)]; simp

theorem hit_iff {l : List Vis} (hl : ∀ v ∈ l, v.good 8) {v : Vis} (hv : v.good 8) {c : Nat} (hc : v.i * 8 + v.j = c) : hit l c = true ↔ ∃ u ∈ l, u.key = v.key := by
  unfold hit
  rw [List.any_eq_true]
  constructor
  · rintro ⟨u, hu, h⟩
    have g := hl u hu
    simp at h
    refine ⟨u, hu, ?_⟩
    unfold Vis.good at g hv
    unfold Vis.key
    have : u.i = v.i := by omega
    have : u.j = v.j := by omega
    simp [*]
  · rintro ⟨u, hu, h⟩
    refine ⟨u, hu, ?_⟩
    unfold Vis.key at h
    simp at h
    simp [h.1, h.2, hc]

/-- The visibility from a station to another one. -/
def got (i j : Int) : List Vis → Option Cx
  | [] => none
  | v :: r => if v.i = i ∧ v.j = j then some v.v else if v.i = j ∧ v.j = i then some (conj v.v) else got i j r

theorem got_drop {l : List Vis} {k : Nat} (hk : k < l.length) (i j : Int) : got i j (l.drop k) = if l[k].i = i ∧ l[k].j = j then some l[k].v else if l[k].i = j ∧ l[k].j = i then some (conj l[k].v) else got i j (l.drop (k + 1)) := by
  rw [List.drop_eq_getElem_cons hk]; rfl

/-- All are stations, and different. -/
def apart (l : List Int) : Prop := (∀ s ∈ l, 0 ≤ s ∧ s < 8) ∧ l.Nodup
instance (l : List Int) : Decidable (apart l) := by unfold apart; infer_instance

theorem apart_succ {l : List Int} {k : Nat} (hk : k < l.length) : apart (l.take (k + 1)) ↔ apart (l.take k) ∧ (0 ≤ l[k] ∧ l[k] < 8) ∧ l[k] ∉ l.take k := by
  unfold apart
  rw [List.take_succ_eq_append_getElem hk, List.nodup_append]
  constructor
  · rintro ⟨h1, h2, _, h3⟩
    exact ⟨⟨fun s hs => h1 s (List.mem_append_left _ hs), h2⟩, h1 _ (List.mem_append_right _ (List.mem_singleton.2 rfl)), fun hm => h3 _ hm _ (List.mem_singleton.2 rfl) rfl⟩
  · rintro ⟨⟨h1, h2⟩, h3, h4⟩
    refine ⟨fun s hs => ?_, h2, by simp, fun a ha b hb => ?_⟩
    · rw [List.mem_append] at hs
      rcases hs with hs | hs
      · exact h1 s hs
      · simp at hs; rw [hs]; exact h3
    · simp at hb; rintro rfl; exact h4 (hb ▸ ha)

theorem apart_take {l : List Int} (k : Nat) (h : apart l) : apart (l.take k) :=
  ⟨fun s hs => h.1 s (List.mem_of_mem_take hs), h.2.sublist (List.take_sublist ..)⟩

def inAt (l : List Int) : List PV := (List.range 8).map fun (c : Nat) => bl (decide ((c : Int) ∈ l))

def get27 (l : List Vis) (i j : Int) : Cx × Int :=
  if ck27 l ≠ 0 then (c0, ck27 l) else if ¬ apart [i, j] then (c0, 2) else match got i j l with | some c => (c, 0) | none => (c0, 6)

/-! Triples -/

structure Tri where
  a : Int
  b : Int
  c : Int
deriving DecidableEq

instance : Enc Tri where
  sz := 3
  cs l := [i64 l.a, i64 l.b, i64 l.c]
  ok l := I64 l.a ∧ I64 l.b ∧ I64 l.c
  len _ := rfl
  pos := by decide

def isTri (l : List Vis) (n : Nat) : Bool := decide (n / 64 < n / 8 % 8) && decide (n / 8 % 8 < n % 8) && hit l (n / 64 * 8 + n / 8 % 8) && hit l (n / 8 % 8 * 8 + n % 8) && hit l (n / 64 * 8 + n % 8)

def tris (l : List Vis) : Nat → List Tri
  | 0 => []
  | n + 1 => tris l n ++ if isTri l n then [⟨(n / 64 : Nat), (n / 8 % 8 : Nat), (n % 8 : Nat)⟩] else []

theorem tris_skip (l : List Vis) (x : Nat) : ∀ d : Nat, (∀ m, x ≤ m → m < x + d → isTri l m = false) → tris l (x + d) = tris l x
  | 0, _ => rfl
  | d + 1, h => by
    rw [show x + (d + 1) = (x + d) + 1 from rfl, tris, h (x + d) (by omega) (by omega), tris_skip l x d fun m h1 h2 => h m h1 (by omega)]
    simp

theorem tris_length (l : List Vis) : ∀ n, (tris l n).length ≤ n
  | 0 => Nat.le_refl _
  | n + 1 => by
    have := tris_length l n
    rw [tris, List.length_append]
    split <;> simp <;> omega

def triples (l : List Vis) : List Tri × Int := if ck27 l ≠ 0 then ([], ck27 l) else (tris l 512, 0)

theorem got_some {l : List Vis} (hl : ∀ v ∈ l, v.good 8) {a b : Nat} (hab : a < b) (hb : b < 8) : (got a b l).isSome = hit l (a * 8 + b) := by
  induction l with
  | nil => rfl
  | cons v r ih =>
    have g := hl v (by simp)
    unfold Vis.good at g
    have ih := ih fun u hu => hl u (by simp [hu])
    unfold got hit
    rw [List.any_cons]
    by_cases h : v.i = a ∧ v.j = b
    · rw [if_pos h]
      simp [h.1, h.2]
    · rw [if_neg h, if_neg (by omega), ih]
      have : ¬ (v.i * 8 + v.j = ((a * 8 + b : Nat) : Int)) := by omega
      rw [show (v.i * 8 + v.j == ((a * 8 + b : Nat) : Int)) = false by simp; omega]
      rfl

end Go.Pv

/- Tables of gains, in plain Lean. -/
namespace Go.Pv
open Go.Vc

def okG (c : Cx) : Prop := c.valid ∧ ¬ c.zero
instance (c : Cx) : Decidable (okG c) := by unfold okG; infer_instance

/-- The error of a table. -/
def ck26 (g : List Cx) : Int := if 8 < g.length then 4 else if g.length = 0 then 8 else if g.all (fun c => decide (okG c)) then 0 else 8

theorem ck26_0 {g : List Cx} (h : ck26 g = 0) : g.length ≤ 8 ∧ 0 < g.length ∧ ∀ c ∈ g, okG c := by
  unfold ck26 at h
  split at h
  · omega
  · split at h
    · omega
    · split at h
      · rename_i h1 h2 h3
        rw [List.all_eq_true] at h3
        exact ⟨by omega, by omega, fun c hc => by simpa using h3 c hc⟩
      · omega

theorem ck26_8 {g : List Cx} (h : g.length ≤ 8) {k : Nat} (hk : k < g.length) (hb : ¬ okG g[k]) : ck26 g = 8 := by
  unfold ck26
  rw [if_neg (by omega), if_neg (by omega), if_neg]
  rw [List.all_eq_true]
  intro h'
  exact hb (by simpa using h' g[k] (List.getElem_mem hk))

theorem ck26_ok {g : List Cx} (h : g.length ≤ 8) (h0 : 0 < g.length) (hb : ∀ c ∈ g, okG c) : ck26 g = 0 := by
  unfold ck26
  rw [if_neg (by omega), if_neg (by omega), if_pos]
  rw [List.all_eq_true]
  intro c hc
  simpa using hb c hc

theorem conj_valid {a : Cx} (h : a.valid) : (conj a).valid := by
  obtain ⟨h1, h2, h3, h4, h5⟩ := h
  refine ⟨h1, h2, h3, by unfold fits at *; simp only [conj]; omega, ?_⟩
  unfold g3 at h5 ⊢
  simpa [conj] using h5

theorem make_err (x y z : Int) : (make x y z).2 = 0 ∨ make x y z = (c0, 16) := by
  unfold make
  split
  · exact .inl rfl
  · exact .inr rfl

/-- Products of valid numbers: there is one, or it is out of range. -/
theorem mul_err {a b : Cx} (ha : a.valid) (hb : b.valid) : (mul a b).2 = 0 ∨ mul a b = (c0, 16) := by
  unfold mul
  rw [if_pos ⟨ha, hb⟩]
  exact make_err _ _ _

theorem make_ok {x y z : Int} (hz : 0 < z) (h : (make x y z).2 = 0) : (make x y z).1 = norm x y z ∧ (norm x y z).valid := by
  rw [make_valid hz] at h ⊢
  split at h
  · rename_i hv; rw [if_pos hv]; exact ⟨rfl, hv⟩
  · simp at h

theorem mul_ok {a b : Cx} (ha : a.valid) (hb : b.valid) (h : (mul a b).2 = 0) : (mul a b).1 = norm (a.re * b.re - a.im * b.im) (a.re * b.im + a.im * b.re) (a.den * b.den) ∧ (mul a b).1.valid := by
  have e : mul a b = make (a.re * b.re - a.im * b.im) (a.re * b.im + a.im * b.re) (a.den * b.den) := by rw [mul, if_pos ⟨ha, hb⟩]
  rw [e] at h ⊢
  have hp : 0 < a.den * b.den := mul_pos' ha.1 hb.1
  obtain ⟨h1, h2⟩ := make_ok hp h
  rw [h1]
  exact ⟨rfl, h2⟩

/-- A number times the conjugate of another one. -/
def tconj (a b : Cx) : Cx × Int := if b.valid then mul a (conj b) else (c0, 8)

/-- The first error among products. -/
def perr (m : Cx → Cx → Cx × Int) (u v : Nat → Cx) : Nat → Int
  | 0 => 0
  | n + 1 => if perr m u v n ≠ 0 then perr m u v n else (m (u n) (v n)).2

def prods (m : Cx → Cx → Cx × Int) (u v : Nat → Cx) (n : Nat) : List Cx × Int :=
  if perr m u v n = 0 then ((List.range n).map fun k => (m (u k) (v k)).1, 0) else ([], perr m u v n)

theorem perr_le {m : Cx → Cx → Cx × Int} {u v : Nat → Cx} {n : Nat} (h : perr m u v n ≠ 0) : ∀ d, perr m u v (n + d) = perr m u v n
  | 0 => rfl
  | d + 1 => by rw [show n + (d + 1) = (n + d) + 1 from rfl, perr, perr_le h d, if_pos h]

theorem perr_bad {m : Cx → Cx → Cx × Int} {u v : Nat → Cx} {k n : Nat} (hk : k < n) (h0 : perr m u v k = 0) (h : (m (u k) (v k)).2 ≠ 0) : perr m u v n = (m (u k) (v k)).2 := by
  have e : perr m u v (k + 1) = (m (u k) (v k)).2 := by rw [perr, if_neg (by simp [h0])]
  obtain ⟨d, rfl⟩ : ∃ d, n = (k + 1) + d := ⟨n - (k + 1), by omega⟩
  rw [perr_le (by rw [e]; exact h), e]

theorem perr_0 {m : Cx → Cx → Cx × Int} {u v : Nat → Cx} : ∀ {n : Nat}, perr m u v n = 0 ↔ ∀ k, k < n → (m (u k) (v k)).2 = 0
  | 0 => ⟨fun _ k hk => by omega, fun _ => rfl⟩
  | n + 1 => by
    rw [perr]
    constructor
    · intro h k hk
      by_cases h0 : perr m u v n = 0
      · rw [if_neg (by simp [h0])] at h
        by_cases e : k = n
        · subst e; exact h
        · exact (perr_0.1 h0) k (by omega)
      · rw [if_pos h0] at h; exact absurd h h0
    · intro h
      have h0 : perr m u v n = 0 := perr_0.2 fun k hk => h k (by omega)
      rw [if_neg (by simp [h0])]
      exact h n (by omega)

/-- All errors are the same. -/
theorem perr_16 {m : Cx → Cx → Cx × Int} {u v : Nat → Cx} {n : Nat} (hm : ∀ k, k < n → (m (u k) (v k)).2 = 0 ∨ m (u k) (v k) = (c0, 16)) : perr m u v n = 0 ∨ perr m u v n = 16 := by
  induction n with
  | zero => exact .inl rfl
  | succ n ih =>
    rw [perr]
    rcases ih fun k hk => hm k (by omega) with h | h
    · rw [if_neg (by simp [h])]
      rcases hm n (by omega) with h | h
      · exact .inl h
      · exact .inr (by rw [h])
    · rw [if_pos (by omega)]; exact .inr h

def at_ (g : List Cx) (i : Int) : Cx := g.getD i.toNat c0

/-- What a table makes of one visibility's value. -/
def act1 (g : List Cx) (v : Vis) : Cx × Int :=
  if (mul (at_ g v.i) v.v).2 ≠ 0 then (c0, 16) else
  if (mul (mul (at_ g v.i) v.v).1 (conj (at_ g v.j))).2 ≠ 0 then (c0, 16) else mul (mul (at_ g v.i) v.v).1 (conj (at_ g v.j))

def Vis.set (v : Vis) (c : Cx) : Vis := ⟨v.i, v.j, c, v.n⟩

def act26 (g : List Cx) (l : List Vis) : List Vis × Int :=
  if ck26 g ≠ 0 then ([], ck26 g) else if all26 l g.length ≠ 0 then ([], all26 l g.length) else
  if l.all (fun v => (act1 g v).2 = 0) then (l.map fun v => v.set (act1 g v).1, 0) else ([], 16)

abbrev resV (r : List Vis × Int) : SV := .tup [.p (sl r.1), .p (i64 r.2)]
abbrev resCs (r : List Cx × Int) : SV := .tup [.p (sl r.1), .p (i64 r.2)]

theorem at_get {g : List Cx} {k : Nat} (h : k < g.length) : at_ g k = g[k] := by
  simp [at_, List.getD, h]

theorem at_mem {g : List Cx} {i : Int} (h0 : 0 ≤ i) (h : i < g.length) : at_ g i ∈ g := by
  obtain ⟨k, rfl⟩ : ∃ k : Nat, i = k := ⟨i.toNat, by omega⟩
  rw [at_get (by omega)]
  exact List.getElem_mem _

end Go.Pv

/- Tables of gains: products, inverses, tables that act alike, in plain Lean. -/
namespace Go.Pv
open Go.Vc

def both26 (g h : List Cx) : Int := if ck26 g ≠ 0 then ck26 g else if ck26 h ≠ 0 then ck26 h else if g.length ≠ h.length then 2 else 0

theorem both26_0 {g h : List Cx} (e : both26 g h = 0) : ck26 g = 0 ∧ ck26 h = 0 ∧ g.length = h.length := by
  unfold both26 at e
  split at e
  · rename_i h1; exact absurd e h1
  split at e
  · rename_i _ h1; exact absurd e h1
  split at e
  · cases e
  · rename_i h1 h2 h3; exact ⟨by omega, by omega, by omega⟩

def gat (g : List Cx) (k : Nat) : Cx := g.getD k c0

theorem gat_get {g : List Cx} {k : Nat} (h : k < g.length) : gat g k = g[k] := by simp [gat, h]

/-- What one gain of two tables that may act alike comes to. -/
def alE (g h : List Cx) (i : Nat) : Int := if (mul (gat g i) (gat h 0)).2 ≠ 0 then (mul (gat g i) (gat h 0)).2 else (mul (gat g 0) (gat h i)).2
def alS (g h : List Cx) (i : Nat) : Bool := decide ((mul (gat g i) (gat h 0)).1 = (mul (gat g 0) (gat h i)).1)

def aerr (g h : List Cx) : Nat → Int
  | 0 => 0
  | k + 1 => if aerr g h k ≠ 0 then aerr g h k else alE g h k
def asame (g h : List Cx) : Nat → Bool
  | 0 => true
  | k + 1 => asame g h k && alS g h k

theorem aerr_le {g h : List Cx} {n : Nat} (e : aerr g h n ≠ 0) : ∀ d, aerr g h (n + d) = aerr g h n
  | 0 => rfl
  | d + 1 => by
    have ih := aerr_le e d
    show aerr g h (n + d + 1) = _
    rw [aerr, ih, if_pos e]

theorem aerr_bad {g h : List Cx} {k n : Nat} (hk : k < n) (h0 : aerr g h k = 0) (e : alE g h k ≠ 0) : aerr g h n = alE g h k := by
  have h1 : aerr g h (k + 1) = alE g h k := by rw [aerr, if_neg (by simp [h0])]
  have := aerr_le (g := g) (h := h) (n := k + 1) (by rw [h1]; exact e) (n - (k + 1))
  rw [show k + 1 + (n - (k + 1)) = n by omega, h1] at this
  exact this

theorem nrm_err {a : Cx} (h : a.valid) : (nrm a).2 = 0 ∨ nrm a = (⟨0, 0⟩, 16) := by
  rw [nrm, if_pos h]
  split
  · exact .inr rfl
  · exact .inl rfl

def alike (g h : List Cx) : Bool × Int :=
  if both26 g h ≠ 0 then (false, both26 g h) else if (nrm (gat g 0)).2 ≠ 0 then (false, 16) else if (nrm (gat h 0)).2 ≠ 0 then (false, 16)
  else if aerr g h g.length ≠ 0 then (false, 16) else (decide ((nrm (gat g 0)).1 = (nrm (gat h 0)).1) && asame g h g.length, 0)

theorem alE_16 {g h : List Cx} {i : Nat} (h1 : (gat g i).valid) (h2 : (gat h 0).valid) (h3 : (gat g 0).valid) (h4 : (gat h i).valid) : alE g h i = 0 ∨ alE g h i = 16 := by
  unfold alE
  rcases mul_err h1 h2 with e | e
  · rw [if_neg (by simp [e])]
    rcases mul_err h3 h4 with e | e
    · exact .inl e
    · exact .inr (by rw [e])
  · rw [e]; simp

theorem gat_valid {g : List Cx} (h : ck26 g = 0) {i : Nat} (hi : i < g.length) : (gat g i).valid ∧ ¬ (gat g i).zero := by
  rw [gat_get hi]
  exact (ck26_0 h).2.2 _ (List.getElem_mem hi)

theorem aerr_16 {g h : List Cx} (e : both26 g h = 0) : ∀ n, n ≤ g.length → aerr g h n = 0 ∨ aerr g h n = 16
  | 0, _ => .inl rfl
  | n + 1, hn => by
    obtain ⟨h1, h2, h3⟩ := both26_0 e
    obtain ⟨_, hp, _⟩ := ck26_0 h1
    rcases aerr_16 e n (by omega) with h | h
    · rw [aerr, if_neg (by simp [h])]
      exact alE_16 (gat_valid h1 (by omega)).1 (gat_valid h2 (by omega)).1 (gat_valid h1 (by omega)).1 (gat_valid h2 (by omega)).1
    · rw [aerr, if_pos (by omega)]; exact .inr h

/-- Products of tables, inverses, tables referred to a station. -/
def tmul (g h : List Cx) : List Cx × Int := if both26 g h ≠ 0 then ([], both26 g h) else prods mul (gat g) (gat h) g.length
def tinv (g : List Cx) : List Cx × Int := if ck26 g ≠ 0 then ([], ck26 g) else prods div (fun _ => one) (gat g) g.length
def trefer (g : List Cx) (s : Int) : List Cx × Int := if ck26 g ≠ 0 then ([], ck26 g) else if s < 0 ∨ s ≥ g.length then ([], 2) else prods tconj (gat g) (fun _ => at_ g s) g.length

theorem prods_length (m : Cx → Cx → Cx × Int) (u v : Nat → Cx) (n : Nat) : (prods m u v n).1.length ≤ n := by
  unfold prods
  split <;> simp

theorem prods_err {m : Cx → Cx → Cx × Int} {u v : Nat → Cx} {n : Nat} (h : (prods m u v n).2 ≠ 0) : (prods m u v n).1 = [] := by
  unfold prods at *
  split
  · rename_i e; simp [e] at h
  · rfl
end Go.Pv
namespace Go.Pv
theorem div_err {a b : Cx} (ha : a.valid) (hb : b.valid) (hz : ¬ b.zero) : (div a b).2 = 0 ∨ div a b = (c0, 16) := by
  rw [div, if_pos ⟨ha, hb⟩, if_neg hz]
  exact make_err _ _ _

theorem tconj_err {a b : Cx} (ha : a.valid) (hb : b.valid) : (tconj a b).2 = 0 ∨ tconj a b = (c0, 16) := by
  rw [tconj, if_pos hb]
  exact mul_err ha (conj_valid hb)

theorem prods_bad {m : Cx → Cx → Cx × Int} {u v : Nat → Cx} {k n : Nat} (hk : k < n) (h0 : perr m u v k = 0) (h : (m (u k) (v k)).2 ≠ 0) (he : (m (u k) (v k)).2 = 0 ∨ m (u k) (v k) = (c0, 16)) : prods m u v n = ([], 16) := by
  have e := perr_bad hk h0 h
  rcases he with h' | h'
  · exact absurd h' h
  · rw [h'] at e
    rw [prods, if_neg (by rw [e]; decide), e]
end Go.Pv

/- Bandpasses: the plain functions. -/
namespace Go.Pv

/-- The first row of a bandpass. -/
def row0 (b : List (List Cx)) : List Cx := b.headD []

theorem row0_get {b : List (List Cx)} (h : 0 < b.length) : row0 b = b[0] := by
  cases b with
  | nil => simp at h
  | cons a r => rfl

def ck32 (b : List (List Cx)) : Int :=
  if 8 < b.length then 4 else if ∃ r ∈ b, 16 < r.length then 4 else if b.length = 0 ∨ (row0 b).length = 0 then 8 else
  if ∃ r ∈ b, r.length ≠ (row0 b).length then 8 else if ∀ r ∈ b, ∀ c ∈ r, okG c then 0 else 8

theorem ck32_0 {b : List (List Cx)} (h : ck32 b = 0) : b.length ≤ 8 ∧ 0 < b.length ∧ 0 < (row0 b).length ∧ (row0 b).length ≤ 16 ∧ (∀ r ∈ b, r.length = (row0 b).length) ∧ ∀ r ∈ b, ∀ c ∈ r, okG c := by
  unfold ck32 at h
  split at h
  · omega
  split at h
  · omega
  split at h
  · omega
  split at h
  · omega
  split at h
  · rename_i h1 h2 h3 h4 h5
    have h0 : 0 < b.length := by omega
    refine ⟨by omega, h0, by omega, ?_, fun r hr => ?_, h5⟩
    · rw [row0_get h0]
      by_cases hc : 16 < b[0].length
      · exact absurd ⟨_, List.getElem_mem h0, hc⟩ h2
      · omega
    · by_cases hc : r.length = (row0 b).length
      · exact hc
      · exact absurd ⟨r, hr, hc⟩ h4
  · omega

/-- How many elements the first k rows have. -/
def cnt32 (b : List (List Cx)) (k : Nat) : Nat := (b.take k).flatten.length

theorem cnt32_0 (b : List (List Cx)) : cnt32 b 0 = 0 := rfl
theorem cnt32_succ {b : List (List Cx)} {k : Nat} (h : k < b.length) : cnt32 b (k + 1) = cnt32 b k + b[k].length := by
  unfold cnt32
  rw [List.take_succ_eq_append_getElem h, List.flatten_append, List.length_append]
  simp
theorem cnt32_all (b : List (List Cx)) : cnt32 b b.length = b.flatten.length := by
  unfold cnt32
  rw [List.take_length]

theorem cnt32_get {b : List (List Cx)} {k j : Nat} (hk : k < b.length) (hj : j < b[k].length) : b.flatten[cnt32 b k + j]? = some b[k][j] := by
  unfold cnt32
  have e : b = b.take k ++ (b[k] :: b.drop (k + 1)) := by rw [List.getElem_cons_drop]; simp
  have e2 : b.flatten = (b.take k).flatten ++ (b[k] ++ (b.drop (k + 1)).flatten) := by
    have := congrArg List.flatten e
    rw [List.flatten_append, List.flatten_cons] at this
    exact this
  rw [e2, List.getElem?_append_right (by omega), Nat.add_sub_cancel_left, List.getElem?_append_left hj]
  simp [hj]

/-- A channel of all stations. -/
def col32 (b : List (List Cx)) (c : Nat) : List Cx := b.map fun r => gat r c

/-- The first error of the channels below c. -/
def berr (col : Nat → List Cx × Int) : Nat → Int
  | 0 => 0
  | c + 1 => if berr col c ≠ 0 then berr col c else (col c).2

theorem berr_bad {col : Nat → List Cx × Int} {c m : Nat} (hc : c < m) (h0 : berr col c = 0) (h : (col c).2 ≠ 0) : berr col m = (col c).2 := by
  induction m with
  | zero => omega
  | succ m ih =>
    by_cases hm : c = m
    · subst hm; rw [berr, if_neg (by simp [h0])]
    · rw [berr, ih (by omega), if_pos h]

theorem berr_0 {col : Nat → List Cx × Int} {m : Nat} (h : berr col m = 0) : ∀ c, c < m → (col c).2 = 0 := by
  intro c hc
  induction m with
  | zero => omega
  | succ m ih =>
    rw [berr] at h
    split at h
    · rename_i h1; exact absurd h h1
    · rename_i h1
      by_cases hm : c = m
      · subst hm; exact h
      · exact ih (by simpa using h1) (by omega)

/-- The first c channels of station j. -/
def brow (col : Nat → List Cx × Int) (c j : Nat) : List Cx := (List.range c).map fun c' => gat (col c').1 j
theorem brow_length (col : Nat → List Cx × Int) (c j : Nat) : (brow col c j).length = c := by simp [brow]
theorem brow_succ (col : Nat → List Cx × Int) (c j : Nat) : brow col (c + 1) j = brow col c j ++ [gat (col c).1 j] := by simp [brow, List.range_succ]

def built (n m : Nat) (col : Nat → List Cx × Int) : List (List Cx) × Int := if berr col m = 0 then ((List.range n).map fun j => brow col m j, 0) else ([], berr col m)

abbrev resBs (r : List (List Cx) × Int) : SV := .tup [.p (sl r.1), .p (i64 r.2)]

/-- The rows while channel c is laid out, i stations of it being done. -/
def bNs (e : TypeId) (n : Nat) (col : Nat → List Cx × Int) (c i : Nat) : List NC := (List.range n).map fun j => .ow e 3 (if j < i then c + 1 else c) (flat (brow col (if j < i then c + 1 else c) j))

theorem bNs_0 (e : TypeId) (n : Nat) (col : Nat → List Cx × Int) : bNs e n col 0 0 = List.replicate n (.ow e 3 0 []) := by
  apply List.ext_getElem
  · simp [bNs]
  · intro j h1 h2
    simp [bNs, brow, flat]

theorem bNs_get {e : TypeId} {n : Nat} {col : Nat → List Cx × Int} {c i : Nat} (h : i < n) : (bNs e n col c i)[i]? = some (.ow e 3 c (flat (brow col c i))) := by
  simp [bNs, h]

theorem bNs_put {e : TypeId} {n : Nat} {col : Nat → List Cx × Int} {c i : Nat} (h : i < n) : (bNs e n col c i).set i (.ow e 3 (c + 1) (flat (brow col (c + 1) i))) = bNs e n col c (i + 1) := by
  apply List.ext_getElem
  · simp [bNs]
  · intro j h1 h2
    simp only [bNs, List.getElem_set, List.getElem_map, List.getElem_range]
    by_cases hj : i = j
    · subst hj; simp
    · rw [if_neg hj]
      by_cases hlt : j < i
      · rw [if_pos hlt, if_pos (by omega)]
      · rw [if_neg hlt, if_neg (by omega)]

theorem bNs_next {e : TypeId} {n : Nat} {col : Nat → List Cx × Int} {c : Nat} : bNs e n col c n = bNs e n col (c + 1) 0 := by
  apply List.ext_getElem
  · simp [bNs]
  · intro j h1 h2
    simp only [bNs, List.length_map, List.length_range] at h1
    simp only [bNs, List.getElem_map, List.getElem_range]
    rw [if_pos h1, if_neg (by omega)]

theorem bNs_pv {e : TypeId} {n : Nat} {col : Nat → List Cx × Int} {c : Nat} : (bNs e n col c 0).map ncP = flat ((List.range n).map fun j => brow col c j) := by
  unfold bNs
  rw [List.map_map]
  generalize List.range n = r
  induction r with
  | nil => rfl
  | cons j r ih =>
    rw [List.map_cons, List.map_cons, flat_cons, ← ih]
    show PV.sl false c (flat (brow col c j)) :: _ = [PV.sl false (brow col c j).length (flat (brow col c j))] ++ _
    rw [brow_length]
    rfl

theorem col32_length (b : List (List Cx)) (c : Nat) : (col32 b c).length = b.length := by simp [col32]

theorem col32_ck {b : List (List Cx)} (h : ck32 b = 0) {c : Nat} (hc : c < (row0 b).length) : ck26 (col32 b c) = 0 := by
  obtain ⟨h1, h2, h3, h4, h5, h6⟩ := ck32_0 h
  unfold ck26
  rw [if_neg (by rw [col32_length]; omega), if_neg (by rw [col32_length]; omega), if_pos]
  rw [List.all_eq_true]
  intro x hx
  rw [col32, List.mem_map] at hx
  obtain ⟨r, hr, rfl⟩ := hx
  have hl := h5 r hr
  rw [gat_get (by omega)]
  simpa using h6 r hr _ (List.getElem_mem (by omega))

theorem col32_gat {b : List (List Cx)} {c j : Nat} (hj : j < b.length) : gat (col32 b c) j = gat b[j] c := by
  simp [col32, gat, hj]

def both32 (a b : List (List Cx)) : Int := if ck32 a ≠ 0 then ck32 a else ck32 b
theorem both32_0 {a b : List (List Cx)} (h : both32 a b = 0) : ck32 a = 0 ∧ ck32 b = 0 := by
  unfold both32 at h
  split at h
  · rename_i h1; exact absurd h h1
  · rename_i h1; exact ⟨by simpa using h1, h⟩

theorem prods_len {m : Cx → Cx → Cx × Int} {u v : Nat → Cx} {n : Nat} (h : (prods m u v n).2 = 0) : (prods m u v n).1.length = n := by
  unfold prods at h ⊢
  split
  · simp
  · rename_i h1
    rw [if_neg h1] at h
    exact absurd h h1

theorem tmul_len {g h : List Cx} (e : (tmul g h).2 = 0) : (tmul g h).1.length = g.length := by
  unfold tmul at e ⊢
  split
  · rename_i h1
    rw [if_pos h1] at e
    exact absurd e h1
  · rename_i h1
    rw [if_neg h1] at e
    exact prods_len e

theorem tinv_len {g : List Cx} (e : (tinv g).2 = 0) : (tinv g).1.length = g.length := by
  unfold tinv at e ⊢
  split
  · rename_i h1
    rw [if_pos h1] at e
    exact absurd e h1
  · rename_i h1
    rw [if_neg h1] at e
    exact prods_len e

def bmul (a b : List (List Cx)) : List (List Cx) × Int :=
  if both32 a b ≠ 0 then ([], both32 a b) else if a.length ≠ b.length ∨ (row0 a).length ≠ (row0 b).length then ([], 2) else
  built a.length (row0 a).length fun c => tmul (col32 a c) (col32 b c)

def binv (b : List (List Cx)) : List (List Cx) × Int := if ck32 b ≠ 0 then ([], ck32 b) else built b.length (row0 b).length fun c => tinv (col32 b c)

def bflat (g : List Cx) (n : Int) : List (List Cx) × Int := if ck26 g ≠ 0 then ([], ck26 g) else if n < 1 ∨ 16 < n then ([], 2) else built g.length n.toNat fun _ => (g, 0)
end Go.Pv
