/- Matrices of stations, in plain Lean. -/
import Derived.Test.YtljahbpkhienkaaPlGain
namespace Go.Pv
open Go.Vc

structure Jn where
  a : Cx
  b : Cx
  c : Cx
  d : Cx
deriving DecidableEq

instance : Enc Jn where
  sz := 12
  cs l := [i64 l.a.re, i64 l.a.im, i64 l.a.den, i64 l.b.re, i64 l.b.im, i64 l.b.den, i64 l.c.re, i64 l.c.im, i64 l.c.den, i64 l.d.re, i64 l.d.im, i64 l.d.den]
  ok l := Enc.ok l.a ∧ Enc.ok l.b ∧ Enc.ok l.c ∧ Enc.ok l.d
  len _ := rfl
  pos := by decide

abbrev jn (m : Jn) : PV := .agg [i64 m.a.re, i64 m.a.im, i64 m.a.den, i64 m.b.re, i64 m.b.im, i64 m.b.den, i64 m.c.re, i64 m.c.im, i64 m.c.den, i64 m.d.re, i64 m.d.im, i64 m.d.den]

def j0 : Jn := ⟨c0, c0, c0, c0⟩

def Jn.valid (m : Jn) : Prop := m.a.valid ∧ m.b.valid ∧ m.c.valid ∧ m.d.valid
instance (m : Jn) : Decidable m.valid := by unfold Jn.valid; infer_instance

def Jn.get (m : Jn) : Nat → Cx
  | 0 => m.a
  | 1 => m.b
  | 2 => m.c
  | _ => m.d

/-- A result of a matrix. -/
def resJ (r : Jn × Int) : SV := .tup [.p (jn r.1), .p (i64 r.2)]

/-- Four numbers, one after the other. -/
def seq4 (f : Nat → Cx × Int) : Jn × Int :=
  if (f 0).2 ≠ 0 then (j0, (f 0).2) else if (f 1).2 ≠ 0 then (j0, (f 1).2) else if (f 2).2 ≠ 0 then (j0, (f 2).2) else if (f 3).2 ≠ 0 then (j0, (f 3).2) else (⟨(f 0).1, (f 1).1, (f 2).1, (f 3).1⟩, 0)

/-- What is made of two products. -/
def two (join : Cx → Cx → Cx × Int) (a b c d : Cx) : Cx × Int :=
  if (mul a b).2 ≠ 0 then (c0, (mul a b).2) else if (mul c d).2 ≠ 0 then (c0, (mul c d).2) else join (mul a b).1 (mul c d).1

def jent (a b : Jn) : Nat → Cx × Int
  | 0 => two add a.a b.a a.b b.c
  | 1 => two add a.a b.b a.b b.d
  | 2 => two add a.c b.a a.d b.c
  | _ => two add a.c b.b a.d b.d

def jmul (a b : Jn) : Jn × Int := if a.valid ∧ b.valid then seq4 (jent a b) else (j0, 8)

def jadj (a : Jn) : Jn × Int := if a.valid then (⟨conj a.a, conj a.c, conj a.b, conj a.d⟩, 0) else (j0, 8)

def jdet (a : Jn) : Cx × Int := if a.valid then two sub a.a a.d a.b a.c else (c0, 8)
def jtr (a : Jn) : Cx × Int := if a.valid then add a.a a.d else (c0, 8)

def jreg (a : Jn) : Cx × Int := if (jdet a).2 ≠ 0 then (c0, (jdet a).2) else if (jdet a).1.zero then (c0, 18) else ((jdet a).1, 0)

def jient (a : Jn) (d : Cx) : Nat → Cx × Int
  | 0 => div a.d d
  | 1 => div (neg a.b) d
  | 2 => div (neg a.c) d
  | _ => div a.a d

def jinv (a : Jn) : Jn × Int := if (jreg a).2 ≠ 0 then (j0, (jreg a).2) else seq4 (jient a (jreg a).1)

theorem jn_of_valid {c : Cx} (h : c.valid) : Enc.ok c := by
  obtain ⟨h1, h2, h3, h4, _⟩ := h
  unfold fits at h3 h4
  exact ⟨by unfold I64; omega, by unfold I64; omega, by unfold I64; omega⟩

theorem add_err {a b : Cx} (ha : a.valid) (hb : b.valid) : (add a b).2 = 0 ∨ add a b = (c0, 16) := by
  unfold add
  rw [if_pos ⟨ha, hb⟩]
  exact make_err _ _ _

theorem sub_err {a b : Cx} (ha : a.valid) (hb : b.valid) : (sub a b).2 = 0 ∨ sub a b = (c0, 16) := by
  unfold sub
  rw [if_pos ⟨ha, hb⟩]
  exact make_err _ _ _

theorem div_okJ {a b : Cx} (ha : a.valid) (hb : b.valid) (h : (div a b).2 = 0) : (div a b).1.valid := by
  by_cases hz : b.zero
  · rw [div, if_pos ⟨ha, hb⟩, if_pos hz] at h; simp at h
  · rw [div, if_pos ⟨ha, hb⟩, if_neg hz] at h ⊢
    have hn : 0 < b.re * b.re + b.im * b.im := by
      have s1 := sq_nonneg b.re
      have s2 := sq_nonneg b.im
      rcases Int.lt_trichotomy (b.re * b.re + b.im * b.im) 0 with h | h | h
      · omega
      · have t1 : b.re * b.re = 0 := by omega
        have t2 : b.im * b.im = 0 := by omega
        exact absurd ⟨by rcases Int.mul_eq_zero.1 t1 with h | h <;> exact h, by rcases Int.mul_eq_zero.1 t2 with h | h <;> exact h⟩ hz
      · exact h
    have hp : 0 < (b.re * b.re + b.im * b.im) * a.den := Int.mul_pos hn (by have := ha.1; omega)
    obtain ⟨h1, h2⟩ := make_ok hp h
    rw [h1]; exact h2

theorem div_errJ {a b : Cx} (ha : a.valid) (hb : b.valid) (hz : ¬ b.zero) : (div a b).2 = 0 ∨ div a b = (c0, 16) := by
  rw [div, if_pos ⟨ha, hb⟩, if_neg hz]
  exact make_err _ _ _

end Go.Pv
