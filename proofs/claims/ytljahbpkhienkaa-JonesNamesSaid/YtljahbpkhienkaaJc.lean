/- JonesReckons: the walk. -/
import Derived.Test.YtljahbpkhienkaaJb
namespace Go.Pv
open Go.Vc
open Go.Proofs
set_option maxRecDepth 10000
set_option maxHeartbeats 4000000

theorem eqPL_jn (a b : Jn) : eqPL [i64 a.a.re, i64 a.a.im, i64 a.a.den, i64 a.b.re, i64 a.b.im, i64 a.b.den, i64 a.c.re, i64 a.c.im, i64 a.c.den, i64 a.d.re, i64 a.d.im, i64 a.d.den] [i64 b.a.re, i64 b.a.im, i64 b.a.den, i64 b.b.re, i64 b.b.im, i64 b.b.den, i64 b.c.re, i64 b.c.im, i64 b.c.den, i64 b.d.re, i64 b.d.im, i64 b.d.den] = decide (a = b) := by
  obtain ⟨⟨a1, a2, a3⟩, ⟨a4, a5, a6⟩, ⟨a7, a8, a9⟩, ⟨a10, a11, a12⟩⟩ := a
  obtain ⟨⟨b1, b2, b3⟩, ⟨b4, b5, b6⟩, ⟨b7, b8, b9⟩, ⟨b10, b11, b12⟩⟩ := b
  rw [Bool.eq_iff_iff]
  simp [eqPL, eqP]
  omega

theorem jonesReckons (a b : Jn) (ha : Enc.ok a) (hb : Enc.ok b) : Ret Try.prog 3 [jn a, jn b] [] (.p (bl true)) := by
  refine ret (fn := Try.f3) (by kernel_rfl) (by kernel_rfl) rfl ?_
  have eJ : ∀ m : Jn, eqPL [i64 m.a.re, i64 m.a.im, i64 m.a.den, i64 m.b.re, i64 m.b.im, i64 m.b.den, i64 m.c.re, i64 m.c.im, i64 m.c.den, i64 m.d.re, i64 m.d.im, i64 m.d.den] [i64 m.a.re, i64 m.a.im, i64 m.a.den, i64 m.b.re, i64 m.b.im, i64 m.b.den, i64 m.c.re, i64 m.c.im, i64 m.c.den, i64 m.d.re, i64 m.d.im, i64 m.d.den] = true := fun m => by rw [eqPL_jn]; simp
  have eC : ∀ m : Cx, eqPL [i64 m.re, i64 m.im, i64 m.den] [i64 m.re, i64 m.im, i64 m.den] = true := fun m => by rw [eqPL_cx]; simp
  have nJ : ∀ {m : Jn} {p : Prop}, eqPL [i64 m.a.re, i64 m.a.im, i64 m.a.den, i64 m.b.re, i64 m.b.im, i64 m.b.den, i64 m.c.re, i64 m.c.im, i64 m.c.den, i64 m.d.re, i64 m.d.im, i64 m.d.den] [i64 m.a.re, i64 m.a.im, i64 m.a.den, i64 m.b.re, i64 m.b.im, i64 m.b.den, i64 m.c.re, i64 m.c.im, i64 m.c.den, i64 m.d.re, i64 m.d.im, i64 m.d.den] = false → p := fun {m p} h => by rw [eJ] at h; cases h
  have nC : ∀ {m : Cx} {p : Prop}, eqPL [i64 m.re, i64 m.im, i64 m.den] [i64 m.re, i64 m.im, i64 m.den] = false → p := fun {m p} h => by rw [eC] at h; cases h
  refine ⟨_, rfl, rfl, ?_⟩
  refine ⟨_, rfl, rfl, ?_⟩
  refine ⟨[], _, j_mul a b ha hb, rfl, ?_⟩
  refine ⟨Nat.le_refl _, ?_⟩
  refine ⟨_, rfl, rfl, ?_⟩
  refine ⟨_, rfl, rfl, ?_⟩
  refine ⟨[], _, jr_mul a b, rfl, ?_⟩
  refine ⟨Nat.le_refl _, ?_⟩
  refine ⟨_, rfl, rfl, ?_⟩
  refine ⟨[], _, j_adj a ha, rfl, ?_⟩
  refine ⟨Nat.le_refl _, ?_⟩
  refine ⟨_, rfl, rfl, ?_⟩
  refine ⟨[], _, jr_adj a, rfl, ?_⟩
  refine ⟨Nat.le_refl _, ?_⟩
  refine ⟨_, rfl, rfl, ?_⟩
  refine ⟨[], _, j_det a ha, rfl, ?_⟩
  refine ⟨_, rfl, rfl, ?_⟩
  refine ⟨[], _, jr_det a, rfl, ?_⟩
  refine ⟨_, rfl, rfl, ?_⟩
  refine ⟨[], _, j_tr a ha, rfl, ?_⟩
  refine ⟨_, rfl, rfl, ?_⟩
  refine ⟨[], _, jr_tr a, rfl, ?_⟩
  refine ⟨_, rfl, rfl, ?_⟩
  refine ⟨[], _, j_inv a ha, rfl, ?_⟩
  refine ⟨Nat.le_refl _, ?_⟩
  refine ⟨_, rfl, rfl, ?_⟩
  refine ⟨[], _, jr_inv a, rfl, ?_⟩
  refine ⟨Nat.le_refl _, ?_⟩
  refine ⟨_, rfl, rfl, ?_⟩
  refine ⟨_, rfl, rfl, ?_⟩
  refine ⟨fun _ => ?_, fun h => nJ h⟩
  refine ⟨fun _ => ?_, fun h => absurd h (by simp)⟩
  refine ⟨_, rfl, rfl, ?_⟩
  refine ⟨_, rfl, rfl, ?_⟩
  refine ⟨fun _ => ?_, fun h => nJ h⟩
  refine ⟨fun _ => ?_, fun h => absurd h (by simp)⟩
  refine ⟨fun _ => ?_, fun h => nC h⟩
  refine ⟨fun _ => ?_, fun h => absurd h (by simp)⟩
  refine ⟨fun _ => ?_, fun h => nC h⟩
  refine ⟨fun _ => ?_, fun h => absurd h (by simp)⟩
  refine ⟨_, rfl, rfl, ?_⟩
  refine ⟨_, rfl, rfl, ?_⟩
  refine ⟨fun _ => ?_, fun h => nJ h⟩
  show SV.p (bl _) = _
  simp
end Go.Pv
