/- The chapter's example of matrices. -/
import Derived.Test.YtljahbpkhienkaaJe
namespace Go.Pv
open Go.Vc
open Go.Proofs
set_option maxRecDepth 10000
set_option maxHeartbeats 4000000

theorem j_detE {a : Jn} {r : Cx × Int} (h : jdet a = r) (ha : Enc.ok a) : Ret Try.prog 13 [jn a] [] (resC r) := h ▸ j_det a ha
theorem j_trE {a : Jn} {r : Cx × Int} (h : jtr a = r) (ha : Enc.ok a) : Ret Try.prog 15 [jn a] [] (resC r) := h ▸ j_tr a ha
theorem j_adjE {a : Jn} {r : Jn × Int} (h : jadj a = r) (ha : Enc.ok a) : Ret Try.prog 11 [jn a] [] (resJ r) := h ▸ j_adj a ha
theorem j_invE {a : Jn} {r : Jn × Int} (h : jinv a = r) (ha : Enc.ok a) : Ret Try.prog 17 [jn a] [] (resJ r) := h ▸ j_inv a ha
theorem j_actE {t : List Jn} {l : List Pol} {r : List Pol × Int} (h : jact t l = r) (ht : ∀ m ∈ t, Enc.ok m) (hl : ∀ p ∈ l, Enc.ok p) : Ret Try.prog 22 [sl t, sl l] [] (resP r) := h ▸ j_act t l ht hl

instance (n : Int) : Decidable (I64 n) := by unfold I64; infer_instance
instance (c : Cx) : Decidable (Enc.ok c) := by show Decidable (I64 c.re ∧ I64 c.im ∧ I64 c.den); infer_instance
instance (m : Jn) : Decidable (Enc.ok m) := by show Decidable (Enc.ok m.a ∧ Enc.ok m.b ∧ Enc.ok m.c ∧ Enc.ok m.d); infer_instance
instance (p : Pol) : Decidable (Enc.ok p) := by show Decidable (I64 p.i ∧ I64 p.j ∧ Enc.ok p.v ∧ I64 p.n); infer_instance

def w4 (a b c d : Int) : Jn := ⟨⟨a, 0, 1⟩, ⟨b, 0, 1⟩, ⟨c, 0, 1⟩, ⟨d, 0, 1⟩⟩
def exJ : Jn := ⟨⟨1, 0, 1⟩, ⟨0, 1, 1⟩, ⟨0, 0, 1⟩, ⟨2, 0, 1⟩⟩

theorem jl_of (re im den : Int) : Ret Try.prog 49 [i64 re, i64 im, i64 den] [] (.p (cx ⟨re, im, den⟩)) := by
  refine ret (fn := Try.f49) (by kernel_rfl) (by kernel_rfl) rfl ?_
  rfl

theorem jl_whole (a b c d : Int) : Ret Try.prog 27 [i64 a, i64 b, i64 c, i64 d] [] (.p (jn (w4 a b c d))) := by
  refine ret (fn := Try.f27) (by kernel_rfl) (by kernel_rfl) rfl ?_
  refine ⟨[], _, jl_of a 0 1, rfl, ?_⟩
  refine ⟨[], _, jl_of b 0 1, rfl, ?_⟩
  refine ⟨[], _, jl_of c 0 1, rfl, ?_⟩
  refine ⟨[], _, jl_of d 0 1, rfl, ?_⟩
  refine ⟨Nat.le_refl _, ?_⟩
  refine ⟨_, rfl, rfl, ?_⟩
  rfl

theorem jl_exam : Ret Try.prog 48 [] [] (.p (jn exJ)) := by
  refine ret (fn := Try.f48) (by kernel_rfl) (by kernel_rfl) rfl ?_
  refine ⟨[], _, jl_of 1 0 1, rfl, ?_⟩
  refine ⟨[], _, jl_of 0 1 1, rfl, ?_⟩
  refine ⟨[], _, jl_of 0 0 1, rfl, ?_⟩
  refine ⟨[], _, jl_of 2 0 1, rfl, ?_⟩
  refine ⟨Nat.le_refl _, ?_⟩
  refine ⟨_, rfl, rfl, ?_⟩
  rfl

theorem jl_alive : Ret Try.prog 19 [] [] (.p (bl true)) := by
  refine ret (fn := Try.f19) (by kernel_rfl) (by kernel_rfl) rfl ?_
  have ok : Enc.ok exJ := by decide
  refine ⟨[], _, jl_exam, rfl, ?_⟩
  refine ⟨[], _, j_detE (a := exJ) (r := (⟨2, 0, 1⟩, 0)) (by decide +kernel) ok, rfl, ?_⟩
  refine ⟨[], _, jl_exam, rfl, ?_⟩
  refine ⟨[], _, j_trE (a := exJ) (r := (⟨3, 0, 1⟩, 0)) (by decide +kernel) ok, rfl, ?_⟩
  refine ⟨[], _, jl_exam, rfl, ?_⟩
  refine ⟨[], _, j_adjE (a := exJ) (r := (⟨⟨1, 0, 1⟩, ⟨0, 0, 1⟩, ⟨0, -1, 1⟩, ⟨2, 0, 1⟩⟩, 0)) (by decide +kernel) ok, rfl, ?_⟩
  refine ⟨Nat.le_refl _, ?_⟩
  refine ⟨[], _, jl_exam, rfl, ?_⟩
  refine ⟨[], _, j_invE (a := exJ) (r := (⟨⟨1, 0, 1⟩, ⟨0, -1, 2⟩, ⟨0, 0, 1⟩, ⟨1, 0, 2⟩⟩, 0)) (by decide +kernel) ok, rfl, ?_⟩
  refine ⟨Nat.le_refl _, ?_⟩
  refine ⟨[], _, jl_whole 0 1 1 0, rfl, ?_⟩
  refine ⟨[], _, jl_whole 1 0 0 1, rfl, ?_⟩
  refine ⟨[], _, jl_whole 1 2 3 4, rfl, ?_⟩
  refine ⟨[], _, j_actE (t := [w4 0 1 1 0, w4 1 0 0 1]) (l := [⟨0, 1, w4 1 2 3 4, 2⟩]) (r := ([⟨0, 1, w4 3 4 1 2, 2⟩], 0)) (by decide +kernel) (by decide) (by decide), rfl, ?_⟩
  refine ⟨fun _ => ?_, fun h => absurd h (by first | decide | simp)⟩
  refine ⟨_, jl_of 2 0 1, rfl, ?_⟩
  refine ⟨fun _ => ?_, fun h => absurd h (by first | decide | simp)⟩
  refine ⟨fun _ => ?_, fun h => absurd h (by first | decide | simp)⟩
  refine ⟨_, jl_of 3 0 1, rfl, ?_⟩
  refine ⟨fun _ => ?_, fun h => absurd h (by first | decide | simp)⟩
  refine ⟨fun _ => ?_, fun h => absurd h (by first | decide | simp)⟩
  refine ⟨_, rfl, rfl, ?_⟩
  refine ⟨_, jl_of 1 0 1, rfl, ?_⟩
  refine ⟨_, jl_of 0 0 1, rfl, ?_⟩
  refine ⟨_, jl_of 0 (-1) 1, rfl, ?_⟩
  refine ⟨_, jl_of 2 0 1, rfl, ?_⟩
  refine ⟨fun _ => ?_, fun h => absurd h (by first | decide | simp)⟩
  refine ⟨fun _ => ?_, fun h => absurd h (by first | decide | simp)⟩
  refine ⟨_, rfl, rfl, ?_⟩
  refine ⟨_, jl_of 1 0 1, rfl, ?_⟩
  refine ⟨_, jl_of 0 (-1) 2, rfl, ?_⟩
  refine ⟨_, jl_of 0 0 1, rfl, ?_⟩
  refine ⟨_, jl_of 1 0 2, rfl, ?_⟩
  refine ⟨fun _ => ?_, fun h => absurd h (by first | decide | simp)⟩
  refine ⟨fun _ => ?_, fun h => absurd h (by first | decide | simp)⟩
  refine ⟨_, jl_whole 3 4 1 2, rfl, ?_⟩
  refine ⟨_, jr_same [⟨0, 1, w4 3 4 1 2, 2⟩] [⟨0, 1, w4 3 4 1 2, 2⟩] (by decide), rfl, ?_⟩
  rfl
end Go.Pv
