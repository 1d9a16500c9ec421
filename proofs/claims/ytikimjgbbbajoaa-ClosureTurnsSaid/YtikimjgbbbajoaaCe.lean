/- Contracts of the closure's examples. -/
import Derived.Test.YtikimjgbbbajoaaCs
namespace Go.Pv
open Go.Vc
open Go.Proofs
set_option maxRecDepth 10000

theorem w_of (x y z : Int) : Ret Try.prog 26 [i64 x, i64 y, i64 z] [] (.p (cx ⟨x, y, z⟩)) := by
  refine ret (fn := Try.f26) (by kernel_rfl) (by kernel_rfl) rfl ?_
  rfl

def exL : List Vis := [⟨0, 1, ⟨0, 1, 1⟩, 0⟩, ⟨1, 2, ⟨1, 1, 1⟩, 0⟩, ⟨0, 2, ⟨2, 0, 1⟩, 0⟩]

theorem w_example : Ret Try.prog 27 [] [] (.p (sl exL)) := by
  refine ret (fn := Try.f27) (by kernel_rfl) (by kernel_rfl) rfl ?_
  refine ⟨[], _, w_of 0 1 1, rfl, ?_⟩
  refine ⟨[], _, w_of 1 1 1, rfl, ?_⟩
  refine ⟨[], _, w_of 2 0 1, rfl, ?_⟩
  rfl

theorem l_phaseE {l : List Vis} {c : List Int} {r : Cx × Int} (h : phase l c = r) (hl : ∀ v ∈ l, Enc.ok v) (hc : c.length ≤ 1000000) : Ret Try.prog 19 [sl l, sl c] [] (resC r) := h ▸ l_phase l c hl hc
theorem l_ampE {l : List Vis} {a b c d : Int} {r : Frac × Int} (h : amp l a b c d = r) (hl : ∀ v ∈ l, Enc.ok v) : Ret Try.prog 24 [sl l, i64 a, i64 b, i64 c, i64 d] [] (resF r) := h ▸ l_amp l a b c d hl
theorem l_getE {l : List Vis} {i j : Int} {r : Cx × Int} (h : get27 l i j = r) (hl : ∀ v ∈ l, Enc.ok v) : Ret Try.prog 10 [sl l, i64 i, i64 j] [] (resC r) := h ▸ l_get l i j hl
theorem l_checkE {l : List Vis} {r : Int} (h : ck27 l = r) (hl : ∀ v ∈ l, Enc.ok v) : Ret Try.prog 14 [sl l] [] (.p (i64 r)) := h ▸ l_check l hl
theorem l_triplesE {l : List Vis} {r : List Tri × Int} (h : triples l = r) (hl : ∀ v ∈ l, Enc.ok v) : Ret Try.prog 12 [sl l] [] (resT r) := h ▸ l_triples l hl

instance (a : Cx) : Decidable (Enc.ok a) := by show Decidable (I64 _ ∧ I64 _ ∧ I64 _); unfold I64; infer_instance
instance (a : Vis) : Decidable (Enc.ok a) := by show Decidable (I64 _ ∧ I64 _ ∧ Enc.ok a.v ∧ I64 _); unfold I64; infer_instance

theorem exL_ok : ∀ v ∈ exL, Enc.ok v := by decide

theorem w_alive : Ret Try.prog 17 [] [] (.p (bl true)) := by
  refine ret (fn := Try.f17) (by kernel_rfl) (by kernel_rfl) rfl ?_
  refine ⟨[], _, w_example, rfl, ?_⟩
  refine ⟨[], _, l_phaseE (l := exL) (c := [0, 1, 2]) (r := (⟨-1, 1, 1⟩, 0)) (by decide +kernel) exL_ok (by decide), rfl, ?_⟩
  refine ⟨[], _, w_example, rfl, ?_⟩
  refine ⟨[], _, l_phaseE (l := exL) (c := [0, 2, 1]) (r := (⟨-1, -1, 1⟩, 0)) (by decide +kernel) exL_ok (by decide), rfl, ?_⟩
  refine ⟨[], _, w_example, rfl, ?_⟩
  refine ⟨[], _, l_getE (l := exL) (i := 1) (j := 0) (r := (⟨0, -1, 1⟩, 0)) (by decide +kernel) exL_ok, rfl, ?_⟩
  refine ⟨fun _ => ?_, fun h => absurd h (by first | decide | simp)⟩
  refine ⟨_, w_of (-1) 1 1, rfl, ?_⟩
  refine ⟨fun _ => ?_, fun h => absurd h (by first | decide | simp)⟩
  refine ⟨fun _ => ?_, fun h => absurd h (by first | decide | simp)⟩
  refine ⟨_, w_of (-1) (-1) 1, rfl, ?_⟩
  refine ⟨fun _ => ?_, fun h => absurd h (by first | decide | simp)⟩
  refine ⟨fun _ => ?_, fun h => absurd h (by first | decide | simp)⟩
  refine ⟨_, w_of 0 (-1) 1, rfl, ?_⟩
  rfl
end Go.Pv
