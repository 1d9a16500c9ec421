/- Contracts of the bandpasses' examples. -/
import Derived.Test.YtaaijmojlodefaaBl
namespace Go.Pv
open Go.Vc
open Go.Proofs
set_option maxRecDepth 10000

theorem w_of (x y z : Int) : Ret Try.prog 37 [i64 x, i64 y, i64 z] [] (.p (cx ⟨x, y, z⟩)) := by
  refine ret (fn := Try.f37) (by kernel_rfl) (by kernel_rfl) rfl ?_
  rfl

def exB : List (List Cx) := [[⟨1, 0, 1⟩, ⟨0, 1, 1⟩], [⟨2, 0, 1⟩, ⟨2, 0, 1⟩]]

theorem w_example : Ret Try.prog 38 [] [] (.p (sl exB)) := by
  refine ret (fn := Try.f38) (by kernel_rfl) (by kernel_rfl) rfl ?_
  refine ⟨[], _, w_of 1 0 1, rfl, ?_⟩
  refine ⟨[], _, w_of 0 1 1, rfl, ?_⟩
  refine ⟨[], _, w_of 2 0 1, rfl, ?_⟩
  refine ⟨[], _, w_of 2 0 1, rfl, ?_⟩
  rfl

instance (n : Int) : Decidable (I64 n) := by unfold I64; infer_instance
instance (a : Cx) : Decidable (Enc.ok a) := by show Decidable (I64 _ ∧ I64 _ ∧ I64 _); unfold I64; infer_instance
instance (a : List Cx) : Decidable (Enc.ok a) := by show Decidable (_ ≤ maxLen ∧ ∀ x ∈ a, Enc.ok x); infer_instance
instance (a : Spec) : Decidable (Enc.ok a) := by show Decidable (I64 _ ∧ I64 _ ∧ Enc.ok a.v ∧ I64 _); unfold I64; infer_instance

theorem b_actE {b : List (List Cx)} {l : List Spec} {r : List Spec × Int} (h : bact b l = r) (hb : ∀ r ∈ b, ∀ c ∈ r, Enc.ok c) (hl : ∀ s ∈ l, Enc.ok s) (hv : ∀ s ∈ l, s.v.length ≤ 9223372036854775807) : Ret Try.prog 22 [sl b, sl l] [] (resSs r) := h ▸ b_act b l hb hl hv
theorem b_meanE {b : List (List Cx)} {w : Int} {r : List (List Cx) × Int} (h : bmean b w = r) (hb : ∀ r ∈ b, ∀ c ∈ r, Enc.ok c) (hw : I64 w) : Ret Try.prog 24 [sl b, i64 w] [] (resBs r) := h ▸ b_mean b w hw hb

theorem w_alive : Ret Try.prog 29 [] [] (.p (bl true)) := by
  refine ret (fn := Try.f29) (by kernel_rfl) (by kernel_rfl) rfl ?_
  refine ⟨[], _, w_example, rfl, ?_⟩
  refine ⟨[], _, w_of 1 0 1, rfl, ?_⟩
  refine ⟨[], _, w_of 1 0 1, rfl, ?_⟩
  refine ⟨false, ?_⟩
  refine ⟨[], _, b_actE (b := exB) (l := [⟨0, 1, [⟨1, 0, 1⟩, ⟨1, 0, 1⟩], 3⟩]) (r := ([⟨0, 1, [⟨2, 0, 1⟩, ⟨0, 2, 1⟩], 3⟩], 0)) (by decide +kernel) (by decide) (by decide) (by decide), rfl, ?_⟩
  refine ⟨[], _, w_example, rfl, ?_⟩
  refine ⟨rfl, 1, rfl, Nat.zero_le _, by decide, ?_⟩
  refine ⟨[], _, b_meanE (b := [[⟨1, 0, 1⟩, ⟨0, 1, 1⟩]]) (w := 2) (r := ([[⟨1, 1, 2⟩]], 0)) (by decide +kernel) (by decide) (by decide), rfl, ?_⟩
  refine ⟨fun _ => ?_, fun h => absurd h (by first | decide | simp)⟩
  refine ⟨[], _, w_of 2 0 1, rfl, ?_⟩
  refine ⟨[], _, w_of 0 2 1, rfl, ?_⟩
  refine ⟨false, ?_⟩
  refine ⟨[], _, r_sameSp [⟨0, 1, [⟨2, 0, 1⟩, ⟨0, 2, 1⟩], 3⟩] [⟨0, 1, [⟨2, 0, 1⟩, ⟨0, 2, 1⟩], 3⟩] (by decide) (by decide), rfl, ?_⟩
  refine ⟨fun _ => ?_, fun h => absurd h (by first | decide | simp)⟩
  refine ⟨fun _ => ?_, fun h => absurd h (by first | decide | simp)⟩
  refine ⟨[], _, w_of 1 1 2, rfl, ?_⟩
  refine ⟨false, ?_⟩
  refine ⟨[], _, r_same32 [[⟨1, 1, 2⟩]] [[⟨1, 1, 2⟩]] (by decide) (by decide), rfl, ?_⟩
  rfl
end Go.Pv
