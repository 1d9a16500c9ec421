/- Contracts of the chains' examples. -/
import Derived.Test.YtfbcedhbeebipaaNk
namespace Go.Pv
open Go.Vc
open Go.Proofs
set_option maxRecDepth 10000

theorem w_of (x y z : Int) : Ret Try.prog 10 [i64 x, i64 y, i64 z] [] (.p (cx ⟨x, y, z⟩)) := by
  refine ret (fn := Try.f10) (by kernel_rfl) (by kernel_rfl) rfl ?_
  rfl

def wh (a b c d : Int) : Jn := ⟨⟨a, 0, 1⟩, ⟨b, 0, 1⟩, ⟨c, 0, 1⟩, ⟨d, 0, 1⟩⟩

theorem w_whole (a b c d : Int) : Ret Try.prog 11 [i64 a, i64 b, i64 c, i64 d] [] (.p (jn (wh a b c d))) := by
  refine ret (fn := Try.f11) (by kernel_rfl) (by kernel_rfl) rfl ?_
  refine ⟨[], _, w_of a 0 1, rfl, ?_⟩
  refine ⟨[], _, w_of b 0 1, rfl, ?_⟩
  refine ⟨[], _, w_of c 0 1, rfl, ?_⟩
  refine ⟨[], _, w_of d 0 1, rfl, ?_⟩
  refine ⟨Nat.le_refl _, ?_⟩
  exact ⟨_, rfl, rfl, rfl⟩

def exL : List Stg := [⟨1, [⟨2, 0, 1⟩], [], [], [], []⟩, ⟨3, [], [], [wh 0 1 1 0], [], []⟩]

theorem w_example : Ret Try.prog 15 [] [] (.p (sl exL)) := by
  refine ret (fn := Try.f15) (by kernel_rfl) (by kernel_rfl) rfl ?_
  refine ⟨[], _, w_of 2 0 1, rfl, ?_⟩
  refine ⟨[], _, w_whole 0 1 1 0, rfl, ?_⟩
  rfl

instance (n : Int) : Decidable (I64 n) := by unfold I64; infer_instance
instance (a : Cx) : Decidable (Enc.ok a) := by show Decidable (I64 _ ∧ I64 _ ∧ I64 _); unfold I64; infer_instance
instance (a : Jn) : Decidable (Enc.ok a) := by show Decidable (Enc.ok a.a ∧ Enc.ok a.b ∧ Enc.ok a.c ∧ Enc.ok a.d); infer_instance
instance (a : Int) : Decidable (Enc.ok a) := by show Decidable (I64 _); infer_instance
instance {α : Type} [Enc α] [∀ x : α, Decidable (Enc.ok x)] (a : List α) : Decidable (Enc.ok a) := by show Decidable (_ ≤ maxLen ∧ ∀ x ∈ a, Enc.ok x); infer_instance
instance (a : Stg) : Decidable (Enc.ok a) := by show Decidable ((_ ≤ _ ∧ _ ≤ _) ∧ Enc.ok a.gains ∧ Enc.ok a.band ∧ Enc.ok a.mats ∧ Enc.ok a.turns ∧ Enc.ok a.full); infer_instance
instance (a : Cube) : Decidable (Enc.ok a) := by show Decidable (I64 _ ∧ I64 _ ∧ Enc.ok a.v); infer_instance
instance (a : Stg) : Decidable a.small := by unfold Stg.small; infer_instance

theorem k_composeE {l : List Stg} {n m : Int} {r : Stg × Int} (h : chcomp l n m = r) (hl : ∀ s ∈ l, Enc.ok s) : Ret Try.prog 12 [sl l, i64 n, i64 m] [] (resSt r) := h ▸ k_compose l n m hl
theorem k_invertE {l : List Stg} {n m : Int} {r : List Stg × Int} (h : chinv l n m = r) (hl : ∀ s ∈ l, Enc.ok s) : Ret Try.prog 16 [sl l, i64 n, i64 m] [] (resCh r) := h ▸ k_invert l n m hl
theorem r_sameStageE {a b : Stg} {q : Bool} (h : decide (a = b) = q) (hs : a.small) : Ret Try.prog 19 [stg a, stg b] [] (.p (bl q)) := h ▸ r_sameStage a b hs
theorem r_same34E {x y : List Stg} {q : Bool} (h : decide (x = y) = q) (h1 : x.length ≤ 1000000) (h2 : ∀ s ∈ x, s.small) : Ret Try.prog 30 [sl x, sl y] [] (.p (bl q)) := h ▸ r_same34 x y h1 h2

set_option maxHeartbeats 4000000 in
theorem w_alive : Ret Try.prog 18 [] [] (.p (bl true)) := by
  refine ret (fn := Try.f18) (by kernel_rfl) (by kernel_rfl) rfl ?_
  refine ⟨[], _, w_example, rfl, ?_⟩
  refine ⟨[], _, k_composeE (l := exL) (n := 1) (m := 1) (r := (⟨5, [], [], [], [], [[wh 0 2 2 0]]⟩, 0)) (by decide +kernel) (by decide), rfl, ?_⟩
  refine ⟨[], _, w_example, rfl, ?_⟩
  refine ⟨[], _, k_invertE (l := exL) (n := 1) (m := 1) (r := ([⟨3, [], [], [wh 0 1 1 0], [], []⟩, ⟨1, [⟨1, 0, 2⟩], [], [], [], []⟩], 0)) (by decide +kernel) (by decide), rfl, ?_⟩
  refine ⟨false, ?_⟩
  refine ⟨[], _, k_invertE (l := [⟨4, [], [], [], [1], []⟩]) (n := 1) (m := 1) (r := ([⟨4, [], [], [], [3], []⟩], 0)) (by decide +kernel) (by decide), rfl, ?_⟩
  refine ⟨fun _ => ?_, fun h => absurd h (by first | decide | simp)⟩
  refine ⟨_, w_whole 0 2 2 0, rfl, ?_⟩
  refine ⟨_, r_sameStageE (a := ⟨5, [], [], [], [], [[wh 0 2 2 0]]⟩) (b := ⟨5, [], [], [], [], [[wh 0 2 2 0]]⟩) (q := true) (by decide) (by decide), rfl, ?_⟩
  refine ⟨fun _ => ?_, fun h => absurd h (by first | decide | simp)⟩
  refine ⟨fun _ => ?_, fun h => absurd h (by first | decide | simp)⟩
  refine ⟨_, w_whole 0 1 1 0, rfl, ?_⟩
  refine ⟨_, w_of 1 0 2, rfl, ?_⟩
  refine ⟨_, r_same34E (x := [⟨3, [], [], [wh 0 1 1 0], [], []⟩, ⟨1, [⟨1, 0, 2⟩], [], [], [], []⟩]) (y := [⟨3, [], [], [wh 0 1 1 0], [], []⟩, ⟨1, [⟨1, 0, 2⟩], [], [], [], []⟩]) (q := true) (by decide) (by decide) (by decide), rfl, ?_⟩
  refine ⟨fun _ => ?_, fun h => absurd h (by first | decide | simp)⟩
  refine ⟨fun _ => ?_, fun h => absurd h (by first | decide | simp)⟩
  refine ⟨_, r_same34E (x := [⟨4, [], [], [], [3], []⟩]) (y := [⟨4, [], [], [], [3], []⟩]) (q := true) (by decide) (by decide) (by decide), rfl, ?_⟩
  rfl
end Go.Pv
