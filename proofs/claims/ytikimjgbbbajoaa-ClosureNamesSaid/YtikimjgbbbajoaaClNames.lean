/- The law ClosureNames, of the code. -/
import Derived.Test.YtikimjgbbbajoaaCe
namespace Go.Pv
open Go.Vc
open Go.Proofs
set_option maxRecDepth 10000

def v1 : Vis := ⟨0, 1, ⟨1, 0, 1⟩, 0⟩
def zeroL : List Vis := [v1, ⟨1, 2, ⟨0, 0, 1⟩, 0⟩, ⟨0, 2, ⟨1, 0, 1⟩, 0⟩]
def farL : List Vis := [⟨0, 1, ⟨1000000000, 1, 1⟩, 0⟩, ⟨1, 2, ⟨1, 1000000000, 1⟩, 0⟩, ⟨0, 2, ⟨1, 0, 1⟩, 0⟩]
def squareL : List Vis := [⟨0, 1, ⟨2, 0, 1⟩, 0⟩, ⟨2, 3, ⟨0, 3, 1⟩, 0⟩, ⟨0, 2, ⟨1, 1, 1⟩, 0⟩, ⟨1, 3, ⟨4, 0, 1⟩, 0⟩]

set_option maxHeartbeats 4000000 in
theorem closureNames : Ret Try.prog 7 [] [] (.p (bl true)) := by
  refine ret (fn := Try.f7) (by kernel_rfl) (by kernel_rfl) rfl ?_
  refine ⟨[], _, w_of 1 0 1, rfl, ?_⟩
  refine ⟨65, 65, rfl, rfl, Nat.le_refl _, ⟨by decide, by decide⟩, ?_⟩
  refine ⟨[], .p (i64 4), ?_, rfl, ?_⟩
  · show Ret Try.prog 14 [.sl false 65 (reps 65 (Enc.cs (⟨0, 0, ⟨0, 0, 0⟩, 0⟩ : Vis)))] [] _
    rw [reps_flat]
    exact l_checkE (l := List.replicate 65 ⟨0, 0, ⟨0, 0, 0⟩, 0⟩) (by decide +kernel) (by decide +kernel)
  refine ⟨[], _, w_of 1 0 1, rfl, ?_⟩
  refine ⟨[], _, l_checkE (l := [⟨1, 1, ⟨1, 0, 1⟩, 0⟩]) (r := 8) (by decide +kernel) (by decide), rfl, ?_⟩
  refine ⟨[], _, w_of 1 0 1, rfl, ?_⟩
  refine ⟨[], _, l_checkE (l := [⟨0, 8, ⟨1, 0, 1⟩, 0⟩]) (r := 8) (by decide +kernel) (by decide), rfl, ?_⟩
  refine ⟨[], _, l_checkE (l := [v1, v1]) (r := 14) (by decide +kernel) (by decide), rfl, ?_⟩
  refine ⟨[], _, w_example, rfl, ?_⟩
  refine ⟨[], _, l_getE (l := exL) (i := 0) (j := 0) (r := (c0, 2)) (by decide +kernel) exL_ok, rfl, ?_⟩
  refine ⟨[], _, w_example, rfl, ?_⟩
  refine ⟨[], _, l_getE (l := exL) (i := 0) (j := 8) (r := (c0, 2)) (by decide +kernel) exL_ok, rfl, ?_⟩
  refine ⟨[], _, w_example, rfl, ?_⟩
  refine ⟨[], _, l_getE (l := exL) (i := 0) (j := 3) (r := (c0, 6)) (by decide +kernel) exL_ok, rfl, ?_⟩
  refine ⟨[], _, w_example, rfl, ?_⟩
  refine ⟨[], _, l_phaseE (l := exL) (c := [0, 1]) (r := (c0, 2)) (by decide +kernel) exL_ok (by decide), rfl, ?_⟩
  refine ⟨[], _, w_example, rfl, ?_⟩
  refine ⟨[], _, l_phaseE (l := exL) (c := [0, 1, 0]) (r := (c0, 2)) (by decide +kernel) exL_ok (by decide), rfl, ?_⟩
  refine ⟨[], _, w_example, rfl, ?_⟩
  refine ⟨[], _, l_phaseE (l := exL) (c := [0, 1, 3]) (r := (c0, 6)) (by decide +kernel) exL_ok (by decide), rfl, ?_⟩
  refine ⟨[], _, w_example, rfl, ?_⟩
  refine ⟨[], _, l_phaseE (l := exL) (c := [0, 1, 2, 3, 4, 5, 6, 7, 0]) (r := (c0, 2)) (by decide +kernel) exL_ok (by decide), rfl, ?_⟩
  refine ⟨_, w_of 0 0 1, rfl, ?_⟩
  refine ⟨_, w_of 1 0 1, rfl, ?_⟩
  refine ⟨[], _, l_phaseE (l := zeroL) (c := [2, 1, 0]) (r := (c0, 18)) (by decide +kernel) (by decide) (by decide), rfl, ?_⟩
  refine ⟨[], _, w_of 1000000000 1 1, rfl, ?_⟩
  refine ⟨[], _, w_of 1 1000000000 1, rfl, ?_⟩
  refine ⟨[], _, w_of 1 0 1, rfl, ?_⟩
  refine ⟨[], _, l_phaseE (l := farL) (c := [0, 1, 2]) (r := (c0, 16)) (by decide +kernel) (by decide) (by decide), rfl, ?_⟩
  refine ⟨[], _, w_example, rfl, ?_⟩
  refine ⟨[], _, l_ampE (l := exL) (a := 0) (b := 1) (c := 2) (d := 2) (r := (f0, 2)) (by decide +kernel) exL_ok, rfl, ?_⟩
  refine ⟨[], _, w_example, rfl, ?_⟩
  refine ⟨[], _, l_ampE (l := exL) (a := 0) (b := 1) (c := 2) (d := 3) (r := (f0, 6)) (by decide +kernel) exL_ok, rfl, ?_⟩
  refine ⟨[], _, w_example, rfl, ?_⟩
  refine ⟨[], _, l_ampE (l := exL) (a := 0) (b := 1) (c := -1) (d := 3) (r := (f0, 2)) (by decide +kernel) exL_ok, rfl, ?_⟩
  refine ⟨[], _, w_of 2 0 1, rfl, ?_⟩
  refine ⟨[], _, w_of 0 3 1, rfl, ?_⟩
  refine ⟨[], _, w_of 1 1 1, rfl, ?_⟩
  refine ⟨[], _, w_of 4 0 1, rfl, ?_⟩
  refine ⟨[], _, l_ampE (l := squareL) (a := 0) (b := 1) (c := 2) (d := 3) (r := (⟨9, 8⟩, 0)) (by decide +kernel) (by decide), rfl, ?_⟩
  refine ⟨[], _, w_example, rfl, ?_⟩
  refine ⟨[], _, l_triplesE (l := exL) (r := ([⟨0, 1, 2⟩], 0)) (by decide +kernel) exL_ok, rfl, ?_⟩
  refine ⟨[], _, l_triplesE (l := []) (r := ([], 0)) (by decide +kernel) (by decide), rfl, ?_⟩
  refine ⟨[], _, w_alive, rfl, ?_⟩
  refine ⟨fun _ => ?_, fun h => absurd h (by decide)⟩
  refine ⟨fun _ => ?_, fun h => absurd h (by decide)⟩
  refine ⟨fun _ => ?_, fun h => absurd h (by decide)⟩
  refine ⟨fun _ => ?_, fun h => absurd h (by decide)⟩
  refine ⟨fun _ => ?_, fun h => absurd h (by decide)⟩
  refine ⟨fun _ => ?_, fun h => absurd h (by decide)⟩
  refine ⟨fun _ => ?_, fun h => absurd h (by decide)⟩
  refine ⟨fun _ => ?_, fun h => absurd h (by decide)⟩
  refine ⟨fun _ => ?_, fun h => absurd h (by decide)⟩
  refine ⟨fun _ => ?_, fun h => absurd h (by decide)⟩
  refine ⟨fun _ => ?_, fun h => absurd h (by decide)⟩
  refine ⟨fun _ => ?_, fun h => absurd h (by decide)⟩
  refine ⟨fun _ => ?_, fun h => absurd h (by decide)⟩
  refine ⟨fun _ => ?_, fun h => absurd h (by decide)⟩
  refine ⟨fun _ => ?_, fun h => absurd h (by decide)⟩
  refine ⟨fun _ => ?_, fun h => absurd h (by decide)⟩
  refine ⟨fun _ => ?_, fun h => absurd h (by decide)⟩
  refine ⟨fun _ => ?_, fun h => absurd h (by decide)⟩
  refine ⟨fun _ => ?_, fun h => absurd h (by decide)⟩
  refine ⟨fun _ => ?_, fun h => absurd h (by decide)⟩
  refine ⟨[], _, r_same27 [⟨0, 1, 2⟩] [⟨0, 1, 2⟩] (by decide), rfl, ?_⟩
  refine ⟨fun _ => ?_, fun h => absurd h (by decide)⟩
  refine ⟨fun _ => ?_, fun h => absurd h (by decide)⟩
  rfl
end Go.Pv
