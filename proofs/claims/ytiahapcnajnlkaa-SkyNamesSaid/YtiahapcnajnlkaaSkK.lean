/- The law SkyNames, of the code. -/
import Derived.Test.YtiahapcnajnlkaaSkH
namespace Go.Pv
open Go.Vc
open Go.Proofs
set_option maxRecDepth 10000
set_option maxHeartbeats 4000000

theorem skyPlacesE {ps : List Place} {r : Int} (h : places ps = r) : Ret Try.prog 29 [sl ps] [] (.p (i64 r)) := h ▸ skyPlaces ps
theorem skyCheckE {ls : List Lamp} {r : Int} (h : check ls = r) : Ret Try.prog 27 [sl ls] [] (.p (i64 r)) := h ▸ skyCheck ls
theorem skyMergeE {l : List Lamp} {r : List Lamp × Int} (h : merge l = r) : Ret Try.prog 11 [sl l] [] (resL r) := h ▸ (skyMerge l).frz
theorem refSameY (xs : List Lamp) (hn : xs.length ≤ 1000000) : Ret Try.prog 15 [sl xs, sl xs] [] (.p (bl true)) := by
  have := refSame xs xs hn
  simpa using this

def twoL : List Lamp := [⟨1, 1, 600⟩, ⟨1, 1, 400⟩, ⟨3, 0, 7⟩, ⟨2, 5, 0⟩]

def twoM : List Lamp := [⟨1, 1, 600⟩, ⟨1, 1, 400⟩, ⟨3, 0, 7⟩, ⟨2, 5, 0⟩, ⟨1, 1, 1⟩]

theorem skyNames : Ret Try.prog 7 [] [] (.p (bl true)) := by
  refine ret (fn := Try.f7) (by kernel_rfl) (by kernel_rfl) rfl ?_
  refine ⟨[], _, skyPlacesE (ps := []) (r := 8) (by decide +kernel), rfl, ?_⟩
  refine ⟨fun _ => ?_, fun h => absurd h (by first | decide | simp)⟩
  refine ⟨1, 1, rfl, rfl, by decide, ⟨by decide, by decide⟩, ?_⟩
  refine ⟨[], _, skyPlacesE (ps := List.replicate 1 ⟨0, 0⟩) (r := 8) (by decide +kernel), rfl, ?_⟩
  refine ⟨fun _ => ?_, fun h => absurd h (by first | decide | simp)⟩
  refine ⟨8, 8, rfl, rfl, by decide, ⟨by decide, by decide⟩, ?_⟩
  refine ⟨[], _, skyPlacesE (ps := List.replicate 8 ⟨0, 0⟩) (r := 0) (by decide +kernel), rfl, ?_⟩
  refine ⟨fun _ => ?_, fun h => absurd h (by first | decide | simp)⟩
  refine ⟨9, 9, rfl, rfl, by decide, ⟨by decide, by decide⟩, ?_⟩
  refine ⟨[], _, skyPlacesE (ps := List.replicate 9 ⟨0, 0⟩) (r := 4) (by decide +kernel), rfl, ?_⟩
  refine ⟨fun _ => ?_, fun h => absurd h (by first | decide | simp)⟩
  refine ⟨[], _, skyPlacesE (ps := [⟨0, 0⟩, ⟨101, 0⟩]) (r := 8) (by decide +kernel), rfl, ?_⟩
  refine ⟨fun _ => ?_, fun h => absurd h (by first | decide | simp)⟩
  refine ⟨[], _, skyPlacesE (ps := [⟨0, -101⟩, ⟨0, 0⟩]) (r := 8) (by decide +kernel), rfl, ?_⟩
  refine ⟨fun _ => ?_, fun h => absurd h (by first | decide | simp)⟩
  refine ⟨[], _, skyPlacesE (ps := [⟨-100, 100⟩, ⟨0, 0⟩]) (r := 0) (by decide +kernel), rfl, ?_⟩
  refine ⟨[], _, skyCheckE (ls := []) (r := 0) (by decide +kernel), rfl, ?_⟩
  refine ⟨fun _ => ?_, fun h => absurd h (by first | decide | simp)⟩
  refine ⟨16, 16, rfl, rfl, by decide, ⟨by decide, by decide⟩, ?_⟩
  refine ⟨[], _, skyCheckE (ls := List.replicate 16 ⟨0, 0, 0⟩) (r := 0) (by decide +kernel), rfl, ?_⟩
  refine ⟨fun _ => ?_, fun h => absurd h (by first | decide | simp)⟩
  refine ⟨17, 17, rfl, rfl, by decide, ⟨by decide, by decide⟩, ?_⟩
  refine ⟨[], _, skyCheckE (ls := List.replicate 17 ⟨0, 0, 0⟩) (r := 4) (by decide +kernel), rfl, ?_⟩
  refine ⟨fun _ => ?_, fun h => absurd h (by first | decide | simp)⟩
  refine ⟨[], _, skyCheckE (ls := [⟨8, 0, 0⟩]) (r := 8) (by decide +kernel), rfl, ?_⟩
  refine ⟨fun _ => ?_, fun h => absurd h (by first | decide | simp)⟩
  refine ⟨[], _, skyCheckE (ls := [⟨0, -1, 0⟩]) (r := 8) (by decide +kernel), rfl, ?_⟩
  refine ⟨fun _ => ?_, fun h => absurd h (by first | decide | simp)⟩
  refine ⟨[], _, skyCheckE (ls := [⟨0, 0, 1001⟩]) (r := 8) (by decide +kernel), rfl, ?_⟩
  refine ⟨fun _ => ?_, fun h => absurd h (by first | decide | simp)⟩
  refine ⟨[], _, skyCheckE (ls := [⟨0, 0, -1⟩]) (r := 8) (by decide +kernel), rfl, ?_⟩
  refine ⟨fun _ => ?_, fun h => absurd h (by first | decide | simp)⟩
  refine ⟨[], _, skyCheckE (ls := [⟨7, 7, 1000⟩]) (r := 0) (by decide +kernel), rfl, ?_⟩
  refine ⟨[], _, skyMergeE (l := twoL) (r := ([⟨3, 0, 7⟩, ⟨1, 1, 1000⟩], 0)) (by decide +kernel), rfl, ?_⟩
  refine ⟨⟨by decide, by decide⟩, rfl, false, by decide, by decide, ?_⟩
  refine ⟨[], _, skyMergeE (l := twoM) (r := ([], 16)) (by decide +kernel), rfl, ?_⟩
  refine ⟨[], _, skyShiftE (l := twoL) (x := 4) (y := 0) (r := ([⟨5, 1, 600⟩, ⟨5, 1, 400⟩, ⟨7, 0, 7⟩, ⟨6, 5, 0⟩], 0)) (by decide +kernel), rfl, ?_⟩
  refine ⟨[], _, skyShiftE (l := twoL) (x := 5) (y := 0) (r := ([], 16)) (by decide +kernel), rfl, ?_⟩
  refine ⟨[], _, skyShiftE (l := twoL) (x := 0) (y := -1) (r := ([], 16)) (by decide +kernel), rfl, ?_⟩
  refine ⟨[], _, skyShiftE (l := []) (x := 99) (y := 99) (r := ([], 0)) (by decide +kernel), rfl, ?_⟩
  refine ⟨[], _, w_given, rfl, ?_⟩
  refine ⟨[], _, skyDirtyE (p := givenP) (l := []) (n := 0) (r := ([], 2)) (by decide +kernel), rfl, ?_⟩
  refine ⟨[], _, w_given, rfl, ?_⟩
  refine ⟨[], _, skyDirtyE (p := givenP) (l := []) (n := 9) (r := ([], 2)) (by decide +kernel), rfl, ?_⟩
  refine ⟨[], _, w_given, rfl, ?_⟩
  refine ⟨[], _, skyTurnedE (p := givenP) (l := []) (x := 9) (y := 0) (r := ([], 2)) (by decide +kernel), rfl, ?_⟩
  refine ⟨[], _, w_given, rfl, ?_⟩
  refine ⟨[], _, skyTurnedE (p := givenP) (l := []) (x := 0) (y := -9) (r := ([], 2)) (by decide +kernel), rfl, ?_⟩
  refine ⟨[], _, w_given, rfl, ?_⟩
  refine ⟨[], _, skyTurnedE (p := givenP) (l := [⟨0, 0, 3⟩]) (x := 1) (y := 0) (r := (three (0, 3) (3, 0) (0, -3), 0)) (by decide +kernel), rfl, ?_⟩
  refine ⟨[], _, w_given, rfl, ?_⟩
  refine ⟨[], _, skySeeE (p := givenP) (l := []) (r := (three (0, 0) (0, 0) (0, 0), 0)) (by decide +kernel), rfl, ?_⟩
  refine ⟨17, 17, rfl, rfl, by decide, ⟨by decide, by decide⟩, ?_⟩
  refine ⟨[], _, skySeeE (p := []) (l := List.replicate 17 ⟨0, 0, 0⟩) (r := ([], 8)) (by decide +kernel), rfl, ?_⟩
  refine ⟨_, w_given, rfl, ?_⟩
  refine ⟨17, 17, rfl, rfl, by decide, ⟨by decide, by decide⟩, ?_⟩
  refine ⟨_, skySeeE (p := givenP) (l := List.replicate 17 ⟨0, 0, 0⟩) (r := ([], 4)) (by decide +kernel), rfl, ?_⟩
  refine ⟨[], _, skySeeE (p := [⟨-100, 0⟩, ⟨100, 0⟩, ⟨-99, 0⟩]) (l := [⟨7, 0, 2⟩]) (r := (three (2, 0) (0, -2) (0, -2), 0)) (by decide +kernel), rfl, ?_⟩
  refine ⟨fun _ => ?_, fun h => absurd h (by first | decide | simp)⟩
  refine ⟨[], _, refSameY [⟨3, 0, 7⟩, ⟨1, 1, 1000⟩] (by decide), rfl, ?_⟩
  refine ⟨fun _ => ?_, fun h => absurd h (by first | decide | simp)⟩
  refine ⟨fun _ => ?_, fun h => absurd h (by first | decide | simp)⟩
  refine ⟨[], _, refSameY [⟨5, 1, 600⟩, ⟨5, 1, 400⟩, ⟨7, 0, 7⟩, ⟨6, 5, 0⟩] (by decide), rfl, ?_⟩
  refine ⟨fun _ => ?_, fun h => absurd h (by first | decide | simp)⟩
  refine ⟨fun _ => ?_, fun h => absurd h (by first | decide | simp)⟩
  refine ⟨fun _ => ?_, fun h => absurd h (by first | decide | simp)⟩
  refine ⟨[], _, w_has (0, 3) (3, 0) (0, -3), rfl, ?_⟩
  refine ⟨fun _ => ?_, fun h => absurd h (by first | decide | simp)⟩
  refine ⟨[], _, w_has (0, 0) (0, 0) (0, 0), rfl, ?_⟩
  refine ⟨fun _ => ?_, fun h => absurd h (by first | decide | simp)⟩
  refine ⟨[], _, w_has (2, 0) (0, -2) (0, -2), rfl, ?_⟩
  refine ⟨fun _ => ?_, fun h => absurd h (by first | decide | simp)⟩
  refine ⟨fun _ => ?_, fun h => absurd h (by first | decide | simp)⟩
  refine ⟨fun _ => ?_, fun h => absurd h (by first | decide | simp)⟩
  refine ⟨fun _ => ?_, fun h => absurd h (by first | decide | simp)⟩
  refine ⟨fun _ => ?_, fun h => absurd h (by first | decide | simp)⟩
  refine ⟨fun _ => ?_, fun h => absurd h (by first | decide | simp)⟩
  refine ⟨fun _ => ?_, fun h => absurd h (by first | decide | simp)⟩
  refine ⟨fun _ => ?_, fun h => absurd h (by first | decide | simp)⟩
  refine ⟨fun _ => ?_, fun h => absurd h (by first | decide | simp)⟩
  refine ⟨fun _ => ?_, fun h => absurd h (by first | decide | simp)⟩
  refine ⟨fun _ => ?_, fun h => absurd h (by first | decide | simp)⟩
  refine ⟨fun _ => ?_, fun h => absurd h (by first | decide | simp)⟩
  refine ⟨[], _, w_alive, rfl, ?_⟩
  rfl
end Go.Pv
