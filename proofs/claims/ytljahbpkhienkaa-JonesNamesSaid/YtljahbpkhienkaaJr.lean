/- The law JonesNames. -/
import Derived.Test.YtljahbpkhienkaaJo
import Derived.Test.YtljahbpkhienkaaJf
namespace Go.Pv
open Go.Vc
open Go.Proofs
set_option maxRecDepth 10000
set_option maxHeartbeats 4000000

theorem j_mulE {a b : Jn} {r : Jn × Int} (h : jmul a b = r) (ha : Enc.ok a) (hb : Enc.ok b) : Ret Try.prog 9 [jn a, jn b] [] (resJ r) := h ▸ j_mul a b ha hb
theorem j_loopE {l : List Pol} {a b c d : Int} {r : Jn × Int} (h : jloop l a b c d = r) (hl : ∀ p ∈ l, Enc.ok p) : Ret Try.prog 29 [sl l, i64 a, i64 b, i64 c, i64 d] [] (resJ r) := h ▸ j_loop l a b c d hl

theorem jonesNames : Ret Try.prog 7 [] [] (.p (bl true)) := by
  refine ret (fn := Try.f7) (by kernel_rfl) (by kernel_rfl) rfl ?_
  refine ⟨[], _, jl_whole 1 0 0 1, rfl, ?_⟩
  refine ⟨[], _, jl_whole 1 2 2 4, rfl, ?_⟩
  refine ⟨[], _, jl_whole 1000000000 1 1 1000000000, rfl, ?_⟩
  refine ⟨Nat.le_refl _, ?_⟩
  refine ⟨Nat.le_refl _, ?_⟩
  refine ⟨Nat.le_refl _, ?_⟩
  refine ⟨_, rfl, rfl, ?_⟩
  refine ⟨[], _, j_mulE (a := j0) (b := w4 1 0 0 1) (r := (j0, 8)) (by decide +kernel) (by decide) (by decide), rfl, ?_⟩
  refine ⟨Nat.le_refl _, ?_⟩
  refine ⟨_, rfl, rfl, ?_⟩
  refine ⟨[], _, j_mulE (a := w4 1 0 0 1) (b := j0) (r := (j0, 8)) (by decide +kernel) (by decide) (by decide), rfl, ?_⟩
  refine ⟨Nat.le_refl _, ?_⟩
  refine ⟨_, rfl, rfl, ?_⟩
  refine ⟨_, rfl, rfl, ?_⟩
  refine ⟨[], _, j_mulE (a := w4 1000000000 1 1 1000000000) (b := w4 1000000000 1 1 1000000000) (r := (j0, 16)) (by decide +kernel) (by decide) (by decide), rfl, ?_⟩
  refine ⟨Nat.le_refl _, ?_⟩
  refine ⟨_, rfl, rfl, ?_⟩
  refine ⟨[], _, j_detE (a := w4 1000000000 1 1 1000000000) (r := (c0, 16)) (by decide +kernel) (by decide), rfl, ?_⟩
  refine ⟨[], _, jl_whole 1000000000 0 0 1, rfl, ?_⟩
  refine ⟨[], _, j_trE (a := w4 1000000000 0 0 1) (r := (c0, 16)) (by decide +kernel) (by decide), rfl, ?_⟩
  refine ⟨_, rfl, rfl, ?_⟩
  refine ⟨[], _, j_invE (a := w4 1 2 2 4) (r := (j0, 18)) (by decide +kernel) (by decide), rfl, ?_⟩
  refine ⟨Nat.le_refl _, ?_⟩
  refine ⟨_, rfl, rfl, ?_⟩
  refine ⟨[], _, j_invE (a := w4 1000000000 1 1 1000000000) (r := (j0, 16)) (by decide +kernel) (by decide), rfl, ?_⟩
  refine ⟨Nat.le_refl _, ?_⟩
  refine ⟨[], _, jl_whole 0 0 0 0, rfl, ?_⟩
  refine ⟨[], _, j_invE (a := w4 0 0 0 0) (r := (j0, 18)) (by decide +kernel) (by decide), rfl, ?_⟩
  refine ⟨Nat.le_refl _, ?_⟩
  refine ⟨[], _, j_actE (t := []) (l := []) (r := ([], 8)) (by decide +kernel) (by decide) (by decide), rfl, ?_⟩
  refine ⟨9, 9, rfl, rfl, Nat.le_refl _, ⟨by decide, by decide⟩, ?_⟩
  refine ⟨[], _, j_actE (t := List.replicate 9 j0) (l := []) (r := ([], 4)) (by decide +kernel) (by decide) (by decide), rfl, ?_⟩
  refine ⟨_, rfl, rfl, ?_⟩
  refine ⟨_, rfl, rfl, ?_⟩
  refine ⟨[], _, j_actE (t := [w4 1 0 0 1, w4 1 2 2 4]) (l := []) (r := ([], 18)) (by decide +kernel) (by decide) (by decide), rfl, ?_⟩
  refine ⟨_, rfl, rfl, ?_⟩
  refine ⟨_, rfl, rfl, ?_⟩
  refine ⟨[], _, j_actE (t := [w4 1000000000 1 1 1000000000, w4 1 2 2 4]) (l := []) (r := ([], 16)) (by decide +kernel) (by decide) (by decide), rfl, ?_⟩
  refine ⟨_, rfl, rfl, ?_⟩
  refine ⟨_, rfl, rfl, ?_⟩
  refine ⟨[], _, j_actE (t := [w4 1 2 2 4, w4 1000000000 1 1 1000000000]) (l := []) (r := ([], 18)) (by decide +kernel) (by decide) (by decide), rfl, ?_⟩
  --STOP15
  refine ⟨_, rfl, rfl, ?_⟩
  refine ⟨_, rfl, rfl, ?_⟩
  refine ⟨65, 65, rfl, rfl, Nat.le_refl _, ⟨by decide, by decide⟩, ?_⟩
  refine ⟨_, j_actE (t := [w4 1 0 0 1, w4 1 0 0 1]) (l := List.replicate 65 ⟨0, 0, j0, 0⟩) (r := ([], 4)) (by decide +kernel) (by decide) (by decide), rfl, ?_⟩
  refine ⟨_, rfl, rfl, ?_⟩
  refine ⟨_, rfl, rfl, ?_⟩
  refine ⟨_, rfl, rfl, ?_⟩
  refine ⟨[], _, j_actE (t := [w4 1 0 0 1, w4 1 0 0 1]) (l := [⟨0, 2, w4 1 0 0 1, 0⟩]) (r := ([], 8)) (by decide +kernel) (by decide) (by decide), rfl, ?_⟩
  refine ⟨_, rfl, rfl, ?_⟩
  refine ⟨_, rfl, rfl, ?_⟩
  refine ⟨[], _, j_actE (t := [w4 1 0 0 1, w4 1 0 0 1]) (l := [⟨0, 1, j0, 0⟩]) (r := ([], 8)) (by decide +kernel) (by decide) (by decide), rfl, ?_⟩
  refine ⟨_, rfl, rfl, ?_⟩
  refine ⟨_, rfl, rfl, ?_⟩
  refine ⟨_, rfl, rfl, ?_⟩
  refine ⟨_, rfl, rfl, ?_⟩
  refine ⟨[], _, j_loopE (l := [⟨0, 1, w4 1 0 0 1, 0⟩, ⟨1, 2, w4 1 0 0 1, 0⟩, ⟨2, 3, w4 1 0 0 1, 0⟩, ⟨0, 3, w4 1 0 0 1, 0⟩]) (a := 0) (b := 1) (c := 2) (d := 3) (r := (w4 1 0 0 1, 0)) (by decide +kernel) (by decide), rfl, ?_⟩
  refine ⟨Nat.le_refl _, ?_⟩
  refine ⟨[], _, j_loopE (l := [⟨0, 1, w4 1 0 0 1, 0⟩, ⟨1, 2, w4 1 0 0 1, 0⟩, ⟨2, 3, w4 1 0 0 1, 0⟩, ⟨0, 3, w4 1 0 0 1, 0⟩]) (a := 0) (b := 1) (c := 3) (d := 2) (r := (j0, 6)) (by decide +kernel) (by decide), rfl, ?_⟩
  refine ⟨Nat.le_refl _, ?_⟩
  refine ⟨[], _, j_loopE (l := [⟨0, 1, w4 1 0 0 1, 0⟩, ⟨1, 2, w4 1 0 0 1, 0⟩, ⟨2, 3, w4 1 0 0 1, 0⟩, ⟨0, 3, w4 1 0 0 1, 0⟩]) (a := 0) (b := 1) (c := 2) (d := 2) (r := (j0, 2)) (by decide +kernel) (by decide), rfl, ?_⟩
  refine ⟨Nat.le_refl _, ?_⟩
  refine ⟨[], _, j_loopE (l := [⟨0, 1, w4 1 0 0 1, 0⟩, ⟨1, 2, w4 1 0 0 1, 0⟩, ⟨2, 3, w4 1 0 0 1, 0⟩, ⟨0, 3, w4 1 0 0 1, 0⟩]) (a := 0) (b := 1) (c := 2) (d := 8) (r := (j0, 2)) (by decide +kernel) (by decide), rfl, ?_⟩
  refine ⟨Nat.le_refl _, ?_⟩
  refine ⟨0, rfl, by decide, ?_⟩
  refine ⟨_, rfl, rfl, ?_⟩
  refine ⟨⟨by decide, by decide⟩, true, (fun _ => by decide), ?_⟩
  refine ⟨[], _, j_loopE (l := [⟨0, 1, w4 1 0 0 1, 0⟩, ⟨1, 2, w4 1 0 0 1, 0⟩, ⟨2, 3, w4 1 0 0 1, 0⟩, ⟨0, 3, w4 1 0 0 1, 0⟩, ⟨0, 1, w4 1 0 0 1, 0⟩]) (a := 0) (b := 1) (c := 2) (d := 3) (r := (j0, 14)) (by decide +kernel) (by decide), rfl, ?_⟩
  refine ⟨Nat.le_refl _, ?_⟩
  refine ⟨65, 65, rfl, rfl, Nat.le_refl _, ⟨by decide, by decide⟩, ?_⟩
  refine ⟨[], _, j_loopE (l := List.replicate 65 ⟨0, 0, j0, 0⟩) (a := 0) (b := 1) (c := 2) (d := 3) (r := (j0, 4)) (by decide +kernel) (by decide), rfl, ?_⟩
  refine ⟨Nat.le_refl _, ?_⟩
  refine ⟨_, rfl, rfl, ?_⟩
  refine ⟨[], _, j_loopE (l := [⟨0, 8, w4 1 0 0 1, 0⟩]) (a := 0) (b := 1) (c := 2) (d := 3) (r := (j0, 8)) (by decide +kernel) (by decide), rfl, ?_⟩
  refine ⟨Nat.le_refl _, ?_⟩
  refine ⟨_, rfl, rfl, ?_⟩
  refine ⟨1, rfl, by decide, ?_⟩
  refine ⟨(by decide : 1 * 15 + 2 + 12 ≤ 60), ?_⟩
  refine ⟨[], _, j_loopE (l := [⟨0, 1, w4 1 0 0 1, 0⟩, ⟨1, 2, w4 1 2 2 4, 0⟩, ⟨2, 3, w4 1 0 0 1, 0⟩, ⟨0, 3, w4 1 0 0 1, 0⟩]) (a := 0) (b := 1) (c := 2) (d := 3) (r := (j0, 18)) (by decide +kernel) (by decide), rfl, ?_⟩
  refine ⟨Nat.le_refl _, ?_⟩
  refine ⟨_, jl_whole 1000000000 0 0 1, rfl, ?_⟩
  refine ⟨_, rfl, rfl, ?_⟩
  refine ⟨_, jl_whole 2 0 0 1, rfl, ?_⟩
  refine ⟨_, j_actE (t := [w4 1000000000 0 0 1, w4 1 0 0 1]) (l := [⟨0, 1, w4 2 0 0 1, 0⟩]) (r := ([], 16)) (by decide +kernel) (by decide) (by decide), rfl, ?_⟩
  refine ⟨[], _, jl_alive, rfl, ?_⟩
  refine ⟨fun _ => ?_, fun h => absurd h (by first | decide | simp)⟩
  refine ⟨fun _ => ?_, fun h => absurd h (by first | decide | simp)⟩
  refine ⟨fun _ => ?_, fun h => absurd h (by first | decide | simp)⟩
  refine ⟨fun _ => ?_, fun h => absurd h (by first | decide | simp)⟩
  refine ⟨fun _ => ?_, fun h => absurd h (by first | decide | simp)⟩
  refine ⟨fun _ => ?_, fun h => absurd h (by first | decide | simp)⟩
  refine ⟨fun _ => ?_, fun h => absurd h (by first | decide | simp)⟩
  refine ⟨fun _ => ?_, fun h => absurd h (by first | decide | simp)⟩
  refine ⟨fun _ => ?_, fun h => absurd h (by first | decide | simp)⟩
  refine ⟨fun _ => ?_, fun h => absurd h (by first | decide | simp)⟩
  refine ⟨fun _ => ?_, fun h => absurd h (by first | decide | simp)⟩
  refine ⟨fun _ => ?_, fun h => absurd h (by first | decide | simp)⟩
  refine ⟨fun _ => ?_, fun h => absurd h (by first | decide | simp)⟩
  refine ⟨fun _ => ?_, fun h => absurd h (by first | decide | simp)⟩
  refine ⟨fun _ => ?_, fun h => absurd h (by first | decide | simp)⟩
  refine ⟨fun _ => ?_, fun h => absurd h (by first | decide | simp)⟩
  refine ⟨fun _ => ?_, fun h => absurd h (by first | decide | simp)⟩
  refine ⟨fun _ => ?_, fun h => absurd h (by first | decide | simp)⟩
  refine ⟨_, rfl, rfl, ?_⟩
  refine ⟨_, rfl, rfl, ?_⟩
  refine ⟨fun _ => ?_, fun h => absurd h (by first | decide | simp)⟩
  refine ⟨fun _ => ?_, fun h => absurd h (by first | decide | simp)⟩
  refine ⟨fun _ => ?_, fun h => absurd h (by first | decide | simp)⟩
  refine ⟨fun _ => ?_, fun h => absurd h (by first | decide | simp)⟩
  refine ⟨fun _ => ?_, fun h => absurd h (by first | decide | simp)⟩
  refine ⟨fun _ => ?_, fun h => absurd h (by first | decide | simp)⟩
  refine ⟨fun _ => ?_, fun h => absurd h (by first | decide | simp)⟩
  refine ⟨fun _ => ?_, fun h => absurd h (by first | decide | simp)⟩
  rfl
end Go.Pv
