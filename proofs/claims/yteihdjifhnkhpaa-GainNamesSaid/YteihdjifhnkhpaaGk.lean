/- The law GainNames, of the code. -/
import Derived.Test.YteihdjifhnkhpaaGj
namespace Go.Pv
open Go.Vc
open Go.Proofs
set_option maxRecDepth 10000
set_option maxHeartbeats 4000000

theorem g_checkE {g : List Cx} {r : Int} (h : ck26 g = r) (hg : ∀ c ∈ g, Enc.ok c) : Ret Try.prog 12 [sl g] [] (.p (i64 r)) := h ▸ g_check g hg
theorem g_invE {g : List Cx} {r : List Cx × Int} (e : tinv g = r) (hg : ∀ c ∈ g, Enc.ok c) : Ret Try.prog 27 [sl g] [] (resCs r) := e ▸ g_inv g hg
theorem g_referE {g : List Cx} {s : Int} {r : List Cx × Int} (e : trefer g s = r) (hg : ∀ c ∈ g, Enc.ok c) : Ret Try.prog 23 [sl g, i64 s] [] (resCs r) := e ▸ g_refer g s hg

def oneG : List Cx := [⟨1, 0, 1⟩, ⟨1, 0, 1⟩]
def farG : List Cx := [⟨1000000000, 1, 1⟩, ⟨1, 0, 1⟩]

theorem gainNames : Ret Try.prog 9 [] [] (.p (bl true)) := by
  refine ret (fn := Try.f9) (by kernel_rfl) (by kernel_rfl) rfl ?_
  refine ⟨[], _, w_of 1 0 1, rfl, ?_⟩
  refine ⟨[], _, w_of 1 0 1, rfl, ?_⟩
  refine ⟨[], _, g_checkE (g := []) (r := 8) (by decide +kernel) (by decide), rfl, ?_⟩
  refine ⟨9, 9, rfl, rfl, by decide, ⟨by decide, by decide⟩, ?_⟩
  refine ⟨[], _, g_checkE (g := List.replicate 9 ⟨0, 0, 0⟩) (r := 4) (by decide +kernel) (by decide), rfl, ?_⟩
  refine ⟨[], _, w_of 0 0 1, rfl, ?_⟩
  refine ⟨[], _, g_checkE (g := [⟨0, 0, 1⟩]) (r := 8) (by decide +kernel) (by decide), rfl, ?_⟩
  refine ⟨[], _, g_checkE (g := [⟨2, 0, 2⟩]) (r := 8) (by decide +kernel) (by decide), rfl, ?_⟩
  refine ⟨65, 65, rfl, rfl, by decide, ⟨by decide, by decide⟩, ?_⟩
  refine ⟨[], _, g_actE (g := oneG) (l := List.replicate 65 ⟨0, 0, ⟨0, 0, 0⟩, 0⟩) (r := ([], 4)) (by decide +kernel) (by decide) (by decide), rfl, ?_⟩
  refine ⟨[], _, w_of 1 0 1, rfl, ?_⟩
  refine ⟨[], _, w_of 1 0 1, rfl, ?_⟩
  refine ⟨[], _, w_of 1 0 1, rfl, ?_⟩
  refine ⟨[], _, w_of 1 0 1, rfl, ?_⟩
  refine ⟨[], _, w_of 1 0 1, rfl, ?_⟩
  refine ⟨Nat, { inv := fun k => k ≤ 6, slots := [(9, fun k => i64 k)], mu := fun k => 6 - k, frz := [5] }, 0, ⟨⟨rfl, trivial⟩, trivial, (by repeat' first | exact trivial | rfl | apply And.intro), Nat.zero_le _⟩, ?_⟩
  intro k hk
  refine ⟨fun h2 => ?_, fun h2 => ?_⟩
  · simp at h2
    obtain rfl | rfl | rfl | rfl | rfl | rfl : k = 0 ∨ k = 1 ∨ k = 2 ∨ k = 3 ∨ k = 4 ∨ k = 5 := by omega
    · refine ⟨rfl, 0, rfl, 1, rfl, by decide, by decide, ?_⟩
      refine ⟨[], _, g_actE (g := oneG) (l := [⟨0, 0, ⟨1, 0, 1⟩, 0⟩]) (r := ([], 8)) (by decide +kernel) (by decide) (by decide), rfl, ?_⟩
      refine ⟨fun h => absurd h (by first | decide | simp), fun _ => ?_⟩
      refine ⟨0 + 1, by show _ < _; simp, ⟨rfl, rfl⟩, ⟨by show PV.v (.int _ _) = _; rw [succ_w (by omega)], trivial⟩, trivial, (by repeat' first | exact trivial | rfl | apply And.intro), by decide⟩
    · refine ⟨rfl, 1, rfl, 2, rfl, by decide, by decide, ?_⟩
      refine ⟨[], _, g_actE (g := oneG) (l := [⟨1, 0, ⟨1, 0, 1⟩, 0⟩]) (r := ([], 8)) (by decide +kernel) (by decide) (by decide), rfl, ?_⟩
      refine ⟨fun h => absurd h (by first | decide | simp), fun _ => ?_⟩
      refine ⟨1 + 1, by show _ < _; simp, ⟨rfl, rfl⟩, ⟨by show PV.v (.int _ _) = _; rw [succ_w (by omega)], trivial⟩, trivial, (by repeat' first | exact trivial | rfl | apply And.intro), by decide⟩
    · refine ⟨rfl, 2, rfl, 3, rfl, by decide, by decide, ?_⟩
      refine ⟨[], _, g_actE (g := oneG) (l := [⟨0, 2, ⟨1, 0, 1⟩, 0⟩]) (r := ([], 8)) (by decide +kernel) (by decide) (by decide), rfl, ?_⟩
      refine ⟨fun h => absurd h (by first | decide | simp), fun _ => ?_⟩
      refine ⟨2 + 1, by show _ < _; simp, ⟨rfl, rfl⟩, ⟨by show PV.v (.int _ _) = _; rw [succ_w (by omega)], trivial⟩, trivial, (by repeat' first | exact trivial | rfl | apply And.intro), by decide⟩
    · refine ⟨rfl, 3, rfl, 4, rfl, by decide, by decide, ?_⟩
      refine ⟨[], _, g_actE (g := oneG) (l := [⟨-1, 1, ⟨1, 0, 1⟩, 0⟩]) (r := ([], 8)) (by decide +kernel) (by decide) (by decide), rfl, ?_⟩
      refine ⟨fun h => absurd h (by first | decide | simp), fun _ => ?_⟩
      refine ⟨3 + 1, by show _ < _; simp, ⟨rfl, rfl⟩, ⟨by show PV.v (.int _ _) = _; rw [succ_w (by omega)], trivial⟩, trivial, (by repeat' first | exact trivial | rfl | apply And.intro), by decide⟩
    · refine ⟨rfl, 4, rfl, 5, rfl, by decide, by decide, ?_⟩
      refine ⟨[], _, g_actE (g := oneG) (l := [⟨0, 1, ⟨0, 0, 0⟩, 0⟩]) (r := ([], 8)) (by decide +kernel) (by decide) (by decide), rfl, ?_⟩
      refine ⟨fun h => absurd h (by first | decide | simp), fun _ => ?_⟩
      refine ⟨4 + 1, by show _ < _; simp, ⟨rfl, rfl⟩, ⟨by show PV.v (.int _ _) = _; rw [succ_w (by omega)], trivial⟩, trivial, (by repeat' first | exact trivial | rfl | apply And.intro), by decide⟩
    · refine ⟨rfl, 5, rfl, 6, rfl, by decide, by decide, ?_⟩
      refine ⟨[], _, g_actE (g := oneG) (l := [⟨0, 1, ⟨1, 0, 1⟩, -1⟩]) (r := ([], 8)) (by decide +kernel) (by decide) (by decide), rfl, ?_⟩
      refine ⟨fun h => absurd h (by first | decide | simp), fun _ => ?_⟩
      refine ⟨5 + 1, by show _ < _; simp, ⟨rfl, rfl⟩, ⟨by show PV.v (.int _ _) = _; rw [succ_w (by omega)], trivial⟩, trivial, (by repeat' first | exact trivial | rfl | apply And.intro), by decide⟩
  refine ⟨[], _, w_of 1000000000 1 1, rfl, ?_⟩
  refine ⟨[], _, w_of 1 0 1, rfl, ?_⟩
  refine ⟨[], _, w_of 1000000000 0 1, rfl, ?_⟩
  refine ⟨[], _, g_actE (g := farG) (l := [⟨0, 1, ⟨1000000000, 0, 1⟩, 0⟩]) (r := ([], 16)) (by decide +kernel) (by decide) (by decide), rfl, ?_⟩
  refine ⟨[], _, g_mulE (g := farG) (h := farG) (r := ([], 16)) (by decide +kernel) (by decide) (by decide), rfl, ?_⟩
  refine ⟨[], _, g_invE (g := farG) (r := ([], 16)) (by decide +kernel) (by decide), rfl, ?_⟩
  refine ⟨[], _, g_alikeE (g := farG) (h := farG) (r := (false, 16)) (by decide +kernel) (by decide) (by decide), rfl, ?_⟩
  refine ⟨rfl, 1, rfl, by decide, by decide, ?_⟩
  refine ⟨[], _, g_mulE (g := oneG) (h := [⟨1, 0, 1⟩]) (r := ([], 2)) (by decide +kernel) (by decide) (by decide), rfl, ?_⟩
  refine ⟨rfl, 1, rfl, by decide, by decide, ?_⟩
  refine ⟨[], _, g_alikeE (g := oneG) (h := [⟨1, 0, 1⟩]) (r := (false, 2)) (by decide +kernel) (by decide) (by decide), rfl, ?_⟩
  refine ⟨[], _, g_referE (g := oneG) (s := 2) (r := ([], 2)) (by decide +kernel) (by decide), rfl, ?_⟩
  refine ⟨[], _, g_referE (g := oneG) (s := -1) (r := ([], 2)) (by decide +kernel) (by decide), rfl, ?_⟩
  refine ⟨[], _, g_referE (g := farG) (s := 0) (r := ([], 16)) (by decide +kernel) (by decide), rfl, ?_⟩
  refine ⟨[], _, g_actE (g := oneG) (l := []) (r := ([], 0)) (by decide +kernel) (by decide) (by decide), rfl, ?_⟩
  refine ⟨[], _, w_of 2 0 1, rfl, ?_⟩
  refine ⟨[], _, w_of 2 0 1, rfl, ?_⟩
  refine ⟨[], _, g_alikeE (g := oneG) (h := [⟨2, 0, 1⟩, ⟨2, 0, 1⟩]) (r := (false, 0)) (by decide +kernel) (by decide) (by decide), rfl, ?_⟩
  refine ⟨[], _, w_of 3 4 5, rfl, ?_⟩
  refine ⟨[], _, w_of 3 4 5, rfl, ?_⟩
  refine ⟨[], _, g_alikeE (g := oneG) (h := [⟨3, 4, 5⟩, ⟨3, 4, 5⟩]) (r := (true, 0)) (by decide +kernel) (by decide) (by decide), rfl, ?_⟩
  refine ⟨[], _, w_alive, rfl, ?_⟩
  refine ⟨fun _ => ?_, fun h => absurd h (by first | decide | simp)⟩
  refine ⟨fun _ => ?_, fun h => absurd h (by first | decide | simp)⟩
  refine ⟨fun _ => ?_, fun h => absurd h (by first | decide | simp)⟩
  refine ⟨fun _ => ?_, fun h => absurd h (by first | decide | simp)⟩
  refine ⟨fun _ => ?_, fun h => absurd h (by first | decide | simp)⟩
  refine ⟨fun _ => ?_, fun h => absurd h (by first | decide | simp)⟩
  refine ⟨fun _ => ?_, fun h => absurd h (by first | decide | simp)⟩
  refine ⟨fun _ => ?_, fun h => absurd h (by first | decide | simp)⟩
  refine ⟨fun _ => ?_, fun h => absurd h (by first | decide | simp)⟩
  refine ⟨fun _ => ?_, fun h => absurd h (by first | decide | simp)⟩
  refine ⟨fun _ => ?_, fun h => absurd h (by first | decide | simp)⟩
  refine ⟨fun _ => ?_, fun h => absurd h (by first | decide | simp)⟩
  refine ⟨fun _ => ?_, fun h => absurd h (by first | decide | simp)⟩
  refine ⟨fun _ => ?_, fun h => absurd h (by first | decide | simp)⟩
  refine ⟨fun _ => ?_, fun h => absurd h (by first | decide | simp)⟩
  refine ⟨fun _ => ?_, fun h => absurd h (by first | decide | simp)⟩
  refine ⟨fun _ => ?_, fun h => absurd h (by first | decide | simp)⟩
  refine ⟨fun _ => ?_, fun h => absurd h (by first | decide | simp)⟩
  refine ⟨fun _ => ?_, fun h => absurd h (by first | decide | simp)⟩
  refine ⟨fun _ => ?_, fun h => absurd h (by first | decide | simp)⟩
  rfl
end Go.Pv
