/- The law ChainNames, of the code. -/
import Derived.Test.YtfbcedhbeebipaaNm
namespace Go.Pv
open Go.Vc
open Go.Proofs
set_option maxRecDepth 10000

theorem k_checkE {l : List Stg} {n m : Int} {r : Int} (h : ck34 l n m = r) (hl : ∀ s ∈ l, Enc.ok s) : Ret Try.prog 13 [sl l, i64 n, i64 m] [] (.p (i64 r)) := h ▸ k_check l n m hl
theorem k_matrixE {s : Stg} {n m i c : Int} {r : Jn × Int} (h : chmat s n m i c = r) (hs : Enc.ok s) : Ret Try.prog 14 [stg s, i64 n, i64 m, i64 i, i64 c] [] (resJ r) := h ▸ k_matrix s n m i c hs
theorem k_actE {l : List Stg} {n m : Int} {cs : List Cube} {r : List Cube × Int} (h : chact l n m cs = r) (hl : ∀ s ∈ l, Enc.ok s) (hc : ∀ c ∈ cs, Enc.ok c) : Ret Try.prog 17 [sl l, i64 n, i64 m, sl cs] [] (resCu r) := h ▸ k_act l n m cs hl hc
theorem r_sameCubesE {x y : List Cube} {q : Bool} (h : decide (x = y) = q) (h1 : x.length ≤ 1000000) (h2 : ∀ c ∈ x, c.v.length ≤ 1000000) : Ret Try.prog 20 [sl x, sl y] [] (.p (bl q)) := h ▸ r_sameCubes x y h1 h2

def far34 : Stg := ⟨1, [⟨1000000000, 1, 1⟩], [], [], [], []⟩

set_option maxHeartbeats 8000000 in
theorem chainNames : Ret Try.prog 3 [] [] (.p (bl true)) := by
  refine ret (fn := Try.f3) (by kernel_rfl) (by kernel_rfl) rfl ?_
  refine ⟨[], _, w_of 1 0 1, rfl, ?_⟩
  refine ⟨[], _, w_of 0 0 1, rfl, ?_⟩
  refine ⟨[], _, w_whole 1 0 0 1, rfl, ?_⟩
  refine ⟨Nat.le_refl _, ?_⟩
  refine ⟨_, w_whole 1 1 1 1, rfl, ?_⟩
  refine ⟨_, rfl, rfl, ?_⟩
  refine ⟨_, rfl, rfl, ?_⟩
  refine ⟨Nat, { inv := fun k => k ≤ 13, slots := [(5, fun k => i64 k)], mu := fun k => 13 - k, frz := [3] }, 0, ⟨⟨rfl, trivial⟩, trivial, (by repeat' first | exact trivial | rfl | apply And.intro), Nat.zero_le _⟩, ?_⟩
  intro k hk
  obtain rfl | rfl | rfl | rfl | rfl | rfl | rfl | rfl | rfl | rfl | rfl | rfl | rfl | rfl : k = 0 ∨ k = 1 ∨ k = 2 ∨ k = 3 ∨ k = 4 ∨ k = 5 ∨ k = 6 ∨ k = 7 ∨ k = 8 ∨ k = 9 ∨ k = 10 ∨ k = 11 ∨ k = 12 ∨ k = 13 := by have hk : k ≤ 13 := hk; omega
  · refine ⟨fun _ => ?_, fun h => absurd h (by first | decide | simp)⟩
    refine ⟨rfl, 0, rfl, 1, rfl, by decide, by decide, ?_⟩
    refine ⟨[], _, k_composeE (l := [⟨0, [], [], [], [], []⟩]) (n := 1) (m := 2) (r := (s0, 8)) (by decide +kernel) (by decide), rfl, ?_⟩
    refine ⟨rfl, 0, rfl, 1, rfl, by decide, by decide, ?_⟩
    refine ⟨[], _, k_checkE (l := [⟨0, [], [], [], [], []⟩]) (n := 1) (m := 2) (r := 8) (by decide +kernel) (by decide), rfl, ?_⟩
    refine ⟨fun _ => ?_, fun h => absurd h (by first | decide | simp)⟩
    refine ⟨fun h => absurd h (by first | decide | simp), fun _ => ?_⟩
    exact ⟨1, by show _ < _; simp, ⟨rfl, rfl⟩, ⟨rfl, trivial⟩, trivial, (by repeat' first | exact trivial | rfl | apply And.intro), by decide⟩
  · refine ⟨fun _ => ?_, fun h => absurd h (by first | decide | simp)⟩
    refine ⟨rfl, 1, rfl, 2, rfl, by decide, by decide, ?_⟩
    refine ⟨[], _, k_composeE (l := [⟨6, [], [], [], [], []⟩]) (n := 1) (m := 2) (r := (s0, 8)) (by decide +kernel) (by decide), rfl, ?_⟩
    refine ⟨rfl, 1, rfl, 2, rfl, by decide, by decide, ?_⟩
    refine ⟨[], _, k_checkE (l := [⟨6, [], [], [], [], []⟩]) (n := 1) (m := 2) (r := 8) (by decide +kernel) (by decide), rfl, ?_⟩
    refine ⟨fun _ => ?_, fun h => absurd h (by first | decide | simp)⟩
    refine ⟨fun h => absurd h (by first | decide | simp), fun _ => ?_⟩
    exact ⟨2, by show _ < _; simp, ⟨rfl, rfl⟩, ⟨rfl, trivial⟩, trivial, (by repeat' first | exact trivial | rfl | apply And.intro), by decide⟩
  · refine ⟨fun _ => ?_, fun h => absurd h (by first | decide | simp)⟩
    refine ⟨rfl, 2, rfl, 3, rfl, by decide, by decide, ?_⟩
    refine ⟨[], _, k_composeE (l := [⟨1, [], [], [], [], []⟩]) (n := 1) (m := 2) (r := (s0, 8)) (by decide +kernel) (by decide), rfl, ?_⟩
    refine ⟨rfl, 2, rfl, 3, rfl, by decide, by decide, ?_⟩
    refine ⟨[], _, k_checkE (l := [⟨1, [], [], [], [], []⟩]) (n := 1) (m := 2) (r := 8) (by decide +kernel) (by decide), rfl, ?_⟩
    refine ⟨fun _ => ?_, fun h => absurd h (by first | decide | simp)⟩
    refine ⟨fun h => absurd h (by first | decide | simp), fun _ => ?_⟩
    exact ⟨3, by show _ < _; simp, ⟨rfl, rfl⟩, ⟨rfl, trivial⟩, trivial, (by repeat' first | exact trivial | rfl | apply And.intro), by decide⟩
  · refine ⟨fun _ => ?_, fun h => absurd h (by first | decide | simp)⟩
    refine ⟨rfl, 3, rfl, 4, rfl, by decide, by decide, ?_⟩
    refine ⟨[], _, k_composeE (l := [⟨1, [⟨0, 0, 1⟩], [], [], [], []⟩]) (n := 1) (m := 2) (r := (s0, 8)) (by decide +kernel) (by decide), rfl, ?_⟩
    refine ⟨rfl, 3, rfl, 4, rfl, by decide, by decide, ?_⟩
    refine ⟨[], _, k_checkE (l := [⟨1, [⟨0, 0, 1⟩], [], [], [], []⟩]) (n := 1) (m := 2) (r := 8) (by decide +kernel) (by decide), rfl, ?_⟩
    refine ⟨fun _ => ?_, fun h => absurd h (by first | decide | simp)⟩
    refine ⟨fun h => absurd h (by first | decide | simp), fun _ => ?_⟩
    exact ⟨4, by show _ < _; simp, ⟨rfl, rfl⟩, ⟨rfl, trivial⟩, trivial, (by repeat' first | exact trivial | rfl | apply And.intro), by decide⟩
  · refine ⟨fun _ => ?_, fun h => absurd h (by first | decide | simp)⟩
    refine ⟨rfl, 4, rfl, 5, rfl, by decide, by decide, ?_⟩
    refine ⟨[], _, k_composeE (l := [⟨1, [⟨1, 0, 1⟩, ⟨1, 0, 1⟩], [], [], [], []⟩]) (n := 1) (m := 2) (r := (s0, 8)) (by decide +kernel) (by decide), rfl, ?_⟩
    refine ⟨rfl, 4, rfl, 5, rfl, by decide, by decide, ?_⟩
    refine ⟨[], _, k_checkE (l := [⟨1, [⟨1, 0, 1⟩, ⟨1, 0, 1⟩], [], [], [], []⟩]) (n := 1) (m := 2) (r := 8) (by decide +kernel) (by decide), rfl, ?_⟩
    refine ⟨fun _ => ?_, fun h => absurd h (by first | decide | simp)⟩
    refine ⟨fun h => absurd h (by first | decide | simp), fun _ => ?_⟩
    exact ⟨5, by show _ < _; simp, ⟨rfl, rfl⟩, ⟨rfl, trivial⟩, trivial, (by repeat' first | exact trivial | rfl | apply And.intro), by decide⟩
  · refine ⟨fun _ => ?_, fun h => absurd h (by first | decide | simp)⟩
    refine ⟨rfl, 5, rfl, 6, rfl, by decide, by decide, ?_⟩
    refine ⟨[], _, k_composeE (l := [⟨1, [⟨1, 0, 1⟩], [], [], [0], []⟩]) (n := 1) (m := 2) (r := (s0, 8)) (by decide +kernel) (by decide), rfl, ?_⟩
    refine ⟨rfl, 5, rfl, 6, rfl, by decide, by decide, ?_⟩
    refine ⟨[], _, k_checkE (l := [⟨1, [⟨1, 0, 1⟩], [], [], [0], []⟩]) (n := 1) (m := 2) (r := 8) (by decide +kernel) (by decide), rfl, ?_⟩
    refine ⟨fun _ => ?_, fun h => absurd h (by first | decide | simp)⟩
    refine ⟨fun h => absurd h (by first | decide | simp), fun _ => ?_⟩
    exact ⟨6, by show _ < _; simp, ⟨rfl, rfl⟩, ⟨rfl, trivial⟩, trivial, (by repeat' first | exact trivial | rfl | apply And.intro), by decide⟩
  · refine ⟨fun _ => ?_, fun h => absurd h (by first | decide | simp)⟩
    refine ⟨rfl, 6, rfl, 7, rfl, by decide, by decide, ?_⟩
    refine ⟨[], _, k_composeE (l := [⟨2, [], [[⟨1, 0, 1⟩]], [], [], []⟩]) (n := 1) (m := 2) (r := (s0, 8)) (by decide +kernel) (by decide), rfl, ?_⟩
    refine ⟨rfl, 6, rfl, 7, rfl, by decide, by decide, ?_⟩
    refine ⟨[], _, k_checkE (l := [⟨2, [], [[⟨1, 0, 1⟩]], [], [], []⟩]) (n := 1) (m := 2) (r := 8) (by decide +kernel) (by decide), rfl, ?_⟩
    refine ⟨fun _ => ?_, fun h => absurd h (by first | decide | simp)⟩
    refine ⟨fun h => absurd h (by first | decide | simp), fun _ => ?_⟩
    exact ⟨7, by show _ < _; simp, ⟨rfl, rfl⟩, ⟨rfl, trivial⟩, trivial, (by repeat' first | exact trivial | rfl | apply And.intro), by decide⟩
  · refine ⟨fun _ => ?_, fun h => absurd h (by first | decide | simp)⟩
    refine ⟨rfl, 7, rfl, 8, rfl, by decide, by decide, ?_⟩
    refine ⟨[], _, k_composeE (l := [⟨2, [], [[⟨1, 0, 1⟩, ⟨0, 0, 1⟩]], [], [], []⟩]) (n := 1) (m := 2) (r := (s0, 8)) (by decide +kernel) (by decide), rfl, ?_⟩
    refine ⟨rfl, 7, rfl, 8, rfl, by decide, by decide, ?_⟩
    refine ⟨[], _, k_checkE (l := [⟨2, [], [[⟨1, 0, 1⟩, ⟨0, 0, 1⟩]], [], [], []⟩]) (n := 1) (m := 2) (r := 8) (by decide +kernel) (by decide), rfl, ?_⟩
    refine ⟨fun _ => ?_, fun h => absurd h (by first | decide | simp)⟩
    refine ⟨fun h => absurd h (by first | decide | simp), fun _ => ?_⟩
    exact ⟨8, by show _ < _; simp, ⟨rfl, rfl⟩, ⟨rfl, trivial⟩, trivial, (by repeat' first | exact trivial | rfl | apply And.intro), by decide⟩
  · refine ⟨fun _ => ?_, fun h => absurd h (by first | decide | simp)⟩
    refine ⟨rfl, 8, rfl, 9, rfl, by decide, by decide, ?_⟩
    refine ⟨[], _, k_composeE (l := [⟨3, [], [], [wh 1 1 1 1], [], []⟩]) (n := 1) (m := 2) (r := (s0, 8)) (by decide +kernel) (by decide), rfl, ?_⟩
    refine ⟨rfl, 8, rfl, 9, rfl, by decide, by decide, ?_⟩
    refine ⟨[], _, k_checkE (l := [⟨3, [], [], [wh 1 1 1 1], [], []⟩]) (n := 1) (m := 2) (r := 8) (by decide +kernel) (by decide), rfl, ?_⟩
    refine ⟨fun _ => ?_, fun h => absurd h (by first | decide | simp)⟩
    refine ⟨fun h => absurd h (by first | decide | simp), fun _ => ?_⟩
    exact ⟨9, by show _ < _; simp, ⟨rfl, rfl⟩, ⟨rfl, trivial⟩, trivial, (by repeat' first | exact trivial | rfl | apply And.intro), by decide⟩
  · refine ⟨fun _ => ?_, fun h => absurd h (by first | decide | simp)⟩
    refine ⟨rfl, 9, rfl, 10, rfl, by decide, by decide, ?_⟩
    refine ⟨[], _, k_composeE (l := [⟨4, [], [], [], [4], []⟩]) (n := 1) (m := 2) (r := (s0, 8)) (by decide +kernel) (by decide), rfl, ?_⟩
    refine ⟨rfl, 9, rfl, 10, rfl, by decide, by decide, ?_⟩
    refine ⟨[], _, k_checkE (l := [⟨4, [], [], [], [4], []⟩]) (n := 1) (m := 2) (r := 8) (by decide +kernel) (by decide), rfl, ?_⟩
    refine ⟨fun _ => ?_, fun h => absurd h (by first | decide | simp)⟩
    refine ⟨fun h => absurd h (by first | decide | simp), fun _ => ?_⟩
    exact ⟨10, by show _ < _; simp, ⟨rfl, rfl⟩, ⟨rfl, trivial⟩, trivial, (by repeat' first | exact trivial | rfl | apply And.intro), by decide⟩
  · refine ⟨fun _ => ?_, fun h => absurd h (by first | decide | simp)⟩
    refine ⟨rfl, 10, rfl, 11, rfl, by decide, by decide, ?_⟩
    refine ⟨[], _, k_composeE (l := [⟨4, [], [], [], [-1], []⟩]) (n := 1) (m := 2) (r := (s0, 8)) (by decide +kernel) (by decide), rfl, ?_⟩
    refine ⟨rfl, 10, rfl, 11, rfl, by decide, by decide, ?_⟩
    refine ⟨[], _, k_checkE (l := [⟨4, [], [], [], [-1], []⟩]) (n := 1) (m := 2) (r := 8) (by decide +kernel) (by decide), rfl, ?_⟩
    refine ⟨fun _ => ?_, fun h => absurd h (by first | decide | simp)⟩
    refine ⟨fun h => absurd h (by first | decide | simp), fun _ => ?_⟩
    exact ⟨11, by show _ < _; simp, ⟨rfl, rfl⟩, ⟨rfl, trivial⟩, trivial, (by repeat' first | exact trivial | rfl | apply And.intro), by decide⟩
  · refine ⟨fun _ => ?_, fun h => absurd h (by first | decide | simp)⟩
    refine ⟨rfl, 11, rfl, 12, rfl, by decide, by decide, ?_⟩
    refine ⟨[], _, k_composeE (l := [⟨5, [], [], [], [], [[wh 1 0 0 1]]⟩]) (n := 1) (m := 2) (r := (s0, 8)) (by decide +kernel) (by decide), rfl, ?_⟩
    refine ⟨rfl, 11, rfl, 12, rfl, by decide, by decide, ?_⟩
    refine ⟨[], _, k_checkE (l := [⟨5, [], [], [], [], [[wh 1 0 0 1]]⟩]) (n := 1) (m := 2) (r := 8) (by decide +kernel) (by decide), rfl, ?_⟩
    refine ⟨fun _ => ?_, fun h => absurd h (by first | decide | simp)⟩
    refine ⟨fun h => absurd h (by first | decide | simp), fun _ => ?_⟩
    exact ⟨12, by show _ < _; simp, ⟨rfl, rfl⟩, ⟨rfl, trivial⟩, trivial, (by repeat' first | exact trivial | rfl | apply And.intro), by decide⟩
  · refine ⟨fun _ => ?_, fun h => absurd h (by first | decide | simp)⟩
    refine ⟨rfl, 12, rfl, 13, rfl, by decide, by decide, ?_⟩
    refine ⟨[], _, k_composeE (l := [⟨5, [], [], [], [], [[wh 1 0 0 1, j0]]⟩]) (n := 1) (m := 2) (r := (s0, 8)) (by decide +kernel) (by decide), rfl, ?_⟩
    refine ⟨rfl, 12, rfl, 13, rfl, by decide, by decide, ?_⟩
    refine ⟨[], _, k_checkE (l := [⟨5, [], [], [], [], [[wh 1 0 0 1, j0]]⟩]) (n := 1) (m := 2) (r := 8) (by decide +kernel) (by decide), rfl, ?_⟩
    refine ⟨fun _ => ?_, fun h => absurd h (by first | decide | simp)⟩
    refine ⟨fun h => absurd h (by first | decide | simp), fun _ => ?_⟩
    exact ⟨13, by show _ < _; simp, ⟨rfl, rfl⟩, ⟨rfl, trivial⟩, trivial, (by repeat' first | exact trivial | rfl | apply And.intro), by decide⟩
  refine ⟨fun h => absurd h (by first | decide | simp), fun _ => ?_⟩
  refine ⟨[], _, k_checkE (l := []) (n := 0) (m := 1) (r := 2) (by decide +kernel) (by decide), rfl, ?_⟩
  refine ⟨[], _, k_checkE (l := []) (n := 9) (m := 1) (r := 2) (by decide +kernel) (by decide), rfl, ?_⟩
  refine ⟨[], _, k_checkE (l := []) (n := 1) (m := 0) (r := 2) (by decide +kernel) (by decide), rfl, ?_⟩
  refine ⟨[], _, k_checkE (l := []) (n := 1) (m := 17) (r := 2) (by decide +kernel) (by decide), rfl, ?_⟩
  refine ⟨9, 9, rfl, rfl, Nat.le_refl _, ⟨by decide, by decide⟩, ?_⟩
  refine ⟨[], _, k_checkE (l := List.replicate 9 s0) (n := 1) (m := 1) (r := 4) (by decide +kernel) (by decide), rfl, ?_⟩
  refine ⟨[], _, w_example, rfl, ?_⟩
  refine ⟨0, rfl, by decide, by decide, _, rfl, rfl, ?_⟩
  refine ⟨[], _, k_matrixE (s := ⟨1, [⟨2, 0, 1⟩], [], [], [], []⟩) (n := 1) (m := 1) (i := 1) (c := 0) (r := (j0, 2)) (by decide +kernel) (by decide), rfl, ?_⟩
  refine ⟨Nat.le_refl _, ?_⟩
  refine ⟨[], _, w_example, rfl, ?_⟩
  refine ⟨0, rfl, by decide, by decide, _, rfl, rfl, ?_⟩
  refine ⟨[], _, k_matrixE (s := ⟨1, [⟨2, 0, 1⟩], [], [], [], []⟩) (n := 1) (m := 1) (i := 0) (c := 1) (r := (j0, 2)) (by decide +kernel) (by decide), rfl, ?_⟩
  refine ⟨Nat.le_refl _, ?_⟩
  refine ⟨[], _, k_composeE (l := []) (n := 1) (m := 2) (r := (⟨5, [], [], [], [], [[wh 1 0 0 1, wh 1 0 0 1]]⟩, 0)) (by decide +kernel) (by decide), rfl, ?_⟩
  refine ⟨[], _, k_invertE (l := []) (n := 1) (m := 2) (r := ([], 0)) (by decide +kernel) (by decide), rfl, ?_⟩
  refine ⟨65, 65, rfl, rfl, Nat.le_refl _, ⟨by decide, by decide⟩, ?_⟩
  refine ⟨[], _, k_actE (l := []) (n := 2) (m := 1) (cs := List.replicate 65 ⟨0, 0, []⟩) (r := ([], 4)) (by decide +kernel) (by decide) (by decide), rfl, ?_⟩
  refine ⟨_, rfl, rfl, ?_⟩
  refine ⟨false, ?_⟩
  refine ⟨[], _, k_actE (l := []) (n := 2) (m := 1) (cs := [⟨0, 2, [wh 1 0 0 1]⟩]) (r := ([], 8)) (by decide +kernel) (by decide) (by decide), rfl, ?_⟩
  refine ⟨false, ?_⟩
  refine ⟨[], _, k_actE (l := []) (n := 2) (m := 1) (cs := [⟨0, 1, []⟩]) (r := ([], 8)) (by decide +kernel) (by decide) (by decide), rfl, ?_⟩
  refine ⟨false, ?_⟩
  refine ⟨[], _, k_actE (l := []) (n := 2) (m := 1) (cs := [⟨0, 1, [j0]⟩]) (r := ([], 8)) (by decide +kernel) (by decide) (by decide), rfl, ?_⟩
  refine ⟨[], _, w_whole 1 2 3 4, rfl, ?_⟩
  refine ⟨false, ?_⟩
  refine ⟨[], _, k_actE (l := []) (n := 2) (m := 1) (cs := [⟨0, 1, [wh 1 2 3 4]⟩]) (r := ([⟨0, 1, [wh 1 2 3 4]⟩], 0)) (by decide +kernel) (by decide) (by decide), rfl, ?_⟩
  refine ⟨[], _, w_of 1000000000 1 1, rfl, ?_⟩
  refine ⟨false, ?_⟩
  refine ⟨[], _, k_invertE (l := [far34]) (n := 1) (m := 1) (r := ([], 16)) (by decide +kernel) (by decide), rfl, ?_⟩
  refine ⟨rfl, ⟨by decide, by decide⟩, rfl, false, (fun h => by cases h), (fun _ => by decide), ?_⟩
  refine ⟨[], _, k_composeE (l := [far34, far34]) (n := 1) (m := 1) (r := (s0, 16)) (by decide +kernel) (by decide), rfl, ?_⟩
  refine ⟨[], _, w_alive, rfl, ?_⟩
  refine ⟨fun _ => ?_, fun h => absurd h (by first | decide | simp)⟩
  refine ⟨fun _ => ?_, fun h => absurd h (by first | decide | simp)⟩
  refine ⟨fun _ => ?_, fun h => absurd h (by first | decide | simp)⟩
  refine ⟨fun _ => ?_, fun h => absurd h (by first | decide | simp)⟩
  refine ⟨fun _ => ?_, fun h => absurd h (by first | decide | simp)⟩
  refine ⟨fun _ => ?_, fun h => absurd h (by first | decide | simp)⟩
  refine ⟨fun _ => ?_, fun h => absurd h (by first | decide | simp)⟩
  refine ⟨fun _ => ?_, fun h => absurd h (by first | decide | simp)⟩
  refine ⟨fun _ => ?_, fun h => absurd h (by first | decide | simp)⟩
  refine ⟨_, rfl, rfl, ?_⟩
  refine ⟨_, rfl, rfl, ?_⟩
  refine ⟨false, ?_⟩
  refine ⟨[], _, r_sameStageE (a := ⟨5, [], [], [], [], [[wh 1 0 0 1, wh 1 0 0 1]]⟩) (b := ⟨5, [], [], [], [], [[wh 1 0 0 1, wh 1 0 0 1]]⟩) (q := true) (by decide) (by decide), rfl, ?_⟩
  refine ⟨fun _ => ?_, fun h => absurd h (by first | decide | simp)⟩
  refine ⟨fun _ => ?_, fun h => absurd h (by first | decide | simp)⟩
  refine ⟨fun _ => ?_, fun h => absurd h (by first | decide | simp)⟩
  refine ⟨fun _ => ?_, fun h => absurd h (by first | decide | simp)⟩
  refine ⟨fun _ => ?_, fun h => absurd h (by first | decide | simp)⟩
  refine ⟨fun _ => ?_, fun h => absurd h (by first | decide | simp)⟩
  refine ⟨fun _ => ?_, fun h => absurd h (by first | decide | simp)⟩
  refine ⟨fun _ => ?_, fun h => absurd h (by first | decide | simp)⟩
  refine ⟨[], _, w_whole 1 2 3 4, rfl, ?_⟩
  refine ⟨false, ?_⟩
  refine ⟨[], _, r_sameCubesE (x := [⟨0, 1, [wh 1 2 3 4]⟩]) (y := [⟨0, 1, [wh 1 2 3 4]⟩]) (q := true) (by decide) (by decide) (by decide), rfl, ?_⟩
  refine ⟨fun _ => ?_, fun h => absurd h (by first | decide | simp)⟩
  refine ⟨fun _ => ?_, fun h => absurd h (by first | decide | simp)⟩
  rfl
end Go.Pv
