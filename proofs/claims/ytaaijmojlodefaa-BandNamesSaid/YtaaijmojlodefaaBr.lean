/- The law BandNames. -/
import Derived.Test.YtaaijmojlodefaaBo
namespace Go.Pv
open Go.Vc
open Go.Proofs
set_option maxRecDepth 10000

theorem b_invE {b : List (List Cx)} {r : List (List Cx) × Int} (h : binv b = r) (hb : ∀ r ∈ b, ∀ c ∈ r, Enc.ok c) : Ret Try.prog 13 [sl b] [] (resBs r) := h ▸ b_inv b hb
theorem b_checkE {b : List (List Cx)} {r : Int} (h : ck32 b = r) (hb : ∀ r ∈ b, ∀ c ∈ r, Enc.ok c) : Ret Try.prog 26 [sl b] [] (.p (i64 r)) := h ▸ b_check b hb
theorem b_mulE {a b : List (List Cx)} {r : List (List Cx) × Int} (h : bmul a b = r) (ha : ∀ r ∈ a, ∀ c ∈ r, Enc.ok c) (hb : ∀ r ∈ b, ∀ c ∈ r, Enc.ok c) : Ret Try.prog 11 [sl a, sl b] [] (resBs r) := h ▸ b_mul a b ha hb
theorem b_flatE {g : List Cx} {n : Int} {r : List (List Cx) × Int} (h : bflat g n = r) (hg : ∀ c ∈ g, Enc.ok c) : Ret Try.prog 15 [sl g, i64 n] [] (resBs r) := h ▸ b_flat g n hg
theorem b_splitE {b : List (List Cx)} {n : Int} {r : List (List Cx) × List (List Cx) × Int} (h : bsplit b n = r) (hb : ∀ r ∈ b, ∀ c ∈ r, Enc.ok c) : Ret Try.prog 17 [sl b, i64 n] [] (resB2 r) := h ▸ b_split b n hb
theorem b_joinE {a b : List (List Cx)} {r : List (List Cx) × Int} (h : bjoin a b = r) (ha : ∀ r ∈ a, ∀ c ∈ r, Enc.ok c) (hb : ∀ r ∈ b, ∀ c ∈ r, Enc.ok c) : Ret Try.prog 19 [sl a, sl b] [] (resBs r) := h ▸ b_join a b ha hb

def far32 : List (List Cx) := [[⟨1000000000, 1, 1⟩, ⟨1000000000, 1, 1⟩]]

set_option maxHeartbeats 8000000 in
theorem bandNames : Ret Try.prog 9 [] [] (.p (bl true)) := by
  refine ret (fn := Try.f9) (by kernel_rfl) (by kernel_rfl) rfl ?_
  refine ⟨[], _, w_of 1 0 1, rfl, ?_⟩
  refine ⟨_, w_of 0 0 1, rfl, ?_⟩
  refine ⟨Nat, { inv := fun k => k ≤ 5, slots := [(3, fun k => i64 k)], mu := fun k => 5 - k }, 0, ⟨⟨rfl, trivial⟩, trivial, (by repeat' first | exact trivial | rfl | apply And.intro), Nat.zero_le _⟩, ?_⟩
  intro k hk
  obtain rfl | rfl | rfl | rfl | rfl | rfl : k = 0 ∨ k = 1 ∨ k = 2 ∨ k = 3 ∨ k = 4 ∨ k = 5 := by have hk : k ≤ 5 := hk; omega
  · refine ⟨fun _ => ?_, fun h => absurd h (by first | decide | simp)⟩
    refine ⟨0, rfl, by decide, _, rfl, rfl, ?_⟩
    refine ⟨[], _, b_invE (b := []) (r := ([], 8)) (by decide +kernel) (by decide), rfl, ?_⟩
    refine ⟨0, rfl, by decide, _, rfl, rfl, ?_⟩
    refine ⟨[], _, b_checkE (b := []) (r := 8) (by decide +kernel) (by decide), rfl, ?_⟩
    refine ⟨fun _ => ?_, fun h => absurd h (by first | decide | simp)⟩
    refine ⟨fun h => absurd h (by first | decide | simp), fun _ => ?_⟩
    exact ⟨1, by show _ < _; simp, ⟨rfl, rfl⟩, ⟨rfl, trivial⟩, trivial, (by repeat' first | exact trivial | rfl | apply And.intro), by decide⟩
  · refine ⟨fun _ => ?_, fun h => absurd h (by first | decide | simp)⟩
    refine ⟨1, rfl, by decide, _, rfl, rfl, ?_⟩
    refine ⟨[], _, b_invE (b := [[]]) (r := ([], 8)) (by decide +kernel) (by decide), rfl, ?_⟩
    refine ⟨1, rfl, by decide, _, rfl, rfl, ?_⟩
    refine ⟨[], _, b_checkE (b := [[]]) (r := 8) (by decide +kernel) (by decide), rfl, ?_⟩
    refine ⟨fun _ => ?_, fun h => absurd h (by first | decide | simp)⟩
    refine ⟨fun h => absurd h (by first | decide | simp), fun _ => ?_⟩
    exact ⟨2, by show _ < _; simp, ⟨rfl, rfl⟩, ⟨rfl, trivial⟩, trivial, (by repeat' first | exact trivial | rfl | apply And.intro), by decide⟩
  · refine ⟨fun _ => ?_, fun h => absurd h (by first | decide | simp)⟩
    refine ⟨2, rfl, by decide, _, rfl, rfl, ?_⟩
    refine ⟨[], _, b_invE (b := [[one], [one, one]]) (r := ([], 8)) (by decide +kernel) (by decide), rfl, ?_⟩
    refine ⟨2, rfl, by decide, _, rfl, rfl, ?_⟩
    refine ⟨[], _, b_checkE (b := [[one], [one, one]]) (r := 8) (by decide +kernel) (by decide), rfl, ?_⟩
    refine ⟨fun _ => ?_, fun h => absurd h (by first | decide | simp)⟩
    refine ⟨fun h => absurd h (by first | decide | simp), fun _ => ?_⟩
    exact ⟨3, by show _ < _; simp, ⟨rfl, rfl⟩, ⟨rfl, trivial⟩, trivial, (by repeat' first | exact trivial | rfl | apply And.intro), by decide⟩
  · refine ⟨fun _ => ?_, fun h => absurd h (by first | decide | simp)⟩
    refine ⟨3, rfl, by decide, _, rfl, rfl, ?_⟩
    refine ⟨[], _, b_invE (b := [[⟨0, 0, 1⟩]]) (r := ([], 8)) (by decide +kernel) (by decide), rfl, ?_⟩
    refine ⟨3, rfl, by decide, _, rfl, rfl, ?_⟩
    refine ⟨[], _, b_checkE (b := [[⟨0, 0, 1⟩]]) (r := 8) (by decide +kernel) (by decide), rfl, ?_⟩
    refine ⟨fun _ => ?_, fun h => absurd h (by first | decide | simp)⟩
    refine ⟨fun h => absurd h (by first | decide | simp), fun _ => ?_⟩
    exact ⟨4, by show _ < _; simp, ⟨rfl, rfl⟩, ⟨rfl, trivial⟩, trivial, (by repeat' first | exact trivial | rfl | apply And.intro), by decide⟩
  · refine ⟨fun _ => ?_, fun h => absurd h (by first | decide | simp)⟩
    refine ⟨4, rfl, by decide, _, rfl, rfl, ?_⟩
    refine ⟨[], _, b_invE (b := [[⟨2, 0, 2⟩]]) (r := ([], 8)) (by decide +kernel) (by decide), rfl, ?_⟩
    refine ⟨4, rfl, by decide, _, rfl, rfl, ?_⟩
    refine ⟨[], _, b_checkE (b := [[⟨2, 0, 2⟩]]) (r := 8) (by decide +kernel) (by decide), rfl, ?_⟩
    refine ⟨fun _ => ?_, fun h => absurd h (by first | decide | simp)⟩
    refine ⟨fun h => absurd h (by first | decide | simp), fun _ => ?_⟩
    exact ⟨5, by show _ < _; simp, ⟨rfl, rfl⟩, ⟨rfl, trivial⟩, trivial, (by repeat' first | exact trivial | rfl | apply And.intro), by decide⟩
  refine ⟨fun h => absurd h (by first | decide | simp), fun _ => ?_⟩
  refine ⟨9, 9, rfl, rfl, Nat.le_refl _, ⟨by decide, by decide⟩, ?_⟩
  refine ⟨[], _, b_checkE (b := List.replicate 9 []) (r := 4) (by decide +kernel) (by decide), rfl, ?_⟩
  refine ⟨17, 17, rfl, rfl, Nat.le_refl _, ⟨by decide, by decide⟩, ?_⟩
  refine ⟨false, ?_⟩
  refine ⟨[], _, b_checkE (b := [List.replicate 17 ⟨0, 0, 0⟩]) (r := 4) (by decide +kernel) (by decide), rfl, ?_⟩
  refine ⟨.no, ?_⟩
  refine ⟨Nat, { inv := fun k => k ≤ 6, slots := [(9, fun k => i64 k)], mu := fun k => 6 - k, frz := [11] }, 0, ⟨⟨rfl, trivial⟩, trivial, (by repeat' first | exact trivial | rfl | apply And.intro), Nat.zero_le _⟩, ?_⟩
  intro k hk
  obtain rfl | rfl | rfl | rfl | rfl | rfl | rfl : k = 0 ∨ k = 1 ∨ k = 2 ∨ k = 3 ∨ k = 4 ∨ k = 5 ∨ k = 6 := by have hk : k ≤ 6 := hk; omega
  · refine ⟨fun _ => ?_, fun h => absurd h (by first | decide | simp)⟩
    refine ⟨_, w_example, rfl, ?_⟩
    refine ⟨rfl, 0, rfl, 1, rfl, by decide, by decide, ?_⟩
    refine ⟨_, b_actE (b := exB) (l := [⟨0, 0, [one, one], 0⟩]) (r := ([], 8)) (by decide +kernel) (by decide) (by decide) (by decide), rfl, ?_⟩
    refine ⟨fun h => absurd h (by first | decide | simp), fun _ => ?_⟩
    exact ⟨1, by show _ < _; simp, ⟨rfl, rfl⟩, ⟨rfl, trivial⟩, trivial, (by repeat' first | exact trivial | rfl | apply And.intro), by decide⟩
  · refine ⟨fun _ => ?_, fun h => absurd h (by first | decide | simp)⟩
    refine ⟨_, w_example, rfl, ?_⟩
    refine ⟨rfl, 1, rfl, 2, rfl, by decide, by decide, ?_⟩
    refine ⟨_, b_actE (b := exB) (l := [⟨0, 2, [one, one], 0⟩]) (r := ([], 8)) (by decide +kernel) (by decide) (by decide) (by decide), rfl, ?_⟩
    refine ⟨fun h => absurd h (by first | decide | simp), fun _ => ?_⟩
    exact ⟨2, by show _ < _; simp, ⟨rfl, rfl⟩, ⟨rfl, trivial⟩, trivial, (by repeat' first | exact trivial | rfl | apply And.intro), by decide⟩
  · refine ⟨fun _ => ?_, fun h => absurd h (by first | decide | simp)⟩
    refine ⟨_, w_example, rfl, ?_⟩
    refine ⟨rfl, 2, rfl, 3, rfl, by decide, by decide, ?_⟩
    refine ⟨_, b_actE (b := exB) (l := [⟨0, 1, [one], 0⟩]) (r := ([], 8)) (by decide +kernel) (by decide) (by decide) (by decide), rfl, ?_⟩
    refine ⟨fun h => absurd h (by first | decide | simp), fun _ => ?_⟩
    exact ⟨3, by show _ < _; simp, ⟨rfl, rfl⟩, ⟨rfl, trivial⟩, trivial, (by repeat' first | exact trivial | rfl | apply And.intro), by decide⟩
  · refine ⟨fun _ => ?_, fun h => absurd h (by first | decide | simp)⟩
    refine ⟨_, w_example, rfl, ?_⟩
    refine ⟨rfl, 3, rfl, 4, rfl, by decide, by decide, ?_⟩
    refine ⟨_, b_actE (b := exB) (l := [⟨0, 1, [one, ⟨0, 0, 0⟩], 0⟩]) (r := ([], 8)) (by decide +kernel) (by decide) (by decide) (by decide), rfl, ?_⟩
    refine ⟨fun h => absurd h (by first | decide | simp), fun _ => ?_⟩
    exact ⟨4, by show _ < _; simp, ⟨rfl, rfl⟩, ⟨rfl, trivial⟩, trivial, (by repeat' first | exact trivial | rfl | apply And.intro), by decide⟩
  · refine ⟨fun _ => ?_, fun h => absurd h (by first | decide | simp)⟩
    refine ⟨_, w_example, rfl, ?_⟩
    refine ⟨rfl, 4, rfl, 5, rfl, by decide, by decide, ?_⟩
    refine ⟨_, b_actE (b := exB) (l := [⟨0, 1, [one, one], -1⟩]) (r := ([], 8)) (by decide +kernel) (by decide) (by decide) (by decide), rfl, ?_⟩
    refine ⟨fun h => absurd h (by first | decide | simp), fun _ => ?_⟩
    exact ⟨5, by show _ < _; simp, ⟨rfl, rfl⟩, ⟨rfl, trivial⟩, trivial, (by repeat' first | exact trivial | rfl | apply And.intro), by decide⟩
  · refine ⟨fun _ => ?_, fun h => absurd h (by first | decide | simp)⟩
    refine ⟨_, w_example, rfl, ?_⟩
    refine ⟨rfl, 5, rfl, 6, rfl, by decide, by decide, ?_⟩
    refine ⟨_, b_actE (b := exB) (l := [⟨-1, 1, [one, one], 0⟩]) (r := ([], 8)) (by decide +kernel) (by decide) (by decide) (by decide), rfl, ?_⟩
    refine ⟨fun h => absurd h (by first | decide | simp), fun _ => ?_⟩
    exact ⟨6, by show _ < _; simp, ⟨rfl, rfl⟩, ⟨rfl, trivial⟩, trivial, (by repeat' first | exact trivial | rfl | apply And.intro), by decide⟩
  refine ⟨fun h => absurd h (by first | decide | simp), fun _ => ?_⟩
  refine ⟨[], _, w_of 1000000000 1 1, rfl, ?_⟩
  refine ⟨[], _, w_of 1000000000 1 1, rfl, ?_⟩
  refine ⟨false, ?_⟩
  refine ⟨_, w_example, rfl, ?_⟩
  refine ⟨65, 65, rfl, rfl, Nat.le_refl _, ⟨by decide, by decide⟩, ?_⟩
  refine ⟨_, b_actE (b := exB) (l := List.replicate 65 ⟨0, 0, [], 0⟩) (r := ([], 4)) (by decide +kernel) (by decide) (by decide) (by decide), rfl, ?_⟩
  refine ⟨[], _, b_mulE (a := far32) (b := far32) (r := ([], 16)) (by decide +kernel) (by decide) (by decide), rfl, ?_⟩
  refine ⟨[], _, b_invE (b := far32) (r := ([], 16)) (by decide +kernel) (by decide), rfl, ?_⟩
  refine ⟨[], _, w_example, rfl, ?_⟩
  refine ⟨[], _, b_mulE (a := far32) (b := exB) (r := ([], 2)) (by decide +kernel) (by decide) (by decide), rfl, ?_⟩
  refine ⟨[], _, b_meanE (b := far32) (w := 2) (r := ([], 16)) (by decide +kernel) (by decide) (by decide), rfl, ?_⟩
  refine ⟨.no, ?_⟩
  refine ⟨_, w_of (-1) 0 1, rfl, ?_⟩
  refine ⟨_, b_meanE (b := [[one, ⟨-1, 0, 1⟩]]) (w := 2) (r := ([], 18)) (by decide +kernel) (by decide) (by decide), rfl, ?_⟩
  refine ⟨[], _, b_meanE (b := far32) (w := 3) (r := ([], 2)) (by decide +kernel) (by decide) (by decide), rfl, ?_⟩
  refine ⟨[], _, b_meanE (b := far32) (w := 0) (r := ([], 2)) (by decide +kernel) (by decide) (by decide), rfl, ?_⟩
  refine ⟨[], _, b_flatE (g := []) (n := 1) (r := ([], 8)) (by decide +kernel) (by decide), rfl, ?_⟩
  refine ⟨.no, ?_⟩
  refine ⟨[], _, b_flatE (g := [one]) (n := 17) (r := ([], 2)) (by decide +kernel) (by decide), rfl, ?_⟩
  refine ⟨.no, ?_⟩
  refine ⟨[], _, b_flatE (g := [one]) (n := 0) (r := ([], 2)) (by decide +kernel) (by decide), rfl, ?_⟩
  refine ⟨[], _, w_example, rfl, ?_⟩
  refine ⟨[], _, b_splitE (b := exB) (n := 0) (r := ([], [], 2)) (by decide +kernel) (by decide), rfl, ?_⟩
  refine ⟨[], _, w_example, rfl, ?_⟩
  refine ⟨[], _, b_splitE (b := exB) (n := 2) (r := ([], [], 2)) (by decide +kernel) (by decide), rfl, ?_⟩
  refine ⟨[], _, w_example, rfl, ?_⟩
  refine ⟨[], _, b_joinE (a := far32) (b := exB) (r := ([], 2)) (by decide +kernel) (by decide) (by decide), rfl, ?_⟩
  refine ⟨.no, ?_⟩
  refine ⟨[], _, b_flatE (g := [one]) (n := 9) (r := ([List.replicate 9 one], 0)) (by decide +kernel) (by decide), rfl, ?_⟩
  refine ⟨[], _, b_joinE (a := [List.replicate 9 one]) (b := [List.replicate 9 one]) (r := ([], 4)) (by decide +kernel) (by decide) (by decide), rfl, ?_⟩
  refine ⟨[], _, b_meanE (b := far32) (w := 1) (r := (far32, 0)) (by decide +kernel) (by decide) (by decide), rfl, ?_⟩
  refine ⟨[], _, w_alive, rfl, ?_⟩
  refine ⟨fun _ => ?_, fun h => absurd h (by first | decide | simp)⟩
  refine ⟨fun _ => ?_, fun h => absurd h (by first | decide | simp)⟩
  refine ⟨fun _ => ?_, fun h => absurd h (by first | decide | simp)⟩
  refine ⟨fun _ => ?_, fun h => absurd h (by first | decide | simp)⟩
  refine ⟨fun _ => ?_, fun h => absurd h (by first | decide | simp)⟩
  refine ⟨fun _ => ?_, fun h => absurd h (by first | decide | simp)⟩
  refine ⟨fun _ => ?_, fun h => absurd h (by first | decide | simp)⟩
  refine ⟨fun _ => ?_, fun h => absurd h (by first | decide | simp)⟩
  refine ⟨fun _ => ?_, fun h => absurd h (by first | decide | simp)⟩
  refine ⟨fun _ => ?_, fun h => absurd h (by first | decide | simp)⟩
  refine ⟨fun _ => ?_, fun h => absurd h (by first | decide | simp)⟩
  refine ⟨fun _ => ?_, fun h => absurd h (by first | decide | simp)⟩
  refine ⟨fun _ => ?_, fun h => absurd h (by first | decide | simp)⟩
  refine ⟨fun _ => ?_, fun h => absurd h (by first | decide | simp)⟩
  refine ⟨fun _ => ?_, fun h => absurd h (by first | decide | simp)⟩
  refine ⟨fun _ => ?_, fun h => absurd h (by first | decide | simp)⟩
  refine ⟨fun _ => ?_, fun h => absurd h (by first | decide | simp)⟩
  refine ⟨fun _ => ?_, fun h => absurd h (by first | decide | simp)⟩
  refine ⟨fun _ => ?_, fun h => absurd h (by first | decide | simp)⟩
  refine ⟨fun _ => ?_, fun h => absurd h (by first | decide | simp)⟩
  refine ⟨[], _, r_sameX (x := far32) ⟨by decide, by decide⟩, rfl, ?_⟩
  rfl
end Go.Pv
