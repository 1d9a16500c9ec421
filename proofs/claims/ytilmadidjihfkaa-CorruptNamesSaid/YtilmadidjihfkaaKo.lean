/- The law CorruptNames, of the code. -/
import Derived.Test.YtilmadidjihfkaaKp
namespace Go.Pv
open Go.Vc
open Go.Proofs
set_option maxRecDepth 10000
set_option maxHeartbeats 40000000

theorem k_spoilE {s : List (List Vis)} {l : List Spo} {r : List (List Vis) × Int} (e : spoil s l = r) (hs : ∀ l ∈ s, ∀ v ∈ l, Enc.ok v) (hl : ∀ s ∈ l, Enc.ok s) : Ret Try.prog 20 [sl s, sl l] [] (resS r) := e ▸ k_spoil s l hs hl
theorem k_undoE {s : List (List Vis)} {l : List Spo} {r : List (List Vis) × Int} (e : undo s l = r) (hs : ∀ l ∈ s, ∀ v ∈ l, Enc.ok v) (hl : ∀ s ∈ l, Enc.ok s) : Ret Try.prog 26 [sl s, sl l] [] (resS r) := e ▸ k_undo s l hs hl
theorem k_checkE {s : List (List Vis)} {r : Int} (e : ck35 s = r) (hs : ∀ l ∈ s, ∀ v ∈ l, Enc.ok v) : Ret Try.prog 17 [sl s] [] (.p (i64 r)) := e ▸ k_check35 s hs

def bads : List Spo := [⟨0, 0, 0, 0, c0, 0⟩, ⟨4, 0, 0, 0, c0, 0⟩, ⟨1, 0, 0, 0, c0, 0⟩, ⟨1, 0, 0, 0, ⟨0, 0, 1⟩, 0⟩, ⟨1, 0, 0, 0, one, 1⟩, ⟨2, 0, 0, 0, one, 0⟩, ⟨2, 0, 0, 0, c0, 4⟩, ⟨3, 0, 0, 0, c0, -1⟩, ⟨2, 8, 0, 0, c0, 0⟩, ⟨2, -1, 0, 0, c0, 0⟩, ⟨2, 0, -1, 0, c0, 0⟩, ⟨2, 0, 2, 1, c0, 0⟩, ⟨2, 0, 0, 33, c0, 0⟩]

theorem bads_bad : ∀ s ∈ bads, ¬ s.ok := by decide +kernel
instance (n : Int) : Decidable (I64 n) := by unfold I64; infer_instance
instance (c : Cx) : Decidable (Enc.ok c) := by show Decidable (I64 c.re ∧ I64 c.im ∧ I64 c.den); infer_instance
instance (s : Spo) : Decidable (Enc.ok s) := by show Decidable ((0 ≤ s.kind ∧ s.kind ≤ 255) ∧ I64 s.st ∧ I64 s.fr ∧ I64 s.to ∧ Enc.ok s.v ∧ I64 s.q); infer_instance
instance (v : Vis) : Decidable (Enc.ok v) := by show Decidable (I64 v.i ∧ I64 v.j ∧ Enc.ok v.v ∧ I64 v.n); infer_instance

theorem bads_enc : ∀ s ∈ bads, Enc.ok s := by decide +kernel

def grt : Spo := ⟨1, 0, 0, 32, ⟨1000000000, 1, 1⟩, 0⟩
def vis1 : Vis := ⟨0, 1, one, 0⟩

theorem corruptNames : Ret Try.prog 8 [] [] (.p (bl true)) := by
  refine ret (fn := Try.f8) (by kernel_rfl) (by kernel_rfl) rfl ?_
  refine ⟨[], _, r_one, rfl, ?_⟩
  refine ⟨_, law_of 0 0 1, rfl, ?_⟩
  refine ⟨Nat, { inv := fun k => k ≤ 13, slots := [(3, fun k => i64 k)], frz := [1], mu := fun k => 13 - k }, 0, ⟨⟨rfl, trivial⟩, trivial, (by repeat' first | exact trivial | rfl | apply And.intro), Nat.zero_le _⟩, ?_⟩
  intro k hk
  have hk : k ≤ 13 := hk
  refine ⟨fun h1 => ?_, fun h1 => ?_⟩
  · have h1 : k < 13 := by simp at h1; omega
    have e1 : IntKind.i64.wrap ((k : Int) + 1) = ((k + 1 : Nat) : Int) := succ_w (by omega)
    have hb : k < bads.length := h1
    have hx : (bads.drop k).take (k + 1 - k) = [bads[k]] := by
      rw [List.drop_eq_getElem_cons hb, show k + 1 - k = 1 by omega]; rfl
    have ko : ∀ s ∈ [bads[k]], Enc.ok s := by intro s hs; rw [List.mem_singleton] at hs; subst hs; exact bads_enc _ (List.getElem_mem hb)
    have kb : ¬ ∀ s ∈ [bads[k]], s.ok := fun h => bads_bad _ (List.getElem_mem hb) (h _ (by simp))
    have t8 : table [bads[k]] 0 = ([], 8) := by rw [table, if_neg (by decide), if_neg (by simp), if_neg kb]
    have s8 : spoil [] [bads[k]] = ([], 8) := by show spo35 noch [] [bads[k]] = _; rw [spo35, if_neg (by decide), if_pos (show ([] : List (List Vis)).length = 0 from rfl), t8]
    refine ⟨rfl, k, rfl, k + 1, e1, Nat.le_succ _, h1, ?_⟩
    refine ⟨[], resCs ([], 8), ?_, rfl, ?_⟩
    · show Ret _ _ [.sl false (k + 1 - k) (((flat bads).drop (k * Enc.sz Spo)).take ((k + 1 - k) * Enc.sz Spo)), i64 0] [] _
      rw [flat_part, hx, show k + 1 - k = 1 by omega]
      exact k_tableE t8 ko
    refine ⟨rfl, k, rfl, k + 1, e1, Nat.le_succ _, h1, ?_⟩
    refine ⟨[], resS ([], 8), ?_, rfl, ?_⟩
    · show Ret _ _ [sl ([] : List (List Vis)), .sl false (k + 1 - k) (((flat bads).drop (k * Enc.sz Spo)).take ((k + 1 - k) * Enc.sz Spo))] [] _
      rw [flat_part, hx, show k + 1 - k = 1 by omega]
      exact k_spoilE s8 (by simp) ko
    refine ⟨fun _ => ?_, fun h => absurd h (by first | decide | simp)⟩
    refine ⟨fun h => absurd h (by first | decide | simp), fun _ => ?_⟩
    exact ⟨k + 1, by show _ < _; simp; omega, ⟨rfl, rfl⟩, ⟨by show PV.v (.int _ _) = _; rw [e1], trivial⟩, trivial, (by repeat' first | exact trivial | rfl | apply And.intro), h1⟩
  clear h1 hk
  refine ⟨[], _, k_tableE (l := []) (t := 32) (r := ([], 2)) (by decide +kernel) (by simp), rfl, ?_⟩
  refine ⟨[], _, k_tableE (l := []) (t := -1) (r := ([], 2)) (by decide +kernel) (by simp), rfl, ?_⟩
  refine ⟨9, 9, rfl, rfl, by decide, by unfold room; decide, ?_⟩
  refine ⟨[], _, k_tableE (l := List.replicate 9 ⟨0, 0, 0, 0, c0, 0⟩) (t := 0) (r := ([], 4)) (by decide +kernel) (by decide +kernel), rfl, ?_⟩
  refine ⟨[], _, law_of 1000000000 1 1, rfl, ?_⟩
  refine ⟨[], _, k_tableE (l := [grt, grt]) (t := 31) (r := ([], 16)) (by decide +kernel) (by decide +kernel), rfl, ?_⟩
  refine ⟨33, 33, rfl, rfl, by decide, by unfold room; decide, ?_⟩
  refine ⟨[], _, k_checkE (s := List.replicate 33 []) (r := 4) (by decide +kernel) (by decide +kernel), rfl, ?_⟩
  refine ⟨.kill 5, ?_⟩
  refine ⟨[], _, k_checkE (s := [[vis1], []]) (r := 8) (by decide +kernel) (by decide +kernel), rfl, ?_⟩
  refine ⟨false, ?_⟩
  refine ⟨[], _, k_checkE (s := [[vis1, vis1]]) (r := 14) (by decide +kernel) (by decide +kernel), rfl, ?_⟩
  refine ⟨[], _, k_checkE (s := [[vis1], [⟨0, 2, one, 0⟩]]) (r := 8) (by decide +kernel) (by decide +kernel), rfl, ?_⟩
  refine ⟨[], _, k_checkE (s := [[], [⟨1, 1, one, 0⟩]]) (r := 8) (by decide +kernel) (by decide +kernel), rfl, ?_⟩
  refine ⟨false, ?_⟩
  refine ⟨[], _, k_undoE (s := [[vis1]]) (l := [grt]) (r := ([], 16)) (by decide +kernel) (by decide +kernel) (by decide +kernel), rfl, ?_⟩
  refine ⟨_, law_of 1000000000 0 1, rfl, ?_⟩
  refine ⟨_, k_spoilE (s := [[⟨0, 1, ⟨1000000000, 0, 1⟩, 0⟩]]) (l := [grt]) (r := ([], 16)) (by decide +kernel) (by decide +kernel) (by decide +kernel), rfl, ?_⟩
  refine ⟨_, law_of 1000000000 1 1, rfl, ?_⟩
  refine ⟨_, k_undoE (s := [[vis1]]) (l := [⟨1, 0, 1, 32, ⟨1000000000, 1, 1⟩, 0⟩]) (r := ([[vis1]], 0)) (by decide +kernel) (by decide +kernel) (by decide +kernel), rfl, ?_⟩
  refine ⟨false, ?_⟩
  refine ⟨[], _, k_alikeE (a := [[vis1]]) (b := [[vis1], [vis1]]) (r := (false, 0)) (by decide +kernel) (by decide +kernel) (by decide +kernel), rfl, ?_⟩
  refine ⟨false, ?_⟩
  refine ⟨false, ?_⟩
  refine ⟨[], _, k_alikeE (a := [[vis1]]) (b := [[⟨1, 2, one, 0⟩]]) (r := (false, 0)) (by decide +kernel) (by decide +kernel) (by decide +kernel), rfl, ?_⟩
  refine ⟨_, law_of 5 7 3, rfl, ?_⟩
  refine ⟨_, k_alikeE (a := [[vis1]]) (b := [[⟨0, 1, ⟨5, 7, 3⟩, 4⟩]]) (r := (true, 0)) (by decide +kernel) (by decide +kernel) (by decide +kernel), rfl, ?_⟩
  refine ⟨[], _, law_alive, rfl, ?_⟩
  refine ⟨fun _ => ?_, fun h => absurd h (by first | decide | simp)⟩
  refine ⟨fun _ => ?_, fun h => absurd h (by first | decide | simp)⟩
  refine ⟨fun _ => ?_, fun h => absurd h (by first | decide | simp)⟩
  refine ⟨fun _ => ?_, fun h => absurd h (by first | decide | simp)⟩
  refine ⟨fun _ => ?_, fun h => absurd h (by first | decide | simp)⟩
  refine ⟨fun _ => ?_, fun h => absurd h (by first | decide | simp)⟩
  refine ⟨fun _ => ?_, fun h => absurd h (by first | decide | simp)⟩
  refine ⟨fun _ => ?_, fun h => absurd h (by first | decide | simp)⟩
  refine ⟨fun _ => ?_, fun h => absurd h (by first | decide | simp)⟩
  refine ⟨fun _ => ?_, fun h => absurd h (by first | decide | simp)⟩
  refine ⟨fun _ => ?_, fun h => absurd h (by first | decide | simp)⟩
  refine ⟨fun _ => ?_, fun h => absurd h (by first | decide | simp)⟩
  refine ⟨fun _ => ?_, fun h => absurd h (by first | decide | simp)⟩
  refine ⟨false, ?_⟩
  refine ⟨[], _, r_same35 [[vis1]] [[vis1]] (by decide) (by decide), rfl, ?_⟩
  refine ⟨fun _ => ?_, fun h => absurd h (by first | decide | simp)⟩
  refine ⟨fun _ => ?_, fun h => absurd h (by first | decide | simp)⟩
  refine ⟨fun _ => ?_, fun h => absurd h (by first | decide | simp)⟩
  refine ⟨fun _ => ?_, fun h => absurd h (by first | decide | simp)⟩
  refine ⟨fun _ => ?_, fun h => absurd h (by first | decide | simp)⟩
  refine ⟨fun _ => ?_, fun h => absurd h (by first | decide | simp)⟩
  rfl
end Go.Pv
