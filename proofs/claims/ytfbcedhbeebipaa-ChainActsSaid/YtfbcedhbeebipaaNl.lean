/- The laws ChainTables, ChainActs, of the code. -/
import Derived.Test.YtfbcedhbeebipaaNk
namespace Go.Pv
open Go.Vc
open Go.Proofs
set_option maxRecDepth 10000

theorem same1 {x : Stg} (h : x.small) : Ret Try.prog 19 [stg x, stg x] [] (.p (bl true)) := by
  have := r_sameStage x x h
  simpa using this
theorem same2 {x : List Stg} (h1 : x.length ≤ 1000000) (h2 : ∀ s ∈ x, s.small) : Ret Try.prog 30 [sl x, sl x] [] (.p (bl true)) := by
  have := r_same34 x x h1 h2
  simpa using this
theorem same3 {x : List Cube} (h1 : x.length ≤ 1000000) (h2 : ∀ c ∈ x, c.v.length ≤ 1000000) : Ret Try.prog 20 [sl x, sl x] [] (.p (bl true)) := by
  have := r_sameCubes x x h1 h2
  simpa using this

set_option maxHeartbeats 4000000 in
theorem chainTables (l : List Stg) (n m i c : Int) (ll : l.length ≤ 9223372036854775807) (hl : ∀ s ∈ l, Enc.ok s) : Ret Try.prog 5 [sl l, i64 n, i64 m, i64 i, i64 c] [] (.p (bl true)) := by
  refine ret (fn := Try.f5) (by kernel_rfl) (by kernel_rfl) rfl ?_
  refine ⟨[], _, r_great34 l [] ll (by simp), rfl, ?_⟩
  refine ⟨fun h1 => ?_, fun h1 => ?_⟩
  · rfl
  have lz : l.length ≤ 70 := by
    have h1 : decide (gr34 l []) = false := h1
    rw [decide_eq_false_iff_not] at h1
    by_cases h : 70 < l.length
    · exact absurd (.inr (.inl h)) h1
    · omega
  refine ⟨[], _, k_compose l n m hl, rfl, ?_⟩
  refine ⟨[], _, r_compose34 l n m hl, rfl, ?_⟩
  refine ⟨[], _, k_invert l n m hl, rfl, ?_⟩
  refine ⟨[], _, r_invert34 l n m hl, rfl, ?_⟩
  refine ⟨Nat, { inv := fun k => k ≤ l.length ∧ (True), slots := [(19, fun k => i64 k)],  mu := fun k => l.length - k }, 0, ⟨⟨rfl, trivial⟩, trivial, (by repeat' first | exact trivial | rfl | apply And.intro), Nat.zero_le _, trivial⟩, ?_⟩
  intro k ⟨hk, _⟩
  refine ⟨fun h2 => ?_, fun h2 => ?_⟩
  · simp at h2
    refine ⟨k, rfl, h2, by decide, _, idx h2, rfl, ?_⟩
    refine ⟨[], _, k_matrix l[k] n m i c (hl _ (List.getElem_mem h2)), rfl, ?_⟩
    refine ⟨Nat.le_refl _, ?_⟩
    refine ⟨k, rfl, h2, by decide, _, idx h2, rfl, ?_⟩
    refine ⟨[], _, r_matrix34 l[k] n m i c (hl _ (List.getElem_mem h2)), rfl, ?_⟩
    refine ⟨Nat.le_refl _, ?_⟩
    refine ⟨_, rfl, rfl, ?_⟩
    refine ⟨_, rfl, rfl, ?_⟩
    refine ⟨fun h => ?_, fun h => ?_⟩
    · have h : (!eqPL (Enc.cs (chmat l[k] n m i c).1) (Enc.cs (chmat l[k] n m i c).1)) = false := h
      refine ⟨fun h => absurd h (by simp), fun _ => ?_⟩
      refine ⟨k + 1, by show _ < _; simp; omega, ⟨rfl, rfl⟩, ⟨by show PV.v (.int _ _) = _; rw [succ_w (by omega)], trivial⟩, trivial, (by repeat' first | exact trivial | rfl | apply And.intro), h2, trivial⟩
    · have h : (!eqPL (Enc.cs (chmat l[k] n m i c).1) (Enc.cs (chmat l[k] n m i c).1)) = true := h
      rw [eqPL_jnN] at h
      simp at h
  simp at h2
  have : k = l.length := by omega
  subst this
  refine ⟨[], _, same1 chcomp_small, rfl, ?_⟩
  refine ⟨fun _ => ?_, fun h => absurd h (by first | decide | simp)⟩
  refine ⟨fun _ => ?_, fun h => absurd h (by first | decide | simp)⟩
  refine ⟨[], _, same2 (by have := chinv_len (l := l) (n := n) (m := m); omega) chinv_small, rfl, ?_⟩
  refine ⟨fun _ => ?_, fun h => absurd h (by first | decide | simp)⟩
  show SV.p (bl _) = _
  simp

set_option maxHeartbeats 4000000 in
theorem chainActs (l : List Stg) (n m : Int) (cs : List Cube) (ll : l.length ≤ 9223372036854775807) (hl : ∀ s ∈ l, Enc.ok s) (lc : cs.length ≤ 9223372036854775807) (hc : ∀ c ∈ cs, Enc.ok c) : Ret Try.prog 6 [sl l, i64 n, i64 m, sl cs] [] (.p (bl true)) := by
  refine ret (fn := Try.f6) (by kernel_rfl) (by kernel_rfl) rfl ?_
  refine ⟨[], _, r_great34 l cs ll lc, rfl, ?_⟩
  refine ⟨fun h1 => ?_, fun h1 => ?_⟩
  · rfl
  refine ⟨[], _, k_act l n m cs hl hc, rfl, ?_⟩
  refine ⟨[], _, r_act34 l n m cs hl hc, rfl, ?_⟩
  refine ⟨[], _, k_check l n m hl, rfl, ?_⟩
  refine ⟨[], _, r_check34 l n m hl, rfl, ?_⟩
  refine ⟨fun _ => ?_, fun h => absurd h (by first | decide | simp)⟩
  refine ⟨[], _, same3 (by have := (chact_small (l := l) (n := n) (m := m) (cs := cs)).1; omega) (fun c hc => by have := (chact_small (l := l) (n := n) (m := m) (cs := cs)).2 c hc; omega), rfl, ?_⟩
  refine ⟨fun _ => ?_, fun h => absurd h (by first | decide | simp)⟩
  show SV.p (bl _) = _
  simp
end Go.Pv
