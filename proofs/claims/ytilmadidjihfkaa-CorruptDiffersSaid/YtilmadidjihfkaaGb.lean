/- Contracts of the gains' functions: acting. -/
import Derived.Test.YtilmadidjihfkaaGa
namespace Go.Pv
open Go.Vc
open Go.Proofs
set_option maxRecDepth 10000

theorem g_prodsA1 (n : Nat) (hn : n ≤ 64) (ca cb : List PV) (u v : Nat → Cx) (m : Cx → Cx → Cx × Int)
    (hu : ∀ k : Nat, k < n → Ret Try.prog 82 [i64 k, .fp true ca, .fp true cb] [] (.tup [.p (cx (u k)), .p (cx (v k))]))
    (hm : ∀ k : Nat, k < n → Ret Try.prog 36 [cx (u k), cx (v k)] [] (resC (m (u k) (v k)))) :
    Ret Try.prog 73 [i64 n, .fn (.func 82) [] [.fp true ca, .fp true cb], .fn (.func 36) [] []] [] (resCs (prods m u v n)) := by
  refine ret (fn := Try.f73) (by kernel_rfl) (by kernel_rfl) rfl ?_
  refine ⟨0, n, rfl, rfl, Nat.zero_le _, ⟨by show n + 0 ≤ _; omega, by show (n + 0) * 24 ≤ _; omega⟩, ?_⟩
  refine ⟨Nat, { inv := fun k => k ≤ n ∧ (perr m u v k = 0), slots := [(17, fun k => i64 k)], rows := [(8, 23, 3, fun k => k, fun k => flat ((List.range k).map fun k => (m (u k) (v k)).1))], mu := fun k => n - k }, 0, ⟨⟨rfl, trivial⟩, ⟨⟨rfl, rfl⟩, trivial⟩, (by repeat' first | exact trivial | rfl | apply And.intro), Nat.zero_le _, rfl⟩, ?_⟩
  intro k ⟨hk, hz⟩
  refine ⟨fun h2 => ?_, fun h2 => ?_⟩
  · simp at h2
    refine ⟨[], _, hu k h2, rfl, ?_⟩
    refine ⟨[], _, hm k h2, rfl, ?_⟩
    refine ⟨fun h3 => ?_, fun h3 => ?_⟩
    · simp at h3
      show SV.tup [.p (.sl false 0 []), .p (i64 _)] = resCs _
      rw [prods, perr_bad h2 hz h3, if_neg h3]; rfl
    · simp at h3
      refine ⟨⟨by show k + 1 ≤ _; omega, by show (k + 1) * 24 ≤ _; omega⟩, ?_⟩
      refine ⟨k + 1, by show _ < _; simp; omega, ⟨rfl, rfl⟩, ⟨by show PV.v (.int _ _) = _; rw [succ_w (by omega)], trivial⟩, ⟨⟨rfl, ?_⟩, trivial⟩, (by repeat' first | exact trivial | rfl | apply And.intro), h2, ?_⟩
      · show _ ++ _ = flat _
        rw [List.range_succ, List.map_append, List.map_singleton, flat_snoc]; rfl
      · rw [perr, if_neg (by simp [hz])]; exact h3
  · simp at h2
    have : k = n := by omega
    subst this
    show SV.tup [.p (.sl false k (flat ((List.range k).map fun k => (m (u k) (v k)).1))), .p (i64 0)] = resCs _
    rw [prods, if_pos hz]
    simp

theorem g_prodsA2 (n : Nat) (hn : n ≤ 64) (ca cb cc : List PV) (u v : Nat → Cx) (m : Cx → Cx → Cx × Int)
    (hu : ∀ k : Nat, k < n → Ret Try.prog 83 [i64 k, .fp true ca, .fp true cb, .fp true cc] [] (.tup [.p (cx (u k)), .p (cx (v k))]))
    (hm : ∀ k : Nat, k < n → Ret Try.prog 84 [cx (u k), cx (v k)] [] (resC (m (u k) (v k)))) :
    Ret Try.prog 73 [i64 n, .fn (.func 83) [] [.fp true ca, .fp true cb, .fp true cc], .fn (.func 84) [] []] [] (resCs (prods m u v n)) := by
  refine ret (fn := Try.f73) (by kernel_rfl) (by kernel_rfl) rfl ?_
  refine ⟨0, n, rfl, rfl, Nat.zero_le _, ⟨by show n + 0 ≤ _; omega, by show (n + 0) * 24 ≤ _; omega⟩, ?_⟩
  refine ⟨Nat, { inv := fun k => k ≤ n ∧ (perr m u v k = 0), slots := [(17, fun k => i64 k)], rows := [(8, 23, 3, fun k => k, fun k => flat ((List.range k).map fun k => (m (u k) (v k)).1))], mu := fun k => n - k }, 0, ⟨⟨rfl, trivial⟩, ⟨⟨rfl, rfl⟩, trivial⟩, (by repeat' first | exact trivial | rfl | apply And.intro), Nat.zero_le _, rfl⟩, ?_⟩
  intro k ⟨hk, hz⟩
  refine ⟨fun h2 => ?_, fun h2 => ?_⟩
  · simp at h2
    refine ⟨[], _, hu k h2, rfl, ?_⟩
    refine ⟨[], _, hm k h2, rfl, ?_⟩
    refine ⟨fun h3 => ?_, fun h3 => ?_⟩
    · simp at h3
      show SV.tup [.p (.sl false 0 []), .p (i64 _)] = resCs _
      rw [prods, perr_bad h2 hz h3, if_neg h3]; rfl
    · simp at h3
      refine ⟨⟨by show k + 1 ≤ _; omega, by show (k + 1) * 24 ≤ _; omega⟩, ?_⟩
      refine ⟨k + 1, by show _ < _; simp; omega, ⟨rfl, rfl⟩, ⟨by show PV.v (.int _ _) = _; rw [succ_w (by omega)], trivial⟩, ⟨⟨rfl, ?_⟩, trivial⟩, (by repeat' first | exact trivial | rfl | apply And.intro), h2, ?_⟩
      · show _ ++ _ = flat _
        rw [List.range_succ, List.map_append, List.map_singleton, flat_snoc]; rfl
      · rw [perr, if_neg (by simp [hz])]; exact h3
  · simp at h2
    have : k = n := by omega
    subst this
    show SV.tup [.p (.sl false k (flat ((List.range k).map fun k => (m (u k) (v k)).1))), .p (i64 0)] = resCs _
    rw [prods, if_pos hz]
    simp


theorem g_act1 (g : List Cx) (l : List Vis) (k : Nat) (hk : k < l.length) (hg : l[k].good g.length) : Ret Try.prog 82 [i64 k, .fp true [sl g], .fp true [sl l]] [] (.tup [.p (cx (at_ g l[k].i)), .p (cx l[k].v)]) := by
  unfold Vis.good at hg
  obtain ⟨a, ha⟩ : ∃ a : Nat, l[k].i = a := ⟨l[k].i.toNat, by omega⟩
  have hla : a < g.length := by omega
  rw [ha, at_get hla]
  refine ret (fn := Try.f82) (by kernel_rfl) (by kernel_rfl) rfl ?_
  refine ⟨k, rfl, hk, by decide, _, idx hk, rfl, ?_⟩
  refine ⟨a, ha, hla, by decide, _, idx hla, rfl, ?_⟩
  refine ⟨k, rfl, hk, by decide, _, idx hk, rfl, ?_⟩
  rfl

theorem g_act2 (f g : List Cx) (l : List Vis) (k : Nat) (hk : k < l.length) (hf : k < f.length) (hg : l[k].good g.length) : Ret Try.prog 83 [i64 k, .fp true [sl f], .fp true [sl g], .fp true [sl l]] [] (.tup [.p (cx f[k]), .p (cx (at_ g l[k].j))]) := by
  unfold Vis.good at hg
  obtain ⟨a, ha⟩ : ∃ a : Nat, l[k].j = a := ⟨l[k].j.toNat, by omega⟩
  have hla : a < g.length := by omega
  rw [ha, at_get hla]
  refine ret (fn := Try.f83) (by kernel_rfl) (by kernel_rfl) rfl ?_
  refine ⟨k, rfl, hf, by decide, _, idx hf, rfl, ?_⟩
  refine ⟨k, rfl, hk, by decide, _, idx hk, rfl, ?_⟩
  refine ⟨a, ha, hla, by decide, _, idx hla, rfl, ?_⟩
  rfl
end Go.Pv
