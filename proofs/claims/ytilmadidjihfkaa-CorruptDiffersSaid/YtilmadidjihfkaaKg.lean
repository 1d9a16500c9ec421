/- Contracts: inverses of tables, the code's and the reference's. -/
import Derived.Test.YtilmadidjihfkaaGr
import Derived.Test.YtilmadidjihfkaaKe
import Derived.Test.YtilmadidjihfkaaCd
import Derived.Test.YtilmadidjihfkaaPlCxm
namespace Go.Pv
open Go.Vc
open Go.Proofs
set_option maxRecDepth 10000

theorem g_prodsI (n : Nat) (hn : n ≤ 64) (ca : List PV) (u v : Nat → Cx) (m : Cx → Cx → Cx × Int)
    (hu : ∀ k : Nat, k < n → Ret Try.prog 74 [i64 k, .fp true ca] [] (.tup [.p (cx (u k)), .p (cx (v k))]))
    (hm : ∀ k : Nat, k < n → Ret Try.prog 75 [cx (u k), cx (v k)] [] (resC (m (u k) (v k)))) :
    Ret Try.prog 73 [i64 n, .fn (.func 74) [] [.fp true ca], .fn (.func 75) [] []] [] (resCs (prods m u v n)) := by
  refine ret (fn := Try.f73) (by kernel_rfl) (by kernel_rfl) rfl ?_
  refine ⟨0, n, rfl, rfl, Nat.zero_le _, ⟨by show n + 0 ≤ _; omega, by show (n + 0) * 24 ≤ _; omega⟩, ?_⟩
  refine ⟨Nat, { inv := fun k => k ≤ n ∧ (perr m u v k = 0), slots := [(17, fun k => i64 k)], rows := [(8, 23, 3, fun k => k, fun k => flat ((List.range k).map fun k => (m (u k) (v k)).1))], mu := fun k => n - k }, 0, ⟨⟨rfl, trivial⟩, ⟨⟨rfl, rfl⟩, trivial⟩, (by repeat' first | exact trivial | rfl | apply And.intro), Nat.zero_le _, rfl⟩, ?_⟩
  intro k ⟨hk, hz⟩
  refine ⟨fun h2 => ?_, fun h2 => ?_⟩
  · simp at h2
    refine ⟨[], _, hu k h2, rfl, ?_⟩
    refine ⟨[], _, hm k h2, rfl, ?_⟩
    refine ⟨fun h3 => ?_, fun h3 => ?_⟩
    · simp at h3
      show SV.tup [.p (.sl false 0 []), .p (i64 _)] = resCs _
      rw [prods, perr_bad h2 hz h3, if_neg h3]; rfl
    · simp at h3
      refine ⟨⟨by show k + 1 ≤ _; omega, by show (k + 1) * 24 ≤ _; omega⟩, ?_⟩
      refine ⟨k + 1, by show _ < _; simp; omega, ⟨rfl, rfl⟩, ⟨by show PV.v (.int _ _) = _; rw [succ_w (by omega)], trivial⟩, ⟨⟨rfl, ?_⟩, trivial⟩, (by repeat' first | exact trivial | rfl | apply And.intro), h2, ?_⟩
      · show _ ++ _ = flat _
        rw [List.range_succ, List.map_append, List.map_singleton, flat_snoc]; rfl
      · rw [perr, if_neg (by simp [hz])]; exact h3
  · simp at h2
    have : k = n := by omega
    subst this
    show SV.tup [.p (.sl false k (flat ((List.range k).map fun k => (m (u k) (v k)).1))), .p (i64 0)] = resCs _
    rw [prods, if_pos hz]
    simp


theorem g_inv1 (g : List Cx) (k : Nat) (hk : k < g.length) : Ret Try.prog 74 [i64 k, .fp true [sl g]] [] (.tup [.p (cx one), .p (cx (gat g k))]) := by
  rw [gat_get hk]
  refine ret (fn := Try.f74) (by kernel_rfl) (by kernel_rfl) rfl ?_
  refine ⟨k, rfl, hk, by decide, _, idx hk, rfl, ?_⟩
  rfl

theorem g_inv (g : List Cx) (hg : ∀ c ∈ g, Enc.ok c) : Ret Try.prog 53 [sl g] [] (resCs (tinv g)) := by
  refine ret (fn := Try.f53) (by kernel_rfl) (by kernel_rfl) rfl ?_
  refine ⟨[], _, g_check g hg, rfl, ?_⟩
  refine ⟨fun h1 => ?_, fun h1 => ?_⟩
  · simp at h1
    rw [tinv, if_pos h1]; rfl
  simp at h1
  obtain ⟨c1, c2, c3⟩ := ck26_0 h1
  refine ⟨[], _, g_prodsI g.length (by omega) [sl g] (fun _ => one) (gat g) div (fun k hk => g_inv1 g k hk) (fun k hk => c_div _ _ (ok_valid (by decide +kernel)) (ok_valid (gat_valid h1 hk).1)), rfl, ?_⟩
  rw [tinv, if_neg (by simp [h1])]; rfl

theorem r_tinv (g : List Cx) : Ret Try.prog 54 [sl g] [] (resCs (tinv g)) := by
  refine ret (fn := Try.f54) (by kernel_rfl) (by kernel_rfl) rfl ?_
  refine ⟨[], _, r_check26 g, rfl, ?_⟩
  refine ⟨fun h1 => ?_, fun h1 => ?_⟩
  · simp at h1
    refine ⟨[], _, r_check26 g, rfl, ?_⟩
    rw [tinv, if_pos h1]; rfl
  simp at h1
  obtain ⟨c1, c2, c3⟩ := ck26_0 h1
  rw [tinv, if_neg (by simp [h1])]
  refine ⟨Nat, { inv := fun k => k ≤ g.length ∧ (perr div (fun _ => one) (gat g) k = 0), slots := [(5, fun k => i64 k)], rows := [(4, 23, 3, fun k => k, fun k => flat ((List.range k).map fun k => (div one (gat g k)).1))], mu := fun k => g.length - k }, 0, ⟨⟨rfl, trivial⟩, ⟨⟨rfl, rfl⟩, trivial⟩, (by repeat' first | exact trivial | rfl | apply And.intro), Nat.zero_le _, rfl⟩, ?_⟩
  intro k ⟨hk, hz⟩
  refine ⟨fun h2 => ?_, fun h2 => ?_⟩
  · simp at h2
    refine ⟨_, r_one, rfl, ?_⟩
    refine ⟨k, rfl, h2, by decide, _, idx h2, rfl, ?_⟩
    refine ⟨_, r_div one g[k], rfl, ?_⟩
    have e1 := gat_get h2
    refine ⟨fun h3 => ?_, fun h3 => ?_⟩
    · simp at h3
      rw [prods_bad h2 hz (by rw [e1]; exact h3) (div_err (by decide +kernel) (gat_valid h1 h2).1 (gat_valid h1 h2).2)]
      rfl
    · simp at h3
      refine ⟨⟨by show k + 1 ≤ _; omega, by show (k + 1) * 24 ≤ _; omega⟩, ?_⟩
      refine ⟨k + 1, by show _ < _; simp; omega, ⟨rfl, rfl⟩, ⟨by show PV.v (.int _ _) = _; rw [succ_w (by omega)], trivial⟩, ⟨⟨rfl, ?_⟩, trivial⟩, (by repeat' first | exact trivial | rfl | apply And.intro), h2, ?_⟩
      · show _ ++ _ = flat _
        rw [List.range_succ, List.map_append, List.map_singleton, flat_snoc, e1]; rfl
      · rw [perr, if_neg (by simp [hz]), e1]; exact h3
  · simp at h2
    have : k = g.length := by omega
    subst this
    show SV.tup [.p (.sl false g.length (flat ((List.range g.length).map fun k => (div one (gat g k)).1))), .p (i64 0)] = resCs _
    rw [prods, if_pos hz]
    simp

end Go.Pv
