/- Contracts of the gains' functions. -/
import Derived.Test.YtilmadidjihfkaaCl
import Derived.Test.YtilmadidjihfkaaPlCxm
namespace Go.Pv
open Go.Vc
open Go.Proofs
set_option maxRecDepth 10000

theorem zero_br {a : Cx} (h1 : (a.re == 0) = true) (h2 : (a.im == 0) = true) : a.zero := by simp at h1 h2; exact ⟨h1, h2⟩

theorem g_check1 (i : Int) (c : Cx) (hc : Enc.ok c) : Ret Try.prog 92 [i64 i, cx c] [] (.p (i64 (if okG c then 0 else 8))) := by
  refine ret (fn := Try.f92) (by kernel_rfl) (by kernel_rfl) rfl ?_
  refine ⟨[], _, c_check c hc, rfl, ?_⟩
  refine ⟨fun h1 => ?_, fun h1 => ?_⟩
  rotate_left
  · rw [chk_ne] at h1
    rw [if_neg (fun h => h1 h.1)]; rfl
  · rw [chk_eq] at h1
    refine ⟨fun h2 => ?_, fun h2 => ?_⟩
    · refine ⟨fun h3 => ?_, fun h3 => ?_⟩
      · rw [if_neg (fun h => h.2 (zero_br h2 h3))]; rfl
      · simp at h3
        rw [if_pos ⟨h1, fun h => h3 h.2⟩]; rfl
    · simp at h2
      rw [if_pos ⟨h1, fun h => h2 h.1⟩]; rfl

theorem g_each1 (g : List Cx) (hlen : g.length ≤ 8) (h0 : 0 < g.length) (hg : ∀ c ∈ g, Enc.ok c) : Ret Try.prog 91 [sl g, .fn (.func 92) [] []] [] (.p (i64 (ck26 g))) := by
  refine ret (fn := Try.f91) (by kernel_rfl) (by kernel_rfl) rfl ?_
  refine ⟨Nat, { inv := fun k => k ≤ g.length ∧ (∀ c ∈ g.take k, okG c), slots := [(10, fun k => i64 k)],  mu := fun k => g.length - k }, 0, ⟨⟨rfl, trivial⟩, trivial, trivial, Nat.zero_le _, by simp⟩, ?_⟩
  intro k ⟨hk, hall⟩
  refine ⟨fun h2 => ?_, fun h2 => ?_⟩
  · simp at h2
    refine ⟨k, rfl, h2, by decide, _, idx h2, rfl, ?_⟩
    refine ⟨[], _, g_check1 k g[k] (hg _ (List.getElem_mem h2)), rfl, ?_⟩
    refine ⟨fun h3 => ?_, fun h3 => ?_⟩
    · rw [both_ne] at h3
      show SV.p (i64 _) = _
      rw [if_neg h3, ck26_8 hlen h2 h3]
    · rw [both_eq] at h3
      refine ⟨k + 1, by show _ < _; simp; omega, ⟨rfl, rfl⟩, ⟨by show PV.v (.int _ _) = _; rw [succ_w (by omega)], trivial⟩, trivial, trivial, h2, ?_⟩
      intro c hc
      rw [List.take_succ_eq_append_getElem h2, List.mem_append] at hc
      rcases hc with hc | hc
      · exact hall c hc
      · simp at hc; subst hc; exact h3
  · simp at h2
    have : k = g.length := by omega
    subst this
    rw [List.take_length] at hall
    rw [ck26_ok hlen h0 hall]; rfl

theorem g_check (g : List Cx) (hg : ∀ c ∈ g, Enc.ok c) : Ret Try.prog 72 [sl g] [] (.p (i64 (ck26 g))) := by
  refine ret (fn := Try.f72) (by kernel_rfl) (by kernel_rfl) rfl ?_
  refine ⟨fun h1 => ?_, fun h1 => ?_⟩
  · simp at h1
    rw [ck26, if_pos (by omega)]; rfl
  · simp at h1
    refine ⟨fun h2 => ?_, fun h2 => ?_⟩
    · simp at h2
      rw [ck26, if_neg (by omega), if_pos (by simp [h2])]; rfl
    · simp at h2
      have : 0 < g.length := by
        cases g with
        | nil => simp at h2
        | cons _ _ => simp
      refine ⟨[], _, g_each1 g (by omega) this hg, rfl, ?_⟩
      rfl

theorem r_check26 (g : List Cx) : Ret Try.prog 71 [sl g] [] (.p (i64 (ck26 g))) := by
  refine ret (fn := Try.f71) (by kernel_rfl) (by kernel_rfl) rfl ?_
  refine ⟨fun h1 => ?_, fun h1 => ?_⟩
  · simp at h1
    rw [ck26, if_pos (by omega)]; rfl
  · simp at h1
    refine ⟨fun h2 => ?_, fun h2 => ?_⟩
    · simp at h2
      rw [ck26, if_neg (by omega), if_pos (by simp [h2])]; rfl
    · simp at h2
      have h0 : 0 < g.length := by
        cases g with
        | nil => simp at h2
        | cons _ _ => simp
      refine ⟨Nat, { inv := fun k => k ≤ g.length ∧ (∀ c ∈ g.take k, okG c), slots := [(3, fun k => i64 k)],  mu := fun k => g.length - k }, 0, ⟨⟨rfl, trivial⟩, trivial, trivial, Nat.zero_le _, by simp⟩, ?_⟩
      intro k ⟨hk, hall⟩
      refine ⟨fun h3 => ?_, fun h3 => ?_⟩
      · simp at h3
        refine ⟨k, rfl, h3, by decide, _, idx h3, rfl, ?_⟩
        refine ⟨[], _, r_check g[k], rfl, ?_⟩
        refine ⟨fun h4 => ?_, fun h4 => ?_⟩
        rotate_left
        · rw [chk_ne] at h4
          rw [ck26_8 (by omega) h3 (fun h => h4 h.1)]; rfl
        · rw [chk_eq] at h4
          refine ⟨k, rfl, h3, by decide, _, idx h3, rfl, ?_⟩
          refine ⟨[], _, r_zero g[k], rfl, ?_⟩
          refine ⟨fun h5 => ?_, fun h5 => ?_⟩
          · simp at h5
            rw [ck26_8 (by omega) h3 (fun h => h.2 h5)]; rfl
          · simp at h5
            refine ⟨k + 1, by show _ < _; simp; omega, ⟨rfl, rfl⟩, ⟨by show PV.v (.int _ _) = _; rw [succ_w (by omega)], trivial⟩, trivial, trivial, h3, ?_⟩
            intro c hc
            rw [List.take_succ_eq_append_getElem h3, List.mem_append] at hc
            rcases hc with hc | hc
            · exact hall c hc
            · simp at hc; subst hc; exact ⟨h4, h5⟩
      · simp at h3
        have : k = g.length := by omega
        subst this
        rw [List.take_length] at hall
        rw [ck26_ok (by omega) h0 hall]; rfl

theorem g_valid (v : Vis) (n : Int) (hv : Enc.ok v) : Ret Try.prog 81 [vi v, i64 n] [] (.p (bl (decide (v.good n)))) := by
  refine ret (fn := Try.f81) (by kernel_rfl) (by kernel_rfl) rfl ?_
  have bad : ¬ v.good n → SV.p (bl false) = SV.p (bl (decide (v.good n))) := fun h => by simp [h]
  refine ⟨fun h1 => ?_, fun h1 => ?_⟩
  · refine ⟨fun h2 => ?_, fun h2 => ?_⟩
    · refine ⟨fun h3 => ?_, fun h3 => ?_⟩
      · refine ⟨fun h4 => ?_, fun h4 => ?_⟩
        · refine ⟨[], _, c_check v.v hv.2.2.1, rfl, ?_⟩
          show SV.p (.v (.bool _)) = _
          simp at h1 h2 h3 h4
          congr 3
          rw [Bool.eq_iff_iff]
          have hc : (chk v.v == 0) = true ↔ v.v.valid := by unfold chk; split <;> simp_all
          rw [hc]
          simp [Vis.good, h1, h2, h3, h4]
        · simp at h4
          exact bad fun h => by unfold Vis.good at h; omega
      · simp at h3
        exact bad fun h => by unfold Vis.good at h; omega
    · simp at h2
      exact bad fun h => by unfold Vis.good at h; omega
  · simp at h1
    exact bad fun h => by unfold Vis.good at h; omega

theorem g_timesConj (a b : Cx) (ha : Enc.ok a) (hb : Enc.ok b) : Ret Try.prog 84 [cx a, cx b] [] (resC (tconj a b)) := by
  refine ret (fn := Try.f84) (by kernel_rfl) (by kernel_rfl) rfl ?_
  refine ⟨[], _, c_conj b hb, rfl, ?_⟩
  by_cases hv : b.valid
  · refine ⟨fun h1 => ?_, fun h1 => ?_⟩
    · rw [if_pos hv] at h1; simp at h1
    · refine ⟨[], resC (mul a (conj b)), ?_, rfl, ?_⟩
      · show Ret Try.prog 36 [cx a, cx (if b.valid then (conj b, (0 : Int)) else (c0, 8)).1] [] _
        rw [if_pos hv]
        exact c_mul a (conj b) ha (ok_valid (conj_valid hv))
      · show resC _ = resC _
        rw [tconj, if_pos hv]
  · refine ⟨fun h1 => ?_, fun h1 => ?_⟩
    · show SV.tup [.p (cx c0), .p (i64 (if b.valid then (conj b, (0 : Int)) else (c0, 8)).2)] = resC _
      rw [tconj, if_neg hv, if_neg hv]
    · rw [if_neg hv] at h1; simp at h1

end Go.Pv
