/- Contracts of the closure's functions: lists of visibilities. -/
import Derived.Test.YteihdjifhnkhpaaCr
import Derived.Test.YteihdjifhnkhpaaPlVis
namespace Go.Pv
open Go.Vc
open Go.Proofs
set_option maxRecDepth 10000

theorem r_seen (v : Vis) (n : Int) : Ret Try.prog 44 [vi v, i64 n] [] (.p (bl (decide (v.good n)))) := by
  refine ret (fn := Try.f44) (by kernel_rfl) (by kernel_rfl) rfl ?_
  have bad : ¬ v.good n → SV.p (bl false) = SV.p (bl (decide (v.good n))) := fun h => by simp [h]
  refine ⟨fun h1 => ?_, fun h1 => ?_⟩
  · refine ⟨fun h2 => ?_, fun h2 => ?_⟩
    · refine ⟨fun h3 => ?_, fun h3 => ?_⟩
      · refine ⟨[], _, r_check v.v, rfl, ?_⟩
        refine ⟨fun h4 => ?_, fun h4 => ?_⟩
        · show SV.p (.v (.bool _)) = _
          have : v.v.valid := by
            by_cases h : v.v.valid
            · exact h
            · unfold chk at h4; rw [if_neg h] at h4; simp at h4
          simp at h1 h2 h3
          congr 3
          rw [Bool.eq_iff_iff]
          simp [Vis.good, h1, h2, h3, this]
        · refine bad fun h => ?_
          unfold chk at h4; rw [if_pos h.2.2.2.2] at h4; simp at h4
      · simp at h3
        exact bad fun h => by unfold Vis.good at h; omega
    · simp at h2
      exact bad fun h => by unfold Vis.good at h; omega
  · simp at h1
    exact bad fun h => by unfold Vis.good at h; omega

theorem r_all (l : List Vis) (n : Int) : Ret Try.prog 16 [sl l, i64 n] [] (.p (i64 (all26 l n))) := by
  refine ret (fn := Try.f16) (by kernel_rfl) (by kernel_rfl) rfl ?_
  refine ⟨fun h1 => ?_, fun h1 => ?_⟩
  · simp at h1
    rw [all26, if_pos (by omega)]; rfl
  · simp at h1
    have hlen : l.length ≤ 64 := by omega
    refine ⟨Nat, { inv := fun k => k ≤ l.length ∧ ∀ v ∈ l.take k, v.good n, slots := [(5, fun k => i64 k)], mu := fun k => l.length - k }, 0, ⟨⟨rfl, trivial⟩, trivial, trivial, Nat.zero_le _, by simp⟩, ?_⟩
    intro k ⟨hk, hall⟩
    refine ⟨fun h2 => ?_, fun h2 => ?_⟩
    · simp at h2
      refine ⟨k, rfl, h2, by decide, _, idx h2, rfl, ?_⟩
      refine ⟨[], _, r_seen l[k] n, rfl, ?_⟩
      refine ⟨fun h3 => ?_, fun h3 => ?_⟩
      · simp at h3
        rw [all26_8 hlen h2 h3]; rfl
      · simp at h3
        refine ⟨k + 1, by show _ < _; simp; omega, ⟨rfl, rfl⟩, ⟨?_, trivial⟩, trivial, trivial, h2, ?_⟩
        · show PV.v (.int _ _) = _
          rw [succ_w (by omega)]
        · intro v hv
          rw [List.take_succ_eq_append_getElem h2, List.mem_append] at hv
          rcases hv with hv | hv
          · exact hall v hv
          · simp at hv
            subst hv
            exact h3
    · simp at h2
      have : k = l.length := by omega
      subst this
      rw [List.take_length] at hall
      have ha : all26 l n = 0 := by
        rw [all26, if_neg (by omega), if_pos]
        rw [List.all_eq_true]
        intro v hv
        simpa using hall v hv
      rw [ha]; rfl

end Go.Pv
