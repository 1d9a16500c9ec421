/- Contracts of the reference's table of events, and of the example. -/
import Derived.Test.YtilmadidjihfkaaKc
namespace Go.Pv
open Go.Vc
open Go.Proofs
set_option maxRecDepth 10000
set_option maxHeartbeats 4000000

theorem r_table (l : List Spo) (t : Int) : Ret Try.prog 16 [sl l, i64 t] [] (resCs (table l t)) := by
  refine ret (fn := Try.f16) (by kernel_rfl) (by kernel_rfl) rfl ?_
  refine ⟨fun h1 => ?_, fun h1 => ?_⟩
  rotate_left
  · simp at h1
    rw [table, if_pos (.inl h1)]; rfl
  refine ⟨fun h2 => ?_, fun h2 => ?_⟩
  · simp at h2
    rw [table, if_pos (.inr h2)]; rfl
  simp at h1 h2
  have ht : 0 ≤ t ∧ t < 32 := ⟨h1, h2⟩
  refine ⟨fun h3 => ?_, fun h3 => ?_⟩
  · simp at h3
    rw [table, if_neg (by omega), if_pos (by omega)]; rfl
  simp at h3
  have hlen : l.length ≤ 8 := by omega
  refine ⟨Nat, { inv := fun k => k ≤ l.length ∧ (∀ s ∈ l.take k, s.ok), slots := [(6, fun k => i64 k)],  mu := fun k => l.length - k }, 0, ⟨⟨rfl, trivial⟩, trivial, trivial, Nat.zero_le _, by simp⟩, ?_⟩
  intro k ⟨hk, hall⟩
  refine ⟨fun h4 => ?_, fun h4 => ?_⟩
  · simp at h4
    refine ⟨k, rfl, h4, by decide, _, idx h4, rfl, ?_⟩
    refine ⟨[], _, r_event l[k], rfl, ?_⟩
    refine ⟨fun h5 => ?_, fun h5 => ?_⟩
    · simp at h5
      rw [table_8 ht hlen h4 h5]; rfl
    · have h5 : l[k].ok := by simpa using h5
      refine ⟨k + 1, by show _ < _; simp; omega, ⟨rfl, rfl⟩, ⟨by show PV.v (.int _ _) = _; rw [succ_w (by omega)], trivial⟩, trivial, (by repeat' first | exact trivial | rfl | apply And.intro), h4, ?_⟩
      intro s hs
      rw [List.take_succ_eq_append_getElem h4, List.mem_append] at hs
      rcases hs with hs | hs
      · exact hall s hs
      · simp at hs; subst hs; exact h5
  simp at h4
  have : k = l.length := by omega
  subst this
  rw [List.take_length] at hall
  clear h4 hk
  refine ⟨Nat, { inv := fun i => i ≤ 8 ∧ (allOk l t i), slots := [(8, fun i => i64 i)], rows := [(7, 23, 3, fun i => i, fun i => flat ((List.range i).map fun i => (stn l t i).1))], mu := fun i => 8 - i }, 0, ⟨⟨rfl, trivial⟩, ⟨⟨rfl, rfl⟩, trivial⟩, (by repeat' first | exact trivial | rfl | apply And.intro), Nat.zero_le _, fun i hi => absurd hi (by omega)⟩, ?_⟩
  intro i ⟨hi, hz⟩
  refine ⟨fun h6 => ?_, fun h6 => ?_⟩
  · have h6 : i < 8 := by simp at h6; omega
    refine ⟨[], _, r_one, rfl, ?_⟩
    refine ⟨Nat, { inv := fun k => k ≤ l.length ∧ ((stn (l.take k) t i).2 = 0), slots := [(10, fun k => i64 k)], boxes := [(1, fun k => Enc.cs (stn (l.take k) t i).1)], mu := fun k => l.length - k }, 0, ⟨⟨rfl, trivial⟩, trivial, (by repeat' first | exact trivial | rfl | apply And.intro), Nat.zero_le _, rfl⟩, ?_⟩
    intro k ⟨hk, hk0⟩
    refine ⟨fun h7 => ?_, fun h7 => ?_⟩
    · simp at h7
      have hok := hall l[k] (List.getElem_mem h7)
      have hv := stn_valid (l := l.take k) (t := t) (i := i) (fun s hs => hall s (List.mem_of_mem_take hs)) hk0
      have hn := num_valid hok t
      refine ⟨k, rfl, h7, by decide, _, idx h7, rfl, ?_⟩
      refine ⟨fun h8 => ?_, fun h8 => ?_⟩
      · simp at h8
        have e : stn (l.take (k + 1)) t i = stn (l.take k) t i := by
          unfold stn; rw [List.take_succ_eq_append_getElem h7, nums_off _ _ _ h8]
        refine ⟨k + 1, by show _ < _; simp; omega, ⟨rfl, rfl⟩, ⟨by show PV.v (.int _ _) = _; rw [succ_w (by omega)], trivial⟩, trivial, ?_, h7, by rw [e]; exact hk0⟩
        refine ⟨⟨rfl, rfl⟩, ?_, trivial⟩
        show _ = mapP (Enc.cs (stn (l.take (k + 1)) t i).1)
        rw [e]
      · simp at h8
        refine ⟨k, rfl, h7, by decide, _, idx h7, rfl, ?_⟩
        refine ⟨_, r_number l[k] t hok ht, rfl, ?_⟩
        refine ⟨_, r_mul (stn (l.take k) t i).1 (num l[k] t), rfl, ?_⟩
        refine ⟨fun h9 => ?_, fun h9 => ?_⟩
        · simp at h9
          have := step_bad h8 hk0 h9
          rw [← List.take_succ_eq_append_getElem h7] at this
          rw [table_16 ht hlen hall h6 (stn_bad this)]; rfl
        · have h9 : (mul (stn (l.take k) t i).1 (num l[k] t)).2 = 0 := by simpa using h9
          have e : stn (l.take (k + 1)) t i = ((mul (stn (l.take k) t i).1 (num l[k] t)).1, 0) := by
            unfold stn at *
            rw [List.take_succ_eq_append_getElem h7, nums_hit _ _ _ h8, acc_snoc, accStep, if_neg (by simp [hk0]), if_neg (by simp [h9])]
          refine ⟨k + 1, by show _ < _; simp; omega, ⟨rfl, rfl⟩, ⟨by show PV.v (.int _ _) = _; rw [succ_w (by omega)], trivial⟩, trivial, ?_, h7, by rw [e]⟩
          refine ⟨⟨rfl, rfl⟩, ?_, trivial⟩
          show _ = mapP (Enc.cs (stn (l.take (k + 1)) t i).1)
          rw [e]; rfl
    · simp at h7
      have : k = l.length := by omega
      subst this
      rw [List.take_length] at hk0
      refine ⟨⟨by show i + 1 ≤ _; omega, by show (i + 1) * 24 ≤ _; omega⟩, ?_⟩
      refine ⟨i + 1, by show _ < _; simp; omega, ⟨rfl, rfl⟩, ⟨by show PV.v (.int _ _) = _; rw [succ_w (by omega)], trivial⟩, ⟨⟨rfl, ?_⟩, trivial⟩, (by repeat' first | exact trivial | rfl | apply And.intro), h6, ?_⟩
      · show _ ++ _ = flat _
        rw [List.range_succ, List.map_append, List.map_singleton, flat_snoc, List.take_length]; rfl
      · intro j hj
        by_cases e : j = i
        · subst e; exact hk0
        · exact hz j (by omega)
  · have h6 : i = 8 := by simp at h6; omega
    subst h6
    rw [table_0 ht hlen hall hz]; rfl

end Go.Pv
