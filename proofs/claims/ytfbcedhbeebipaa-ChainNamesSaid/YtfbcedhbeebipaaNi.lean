/- Contracts of the reference's chains: Compose. -/
import Derived.Test.YtfbcedhbeebipaaNh
namespace Go.Pv
open Go.Vc
open Go.Proofs
set_option maxRecDepth 10000

theorem chcomp_bad {l : List Stg} {n m : Int} (h1 : ck34 l n m = 0) {i c : Nat} (hi : (i : Int) < n) (hc : (c : Int) < m) (h : cerr l i c ≠ 0) : chcomp l n m = (s0, 16) := by
  rw [chcomp, if_neg (by simp [h1]), if_neg fun z => h (z i (by omega) c (by omega))]

set_option maxHeartbeats 4000000 in
theorem r_compose34 (l : List Stg) (n m : Int) (hl : ∀ s ∈ l, Enc.ok s) : Ret Try.prog 27 [sl l, i64 n, i64 m] [] (resSt (chcomp l n m)) := by
  refine ret (fn := Try.f27) (by kernel_rfl) (by kernel_rfl) rfl ?_
  refine ⟨[], _, r_check34 l n m hl, rfl, ?_⟩
  refine ⟨fun h1 => ?_, fun h1 => ?_⟩
  · simp at h1
    rw [chcomp, if_pos h1]; rfl
  simp at h1
  obtain ⟨k1, k2, k3⟩ := ck34_0 h1
  obtain ⟨n, rfl⟩ := Int.eq_ofNat_of_zero_le (show 0 ≤ n by omega)
  obtain ⟨m, rfl⟩ := Int.eq_ofNat_of_zero_le (show 0 ≤ m by omega)
  refine ⟨Nat, { inv := fun i => i ≤ n ∧ (∀ i', i' < i → ∀ c, c < m → cerr l i' c = 0), slots := [(10, fun i => i64 i)], cells := [(1, 5, 30, 1, fun i => i, fun i => flat ((List.range i).map fun i => (List.range m).map fun c => (comp l i c).1))], mu := fun i => n - i }, 0, ⟨⟨rfl, trivial⟩, ⟨⟨rfl, rfl⟩, trivial⟩, (by repeat' first | exact trivial | rfl | apply And.intro), Nat.zero_le _, fun _ h => absurd h (by omega)⟩, ?_⟩
  intro i ⟨hi, hz⟩
  refine ⟨fun h2 => ?_, fun h2 => ?_⟩
  · simp at h2
    have bad : ∀ c, c < m → cerr l i c ≠ 0 → SV.tup [.p (stg s0), .p (i64 16)] = resSt (chcomp l n m) := fun c hc h => by
      rw [chcomp_bad h1 (i := i) (c := c) (by omega) (by omega) h]
    refine ⟨Nat, { inv := fun c => c ≤ m ∧ (∀ c', c' < c → cerr l i c' = 0), slots := [(12, fun c => i64 c)], rows := [(11, 26, 12, fun c => c, fun c => flat ((List.range c).map fun c => (comp l i c).1))], mu := fun c => m - c }, 0, ⟨⟨rfl, trivial⟩, ⟨⟨rfl, rfl⟩, trivial⟩, (by repeat' first | exact trivial | rfl | apply And.intro), Nat.zero_le _, fun _ h => absurd h (by omega)⟩, ?_⟩
    intro c ⟨hc, hcz⟩
    refine ⟨fun h3 => ?_, fun h3 => ?_⟩
    · simp at h3
      refine ⟨[], _, r_one, rfl, ?_⟩
      refine ⟨[], _, r_times one, rfl, ?_⟩
      refine ⟨Nat.le_refl _, ?_⟩
      refine ⟨Nat, { inv := fun t => t ≤ l.length ∧ (comp (l.take t) i c).2 = 0, slots := [(14, fun t => i64 t)], boxes := [(4, fun t => Enc.cs (comp (l.take t) i c).1)], mu := fun t => l.length - t }, 0, ⟨⟨rfl, trivial⟩, trivial, (by repeat' first | exact trivial | rfl | apply And.intro), Nat.zero_le _, rfl⟩, ?_⟩
      intro t ⟨ht, htz⟩
      refine ⟨fun h4 => ?_, fun h4 => ?_⟩
      · simp at h4
        have hmt := List.getElem_mem h4
        have e : comp (l.take (t + 1)) i c = jmul (sat l[t] i c) (comp (l.take t) i c).1 := by
          rw [List.take_succ_eq_append_getElem h4, comp_snoc, cstep, if_neg (by simp [htz])]
        refine ⟨t, rfl, h4, by decide, _, idx h4, rfl, ?_⟩
        refine ⟨_, r_of l[t] n m (hl _ hmt) (k3 _ hmt) (i := i) (c := c) (by omega) (by omega), rfl, ?_⟩
        refine ⟨_, rfl, rfl, ?_⟩
        refine ⟨_, jr_mul (sat l[t] i c) (comp (l.take t) i c).1, rfl, ?_⟩
        refine ⟨fun h5 => ?_, fun h5 => ?_⟩
        · simp at h5
          have e2 : (comp l i c).2 ≠ 0 := by rw [comp_bad (t := t + 1) (by rw [e]; exact h5), e]; exact h5
          exact bad c h3 (by rw [cerr, if_pos e2]; exact e2)
        · simp at h5
          refine ⟨_, rfl, rfl, ?_⟩
          refine ⟨Nat.le_refl _, ?_⟩
          refine ⟨t + 1, by show _ < _; simp; omega, ⟨rfl, rfl⟩, ⟨by show PV.v (.int _ _) = _; rw [succ_w (by omega)], trivial⟩, trivial, ?_, h4, ?_⟩
          · have e1 : Enc.cs (comp (l.take (t + 1)) i c).1 = Enc.cs (jmul (sat l[t] i c) (comp (l.take t) i c).1).1 := by rw [e]
            (repeat' first | exact trivial | rfl | exact e1 | exact e1.symm | apply And.intro)
          · rw [e]; exact h5
      · simp at h4
        have : t = l.length := by omega
        subst this
        have htz2 : (comp l i c).2 = 0 := by rw [List.take_length] at htz; exact htz
        refine ⟨_, rfl, rfl, ?_⟩
        refine ⟨[], _, r_mat34 (comp (l.take l.length) i c).1, rfl, ?_⟩
        refine ⟨fun h6 => ?_, fun h6 => ?_⟩
        · simp at h6
          exact bad c h3 (by rw [cerr, if_neg (by simp [htz2])]; exact h6)
        · simp at h6
          refine ⟨_, rfl, rfl, ?_⟩
          refine ⟨⟨by show c + 1 ≤ _; omega, by show (c + 1) * 96 ≤ _; omega⟩, ?_⟩
          refine ⟨c + 1, by show _ < _; simp; omega, ⟨rfl, rfl⟩, ⟨by show PV.v (.int _ _) = _; rw [succ_w (by omega)], trivial⟩, ⟨⟨rfl, ?_⟩, trivial⟩, (by repeat' first | exact trivial | rfl | apply And.intro), h3, fun c' hc' => ?_⟩
          · show _ ++ _ = flat _
            rw [List.range_succ, List.map_append, List.map_singleton, flat_snoc]
            show _ ++ Enc.cs (comp (l.take l.length) i c).1 = _
            rw [List.take_length]
          · by_cases e : c' = c
            · subst e; rw [cerr, if_neg (by simp [htz2])]; exact h6
            · exact hcz c' (by omega)
    · simp at h3
      have : c = m := by omega
      subst this
      refine ⟨false, ?_⟩
      refine ⟨⟨by show i + 1 ≤ _; omega, by show (i + 1) * 24 ≤ _; omega⟩, ?_⟩
      refine ⟨i + 1, by show _ < _; simp; omega, ⟨rfl, rfl⟩, ⟨by show PV.v (.int _ _) = _; rw [succ_w (by omega)], trivial⟩, ⟨⟨rfl, ?_⟩, trivial⟩, (by repeat' first | exact trivial | rfl | apply And.intro), h2, fun i' hi' => ?_⟩
      · show _ ++ [PV.sl false c (flat ((List.range c).map fun c => (comp l i c).1))] = flat _
        rw [List.range_succ, List.map_append, List.map_singleton, flat_snoc]
        show _ = _ ++ [PV.sl false ((List.range c).map fun c => (comp l i c).1).length _]
        rw [List.length_map, List.length_range]
      · by_cases e : i' = i
        · subst e; exact hcz
        · exact hz i' (by omega)
  · simp at h2
    have : i = n := by omega
    subst this
    show SV.tup [.p (.agg [u8 5, .sl false 0 [], .sl false 0 [], .sl false 0 [], .sl false 0 [], .sl false i (flat ((List.range i).map fun i => (List.range m).map fun c => (comp l i c).1))]), .p (i64 0)] = _
    rw [chcomp, if_neg (by simp [h1]), if_pos (by simpa using hz)]
    simp [sl, flat]
end Go.Pv
