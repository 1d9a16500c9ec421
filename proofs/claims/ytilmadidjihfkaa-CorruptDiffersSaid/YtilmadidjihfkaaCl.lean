/- Contracts of the closure's functions: lists of visibilities. -/
import Derived.Test.YtilmadidjihfkaaCr
import Derived.Test.YtilmadidjihfkaaPlCxm
namespace Go.Pv
open Go.Vc
open Go.Proofs
set_option maxRecDepth 10000

theorem l_station (s : Int) : Ret Try.prog 64 [i64 s] [] (.p (bl (decide (0 ≤ s ∧ s < 8)))) := by
  refine ret (fn := Try.f64) (by kernel_rfl) (by kernel_rfl) rfl ?_
  refine ⟨fun h => ?_, fun h => ?_⟩
  · show SV.p (.v (.bool _)) = _
    simp at h
    congr 3
    rw [Bool.eq_iff_iff]
    simp [h]
  · show SV.p (.v (.bool _)) = _
    simp at h
    have : ¬ (0 ≤ s ∧ s < 8) := by omega
    simp [this]

theorem r_station (s : Int) : Ret Try.prog 85 [i64 s] [] (.p (bl (decide (0 ≤ s ∧ s < 8)))) := by
  refine ret (fn := Try.f85) (by kernel_rfl) (by kernel_rfl) rfl ?_
  refine ⟨fun h => ?_, fun h => ?_⟩
  · show SV.p (.v (.bool _)) = _
    simp at h
    congr 3
    rw [Bool.eq_iff_iff]
    simp [h]
  · show SV.p (.v (.bool _)) = _
    simp at h
    have : ¬ (0 ≤ s ∧ s < 8) := by omega
    simp [this]

theorem l_check (l : List Vis) (hl : ∀ v ∈ l, Enc.ok v) : Ret Try.prog 39 [sl l] [] (.p (i64 (ck27 l))) := by
  refine ret (fn := Try.f39) (by kernel_rfl) (by kernel_rfl) rfl ?_
  refine ⟨fun h1 => ?_, fun h1 => ?_⟩
  · simp at h1
    rw [ck27, all26, if_pos (by omega), if_pos (by omega)]; rfl
  · simp at h1
    have hlen : l.length ≤ 64 := by omega
    refine ⟨Nat, { inv := fun k => k ≤ l.length ∧ ∀ v ∈ l.take k, v.good 8, slots := [(13, fun k => i64 k)], mu := fun k => l.length - k }, 0, ⟨⟨rfl, trivial⟩, trivial, trivial, Nat.zero_le _, by simp⟩, ?_⟩
    intro k ⟨hk, hall⟩
    refine ⟨fun h2 => ?_, fun h2 => ?_⟩
    · simp at h2
      have bad : ¬ l[k].good 8 → SV.p (i64 8) = SV.p (i64 (ck27 l)) := fun h => by
        rw [ck27, all26_8 hlen h2 h, if_pos (by omega)]
      refine ⟨k, rfl, h2, by decide, _, idx h2, rfl, ?_⟩
      refine ⟨fun h3 => ?_, fun h3 => ?_⟩
      · refine ⟨fun h4 => ?_, fun h4 => ?_⟩
        · refine ⟨[], _, l_station _, rfl, ?_⟩
          refine ⟨fun h5 => ?_, fun h5 => ?_⟩
          · refine ⟨fun h6 => ?_, fun h6 => ?_⟩
            · refine ⟨[], _, c_check l[k].v (hl _ (List.getElem_mem h2)).2.2.1, rfl, ?_⟩
              refine ⟨fun h7 => ?_, fun h7 => ?_⟩
              · rw [chk_ne] at h7
                exact bad fun h => h7 h.2.2.2.2
              · rw [chk_eq] at h7
                simp at h3 h4 h5 h6
                refine ⟨k + 1, by show _ < _; simp; omega, ⟨rfl, rfl⟩, ⟨?_, trivial⟩, trivial, trivial, h2, ?_⟩
                · show PV.v (.int _ _) = _
                  rw [succ_w (by omega)]
                · intro v hv
                  rw [List.take_succ_eq_append_getElem h2, List.mem_append] at hv
                  rcases hv with hv | hv
                  · exact hall v hv
                  · simp at hv
                    subst hv
                    exact ⟨by omega, by omega, by omega, by omega, h7⟩
            · simp at h6
              exact bad fun h => by unfold Vis.good at h; omega
          · simp at h5
            exact bad fun h => by unfold Vis.good at h; omega
        · simp at h4
          exact bad fun h => by unfold Vis.good at h; omega
      · simp at h3
        exact bad fun h => by unfold Vis.good at h; omega
    · simp at h2
      have : k = l.length := by omega
      subst this
      rw [List.take_length] at hall
      have ha : all26 l 8 = 0 := by
        rw [all26, if_neg (by omega), if_pos]
        rw [List.all_eq_true]
        intro v hv
        simpa using hall v hv
      refine ⟨Nat, { inv := fun k => k ≤ l.length ∧ ((l.take k).map Vis.key).Nodup, slots := [(47, fun k => i64 k)], boxes := [(0, fun k => seenAt (l.take k))], mu := fun k => l.length - k }, 0, ⟨⟨rfl, trivial⟩, trivial, ⟨seenAt_nil, trivial⟩, Nat.zero_le _, by simp⟩, ?_⟩
      intro k ⟨hk, hnd⟩
      refine ⟨fun h2 => ?_, fun h2 => ?_⟩
      · simp at h2
        have hg := hall l[k] (List.getElem_mem h2)
        have hg' := hg
        unfold Vis.good at hg'
        obtain ⟨a, ha'⟩ : ∃ a : Nat, l[k].i = a := ⟨l[k].i.toNat, by omega⟩
        obtain ⟨b, hb'⟩ : ∃ b : Nat, l[k].j = b := ⟨l[k].j.toNat, by omega⟩
        have hit' := hit_iff (l := l.take k) (fun v hv => hall v (List.mem_of_mem_take hv)) hg (c := a * 8 + b) (by omega)
        refine ⟨k, rfl, h2, by decide, _, idx h2, rfl, ?_⟩
        refine ⟨a, ha', by omega, b, hb', by omega, [bl (hit (l.take k) (a * 8 + b))], ?_, rfl, ?_⟩
        · show ((seenAt _).drop (a * 8 + b * 1)).take 1 = _
          rw [Nat.mul_one, seenAt, part_map _ _ _ _ (by omega)]; rfl
        refine ⟨fun h3 => ?_, fun h3 => ?_⟩
        · rw [hit'] at h3
          obtain ⟨u, hu, hk'⟩ := h3
          rw [ck27, if_neg (by omega), if_neg]
          · rfl
          · intro hn
            have := (keys_succ h2).1 (keys_take (k + 1) hn)
            rw [List.mem_take_iff_getElem] at hu
            obtain ⟨m, hm, rfl⟩ := hu
            exact this.2 m (by omega) hk'
        · refine ⟨a, ha', by omega, b, hb', by omega, ?_⟩
          refine ⟨by show a * 8 + b * 1 + 1 ≤ (seenAt _).length; simp [seenAt]; omega, ?_⟩
          refine ⟨k + 1, by show _ < _; simp; omega, ⟨rfl, rfl⟩, ⟨?_, trivial⟩, trivial, ⟨?_, trivial⟩, h2, ?_⟩
          · show PV.v (.int _ _) = _
            rw [succ_w (by omega)]
          · show spl (seenAt _) (a * 8 + b * 1) [PV.v (.bool true)] = seenAt _
            rw [Nat.mul_one, List.take_succ_eq_append_getElem h2]
            refine spl_map _ _ _ _ _ (by omega) ?_ ?_
            · rw [hit_snoc]
              rw [show (l[k].i * 8 + l[k].j == ((a * 8 + b : Nat) : Int)) = true by simp; omega]
              simp
            · intro j hj
              rw [hit_snoc]
              rw [show (l[k].i * 8 + l[k].j == (j : Int)) = false by simp; omega]
              simp
          · rw [keys_succ h2]
            refine ⟨hnd, fun m hm e => ?_⟩
            have : hit (l.take k) (a * 8 + b) = true := hit'.2 ⟨l[m], by rw [List.mem_take_iff_getElem]; exact ⟨m, by omega, rfl⟩, e⟩
            rw [this] at h3
            cases h3
      · simp at h2
        have : k = l.length := by omega
        subst this
        rw [List.take_length] at hnd
        rw [ck27, if_neg (by omega), if_pos hnd]; rfl

theorem r_seen (v : Vis) (n : Int) : Ret Try.prog 80 [vi v, i64 n] [] (.p (bl (decide (v.good n)))) := by
  refine ret (fn := Try.f80) (by kernel_rfl) (by kernel_rfl) rfl ?_
  have bad : ¬ v.good n → SV.p (bl false) = SV.p (bl (decide (v.good n))) := fun h => by simp [h]
  refine ⟨fun h1 => ?_, fun h1 => ?_⟩
  · refine ⟨fun h2 => ?_, fun h2 => ?_⟩
    · refine ⟨fun h3 => ?_, fun h3 => ?_⟩
      · refine ⟨[], _, r_check v.v, rfl, ?_⟩
        refine ⟨fun h4 => ?_, fun h4 => ?_⟩
        · show SV.p (.v (.bool _)) = _
          have : v.v.valid := by
            by_cases h : v.v.valid
            · exact h
            · unfold chk at h4; rw [if_neg h] at h4; simp at h4
          simp at h1 h2 h3
          congr 3
          rw [Bool.eq_iff_iff]
          simp [Vis.good, h1, h2, h3, this]
        · refine bad fun h => ?_
          unfold chk at h4; rw [if_pos h.2.2.2.2] at h4; simp at h4
      · simp at h3
        exact bad fun h => by unfold Vis.good at h; omega
    · simp at h2
      exact bad fun h => by unfold Vis.good at h; omega
  · simp at h1
    exact bad fun h => by unfold Vis.good at h; omega

theorem r_all (l : List Vis) (n : Int) : Ret Try.prog 65 [sl l, i64 n] [] (.p (i64 (all26 l n))) := by
  refine ret (fn := Try.f65) (by kernel_rfl) (by kernel_rfl) rfl ?_
  refine ⟨fun h1 => ?_, fun h1 => ?_⟩
  · simp at h1
    rw [all26, if_pos (by omega)]; rfl
  · simp at h1
    have hlen : l.length ≤ 64 := by omega
    refine ⟨Nat, { inv := fun k => k ≤ l.length ∧ ∀ v ∈ l.take k, v.good n, slots := [(5, fun k => i64 k)], mu := fun k => l.length - k }, 0, ⟨⟨rfl, trivial⟩, trivial, trivial, Nat.zero_le _, by simp⟩, ?_⟩
    intro k ⟨hk, hall⟩
    refine ⟨fun h2 => ?_, fun h2 => ?_⟩
    · simp at h2
      refine ⟨k, rfl, h2, by decide, _, idx h2, rfl, ?_⟩
      refine ⟨[], _, r_seen l[k] n, rfl, ?_⟩
      refine ⟨fun h3 => ?_, fun h3 => ?_⟩
      · simp at h3
        rw [all26_8 hlen h2 h3]; rfl
      · simp at h3
        refine ⟨k + 1, by show _ < _; simp; omega, ⟨rfl, rfl⟩, ⟨?_, trivial⟩, trivial, trivial, h2, ?_⟩
        · show PV.v (.int _ _) = _
          rw [succ_w (by omega)]
        · intro v hv
          rw [List.take_succ_eq_append_getElem h2, List.mem_append] at hv
          rcases hv with hv | hv
          · exact hall v hv
          · simp at hv
            subst hv
            exact h3
    · simp at h2
      have : k = l.length := by omega
      subst this
      rw [List.take_length] at hall
      have ha : all26 l n = 0 := by
        rw [all26, if_neg (by omega), if_pos]
        rw [List.all_eq_true]
        intro v hv
        simpa using hall v hv
      rw [ha]; rfl

theorem r_check27 (l : List Vis) : Ret Try.prog 41 [sl l] [] (.p (i64 (ck27 l))) := by
  refine ret (fn := Try.f41) (by kernel_rfl) (by kernel_rfl) rfl ?_
  refine ⟨[], _, r_all l 8, rfl, ?_⟩
  refine ⟨fun h1 => ?_, fun h1 => ?_⟩
  · simp at h1
    rw [ck27, if_pos h1]; rfl
  · simp at h1
    obtain ⟨hlen, hall⟩ := all26_0 h1
    refine ⟨Nat, { inv := fun k => k ≤ l.length ∧ ((l.take k).map Vis.key).Nodup, slots := [(4, fun k => i64 k)], mu := fun k => l.length - k }, 0, ⟨⟨rfl, trivial⟩, trivial, trivial, Nat.zero_le _, by simp⟩, ?_⟩
    intro k ⟨hk, hnd⟩
    refine ⟨fun h2 => ?_, fun h2 => ?_⟩
    · simp at h2
      refine ⟨Nat, { inv := fun m => m ≤ k ∧ ∀ j, (hj : j < m) → (hk' : j < k) → (l[j]'(by omega)).key ≠ l[k].key, slots := [(5, fun m => i64 m)], mu := fun m => k - m }, 0, ⟨⟨rfl, trivial⟩, trivial, trivial, Nat.zero_le _, fun j hj => absurd hj (by omega)⟩, ?_⟩
      intro m ⟨hm, hne⟩
      refine ⟨fun h3 => ?_, fun h3 => ?_⟩
      · simp at h3
        have h3' : m < l.length := by omega
        have next : l[m].key ≠ l[k].key → ∀ j, (hj : j < m + 1) → (hk' : j < k) → (l[j]'(by omega)).key ≠ l[k].key := fun h j hj hk' => by
          by_cases e : j = m
          · subst e; exact h
          · exact hne j (by omega) hk'
        refine ⟨k, rfl, h2, by decide, _, idx h2, rfl, ?_⟩
        refine ⟨m, rfl, h3', by decide, _, idx h3', rfl, ?_⟩
        refine ⟨fun h4 => ?_, fun h4 => ?_⟩
        · refine ⟨k, rfl, h2, by decide, _, idx h2, rfl, ?_⟩
          refine ⟨m, rfl, h3', by decide, _, idx h3', rfl, ?_⟩
          simp at h4
          refine ⟨fun h5 => ?_, fun h5 => ?_⟩
          · simp at h5
            rw [ck27, if_neg (by omega), if_neg]
            · rfl
            · intro hn
              have := (keys_succ h2).1 (keys_take (k + 1) hn)
              exact this.2 m h3 (by simp [Vis.key, h4, h5])
          · simp at h5
            refine ⟨m + 1, by show _ < _; simp; omega, ⟨rfl, rfl⟩, ⟨?_, trivial⟩, trivial, trivial, by omega, next ?_⟩
            · show PV.v (.int _ _) = _
              rw [succ_w (by omega)]
            · intro e
              simp [Vis.key] at e
              omega
        · simp at h4
          refine ⟨m + 1, by show _ < _; simp; omega, ⟨rfl, rfl⟩, ⟨?_, trivial⟩, trivial, trivial, by omega, next ?_⟩
          · show PV.v (.int _ _) = _
            rw [succ_w (by omega)]
          · intro e
            simp [Vis.key] at e
            omega
      · simp at h3
        refine ⟨k + 1, by show _ < _; simp; omega, ⟨rfl, rfl⟩, ⟨?_, trivial⟩, trivial, trivial, by omega, ?_⟩
        · show PV.v (.int _ _) = _
          rw [succ_w (by omega)]
        · rw [keys_succ h2]
          exact ⟨hnd, fun j hj => hne j (by omega) hj⟩
    · simp at h2
      have : k = l.length := by omega
      subst this
      rw [List.take_length] at hnd
      rw [ck27, if_neg (by omega), if_pos hnd]; rfl

end Go.Pv
