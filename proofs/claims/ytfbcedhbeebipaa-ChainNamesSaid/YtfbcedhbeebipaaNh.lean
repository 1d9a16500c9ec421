/- Contracts of the reference's chains: Act, Compose. -/
import Derived.Test.YtfbcedhbeebipaaNg
import Derived.Test.YtfbcedhbeebipaaPlChainGm
namespace Go.Pv
open Go.Vc
open Go.Proofs
set_option maxRecDepth 10000

theorem r_ofI (s : Stg) (n m : Int) (hs : Enc.ok s) (hg : s.good n m) (x : Int) (h0 : 0 ≤ x) (hi : x < n) {c : Nat} (hc : (c : Int) < m) : Ret Try.prog 49 [stg s, i64 x, i64 c] [] (.p (jn (sat s x.toNat c))) := by
  obtain ⟨i, rfl⟩ := Int.eq_ofNat_of_zero_le h0
  exact r_of s n m hs hg hi hc




theorem chact_bad {l : List Stg} {n m : Int} {cs : List Cube} (h1 : ck34 l n m = 0) (h2 : cck cs n m = 0) {c : Cube} (hc : c ∈ cs) {k : Nat} (hk : (k : Int) < m) (h : (cact l c k).2 ≠ 0) : chact l n m cs = ([], 16) := by
  rw [chact, if_neg (by simp [h1]), if_neg (by simp [h2]), if_neg fun z => h (z c hc k (by omega))]

set_option maxHeartbeats 4000000 in
theorem r_act34 (l : List Stg) (n m : Int) (cs : List Cube) (hl : ∀ s ∈ l, Enc.ok s) (hc : ∀ c ∈ cs, Enc.ok c) : Ret Try.prog 31 [sl l, i64 n, i64 m, sl cs] [] (resCu (chact l n m cs)) := by
  refine ret (fn := Try.f31) (by kernel_rfl) (by kernel_rfl) rfl ?_
  refine ⟨[], _, r_check34 l n m hl, rfl, ?_⟩
  refine ⟨fun h1 => ?_, fun h1 => ?_⟩
  · simp at h1
    rw [chact, if_pos h1]; rfl
  simp at h1
  obtain ⟨k1, k2, k3⟩ := ck34_0 h1
  refine ⟨[], _, r_cubes34 cs n m hc, rfl, ?_⟩
  refine ⟨fun h2 => ?_, fun h2 => ?_⟩
  · simp at h2
    rw [chact, if_neg (by simp [h1]), if_pos h2]; rfl
  simp at h2
  obtain ⟨c1, c2⟩ := cck_0 h2
  obtain ⟨n, rfl⟩ := Int.eq_ofNat_of_zero_le (show 0 ≤ n by omega)
  obtain ⟨m, rfl⟩ := Int.eq_ofNat_of_zero_le (show 0 ≤ m by omega)
  refine ⟨Nat, { inv := fun i => i ≤ cs.length ∧ (∀ c ∈ cs.take i, ∀ k, k < m → (cact l c k).2 = 0), slots := [(13, fun i => i64 i)], rows := [(12, 49, 3, fun i => i, fun i => flat ((cs.take i).map (acu l m)))], mu := fun i => cs.length - i }, 0, ⟨⟨rfl, trivial⟩, ⟨⟨rfl, rfl⟩, trivial⟩, trivial, Nat.zero_le _, by simp⟩, ?_⟩
  intro i ⟨hi, hz⟩
  refine ⟨fun h3 => ?_, fun h3 => ?_⟩
  · simp at h3
    have gi := c2 _ (List.getElem_mem h3)
    have hmem := List.getElem_mem h3
    have hnext : cs.take (i + 1) = cs.take i ++ [cs[i]] := List.take_succ_eq_append_getElem h3
    refine ⟨i, rfl, h3, by decide, _, idx h3, rfl, ?_⟩
    refine ⟨i, rfl, h3, by decide, _, idx h3, rfl, ?_⟩
    have gv := gi.2.2.2.1
    have bad : ∀ k, k < m → (cact l cs[i] k).2 ≠ 0 → SV.tup [.p (.sl false 0 []), .p (i64 16)] = resCu (chact l n m cs) := fun k hk h => by
      rw [chact_bad h1 h2 hmem (k := k) (by omega) h]; rfl
    refine ⟨Nat, { inv := fun k => k ≤ m ∧ (∀ k', k' < k → (cact l cs[i] k').2 = 0), slots := [(15, fun k => i64 k)], cells := [(1, 2, 26, 12, fun k => k, fun k => flat ((List.range k).map fun k => (cact l cs[i] k).1))], mu := fun k => m - k }, 0, ⟨⟨rfl, trivial⟩, ⟨⟨rfl, rfl⟩, trivial⟩, (by repeat' first | exact trivial | rfl | apply And.intro), Nat.zero_le _, fun _ h => absurd h (by omega)⟩, ?_⟩
    intro k ⟨hk, hkz⟩
    refine ⟨fun h4 => ?_, fun h4 => ?_⟩
    · simp at h4
      have hkv : k < cs[i].v.length := by omega
      have hv0 : (el j0 cs[i].v k).valid := by rw [el_get hkv]; exact gi.2.2.2.2 _ (List.getElem_mem hkv)
      refine ⟨i, rfl, h3, by decide, _, idx h3, rfl, ?_⟩
      refine ⟨k, rfl, hkv, by decide, _, idx hkv, rfl, ?_⟩
      refine ⟨Nat.le_refl _, ?_⟩
      have e0 : Enc.cs (cact (l.take 0) cs[i] k).1 = Enc.cs cs[i].v[k] := by
        show Enc.cs (el j0 cs[i].v k) = _
        rw [el_get hkv]
      refine ⟨Nat, { inv := fun t => t ≤ l.length ∧ (cact (l.take t) cs[i] k).2 = 0, slots := [(17, fun t => i64 t)], boxes := [(3, fun t => Enc.cs (cact (l.take t) cs[i] k).1)], mu := fun t => l.length - t }, 0, ⟨⟨rfl, trivial⟩, trivial, (by repeat' first | exact trivial | rfl | exact e0 | exact e0.symm | apply And.intro), Nat.zero_le _, rfl⟩, ?_⟩
      intro t ⟨ht, htz⟩
      refine ⟨fun h5 => ?_, fun h5 => ?_⟩
      · simp at h5
        have hmt := List.getElem_mem h5
        have gt := k3 _ hmt
        have hcv := cact_valid hv0 htz
        have step := cact_step h5 htz
        have v2 := sat_valid gt (show ((cs[i].j.toNat : Nat) : Int) < n by have := gi.2.1; have := gi.2.2.1; omega) (show (k : Int) < m by omega)
        refine ⟨t, rfl, h5, by decide, _, idx h5, rfl, ?_⟩
        refine ⟨_, r_ofI l[t] n m (hl _ hmt) gt cs[i].i gi.1 (by have := gi.2.1; have := gi.2.2.1; omega) (c := k) (by omega), rfl, ?_⟩
        refine ⟨_, rfl, rfl, ?_⟩
        refine ⟨_, jr_mul (sat l[t] cs[i].i.toNat k) (cact (l.take t) cs[i] k).1, rfl, ?_⟩
        refine ⟨fun h6 => ?_, fun h6 => ?_⟩
        · simp at h6
          refine bad k h4 (vact_bad (t := t + 1) ?_)
          show (cact (l.take (t + 1)) cs[i] k).2 ≠ 0
          rw [step, btw, if_pos h6]; exact h6
        · simp at h6
          refine ⟨t, rfl, h5, by decide, _, idx h5, rfl, ?_⟩
          refine ⟨_, r_ofI l[t] n m (hl _ hmt) gt cs[i].j (by have := gi.1; have := gi.2.1; omega) gi.2.2.1 (c := k) (by omega), rfl, ?_⟩
          refine ⟨_, jr_adj (sat l[t] cs[i].j.toNat k), rfl, ?_⟩
          refine ⟨_, rfl, rfl, ?_⟩
          refine ⟨_, rfl, rfl, ?_⟩
          refine ⟨[], _, jr_mul (jmul (sat l[t] cs[i].i.toNat k) (cact (l.take t) cs[i] k).1).1 (jadj (sat l[t] cs[i].j.toNat k)).1, rfl, ?_⟩
          have step2 : cact (l.take (t + 1)) cs[i] k = jmul (jmul (sat l[t] cs[i].i.toNat k) (cact (l.take t) cs[i] k).1).1 (jadj (sat l[t] cs[i].j.toNat k)).1 := by
            rw [step, btw, if_neg (by simp [h6]), if_neg (by simp [(jadj_v v2).1])]
          refine ⟨Nat.le_refl _, ?_⟩
          refine ⟨fun h7 => ?_, fun h7 => ?_⟩
          · simp at h7
            refine bad k h4 (vact_bad (t := t + 1) ?_)
            show (cact (l.take (t + 1)) cs[i] k).2 ≠ 0
            rw [step2]; exact h7
          · simp at h7
            refine ⟨t + 1, by show _ < _; simp; omega, ⟨rfl, rfl⟩, ⟨by show PV.v (.int _ _) = _; rw [succ_w (by omega)], trivial⟩, trivial, ?_, h5, ?_⟩
            · have e1 : Enc.cs (cact (l.take (t + 1)) cs[i] k).1 = Enc.cs (jmul (jmul (sat l[t] cs[i].i.toNat k) (cact (l.take t) cs[i] k).1).1 (jadj (sat l[t] cs[i].j.toNat k)).1).1 := by rw [step2]
              (repeat' first | exact trivial | rfl | exact e1 | exact e1.symm | apply And.intro)
            · rw [step2]; exact h7
      · simp at h5
        have : t = l.length := by omega
        subst this
        refine ⟨_, rfl, rfl, ?_⟩
        refine ⟨⟨by show k + 1 ≤ _; omega, by show (k + 1) * 96 ≤ _; omega⟩, ?_⟩
        refine ⟨k + 1, by show _ < _; simp; omega, ⟨rfl, rfl⟩, ⟨by show PV.v (.int _ _) = _; rw [succ_w (by omega)], trivial⟩, ⟨⟨rfl, ?_⟩, trivial⟩, (by repeat' first | exact trivial | rfl | apply And.intro), h4, fun k' hk' => ?_⟩
        · show _ ++ _ = flat _
          rw [List.range_succ, List.map_append, List.map_singleton, flat_snoc, List.take_length]; rfl
        · by_cases e : k' = k
          · subst e; rw [List.take_length] at htz; exact htz
          · exact hkz k' (by omega)
    · simp at h4
      have : k = m := by omega
      subst this
      refine ⟨false, ?_⟩
      refine ⟨⟨by show i + 1 ≤ _; omega, by show (i + 1) * 40 ≤ _; omega⟩, ?_⟩
      refine ⟨i + 1, by show _ < _; simp; omega, ⟨rfl, rfl⟩, ⟨by show PV.v (.int _ _) = _; rw [succ_w (by omega)], trivial⟩, ⟨⟨rfl, ?_⟩, trivial⟩, (by repeat' first | exact trivial | rfl | apply And.intro), h3, fun c hc' k' hk' => ?_⟩
      · show _ ++ _ = flat _
        rw [hnext, List.map_append, List.map_singleton, flat_snoc]
        show _ = _ ++ [_, _, PV.sl false ((List.range k).map fun k => (cact l cs[i] k).1).length _]
        rw [List.length_map, List.length_range]; rfl
      · rw [hnext, List.mem_append] at hc'
        rcases hc' with hc' | hc'
        · exact hz c hc' k' hk'
        · simp at hc'; subst hc'; exact hkz k' hk'
  · simp at h3
    have : i = cs.length := by omega
    subst this
    show SV.tup [.p (.sl false cs.length (flat ((cs.take cs.length).map (acu l m)))), .p (i64 0)] = _
    rw [List.take_length] at hz ⊢
    rw [chact, if_neg (by simp [h1]), if_neg (by simp [h2]), if_pos (by simpa using hz)]
    show SV.tup [.p (.sl false cs.length _), _] = SV.tup [.p (sl (cs.map (acu l m))), _]
    simp [sl]
end Go.Pv
