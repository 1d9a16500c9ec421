/- Contracts of chains: Check, Matrix, composed, table, between, validCube, Clone. -/
import Derived.Test.YtfbcedhbeebipaaNb
import Derived.Test.YtfbcedhbeebipaaPlChainCm
namespace Go.Pv
open Go.Vc
open Go.Proofs
set_option maxRecDepth 10000

theorem k_check (l : List Stg) (n m : Int) (hl : ∀ s ∈ l, Enc.ok s) : Ret Try.prog 13 [sl l, i64 n, i64 m] [] (.p (i64 (ck34 l n m))) := by
  refine ret (fn := Try.f13) (by kernel_rfl) (by kernel_rfl) rfl ?_
  refine ⟨fun h1 => ?_, fun h1 => ?_⟩
  rotate_left
  · simp at h1
    rw [ck34, if_pos (by omega)]; rfl
  simp at h1
  refine ⟨fun h2 => ?_, fun h2 => ?_⟩
  rotate_left
  · simp at h2
    rw [ck34, if_pos (by omega)]; rfl
  simp at h2
  refine ⟨fun h3 => ?_, fun h3 => ?_⟩
  rotate_left
  · simp at h3
    rw [ck34, if_pos (by omega)]; rfl
  simp at h3
  refine ⟨fun h4 => ?_, fun h4 => ?_⟩
  · simp at h4
    rw [ck34, if_pos (by omega)]; rfl
  simp at h4
  refine ⟨fun h5 => ?_, fun h5 => ?_⟩
  · simp at h5
    rw [ck34, if_neg (by omega), if_pos (by omega)]; rfl
  simp at h5
  refine ⟨Nat, { inv := fun k => k ≤ l.length ∧ (∀ s ∈ l.take k, s.good n m), slots := [(28, fun k => i64 k)],  mu := fun k => l.length - k }, 0, ⟨⟨rfl, trivial⟩, trivial, (by repeat' first | exact trivial | rfl | apply And.intro), Nat.zero_le _, by simp⟩, ?_⟩
  intro k ⟨hk, hall⟩
  refine ⟨fun h6 => ?_, fun h6 => ?_⟩
  · simp at h6
    refine ⟨k, rfl, h6, by decide, _, idx h6, rfl, ?_⟩
    refine ⟨[], _, k_valid l[k] n m (hl _ (List.getElem_mem h6)), rfl, ?_⟩
    refine ⟨fun h7 => ?_, fun h7 => ?_⟩
    · simp at h7
      show SV.p (i64 8) = _
      rw [ck34_8 (by omega) (by omega) (List.getElem_mem h6) h7]
    · simp at h7
      refine ⟨k + 1, by show _ < _; simp; omega, ⟨rfl, rfl⟩, ⟨by show PV.v (.int _ _) = _; rw [succ_w (by omega)], trivial⟩, trivial, (by repeat' first | exact trivial | rfl | apply And.intro), h6, ?_⟩
      intro s hs
      rw [List.take_succ_eq_append_getElem h6, List.mem_append] at hs
      rcases hs with hs | hs
      · exact hall s hs
      · simp at hs; subst hs; exact h7
  · simp at h6
    have : k = l.length := by omega
    subst this
    rw [List.take_length] at hall
    show SV.p (i64 0) = _
    rw [ck34_ok (by omega) (by omega) hall]

theorem k_matrix (s : Stg) (n m i c : Int) (hs : Enc.ok s) : Ret Try.prog 14 [stg s, i64 n, i64 m, i64 i, i64 c] [] (resJ (chmat s n m i c)) := by
  refine ret (fn := Try.f14) (by kernel_rfl) (by kernel_rfl) rfl ?_
  refine ⟨[], _, k_check [s] n m (by simp [hs]), rfl, ?_⟩
  refine ⟨fun h1 => ?_, fun h1 => ?_⟩
  · simp at h1
    refine ⟨Nat.le_refl _, ?_⟩
    rw [chmat, if_pos h1]
    exact ⟨_, rfl, rfl, rfl⟩
  simp at h1
  obtain ⟨k1, k2, k3⟩ := ck34_0 h1
  have bad : (i < 0 ∨ n ≤ i ∨ c < 0 ∨ m ≤ c) → chmat s n m i c = (j0, 2) := fun h => by rw [chmat, if_neg (by simp [h1]), if_pos h]
  refine ⟨fun h2 => ?_, fun h2 => ?_⟩
  rotate_left
  · simp at h2
    refine ⟨Nat.le_refl _, ?_⟩
    rw [bad (by omega)]
    exact ⟨_, rfl, rfl, rfl⟩
  simp at h2
  refine ⟨fun h3 => ?_, fun h3 => ?_⟩
  rotate_left
  · simp at h3
    refine ⟨Nat.le_refl _, ?_⟩
    rw [bad (by omega)]
    exact ⟨_, rfl, rfl, rfl⟩
  simp at h3
  refine ⟨fun h4 => ?_, fun h4 => ?_⟩
  rotate_left
  · simp at h4
    refine ⟨Nat.le_refl _, ?_⟩
    rw [bad (by omega)]
    exact ⟨_, rfl, rfl, rfl⟩
  simp at h4
  refine ⟨fun h5 => ?_, fun h5 => ?_⟩
  · simp at h5
    refine ⟨Nat.le_refl _, ?_⟩
    rw [bad (by omega)]
    exact ⟨_, rfl, rfl, rfl⟩
  simp at h5
  obtain ⟨i, rfl⟩ := Int.eq_ofNat_of_zero_le (show 0 ≤ i by omega)
  obtain ⟨c, rfl⟩ := Int.eq_ofNat_of_zero_le (show 0 ≤ c by omega)
  refine ⟨[], _, k_at s n m hs (k3 s (by simp)) (i := i) (c := c) (by omega) (by omega), rfl, ?_⟩
  refine ⟨Nat.le_refl _, ?_⟩
  rw [chmat, if_neg (by simp [h1]), if_neg (by omega)]
  exact ⟨_, rfl, rfl, rfl⟩

theorem k_composed (l : List Stg) (n m : Int) (hl : ∀ s ∈ l, Enc.ok s) (hg : ∀ s ∈ l, s.good n m) (hn : l.length ≤ 8) {i c : Nat} (hi : (i : Int) < n) (hc : (c : Int) < m) : ∃ a, Ret Try.prog 34 [sl l, i64 i, i64 c] [] (resJ (a, cerr l i c)) ∧ (cerr l i c = 0 → a = (comp l i c).1) := by
  refine ⟨if (comp l i c).2 ≠ 0 then j0 else (comp l i c).1, ?_, fun h => ?_⟩
  rotate_left
  · unfold cerr at h
    split at h
    · rename_i q; exact absurd h q
    · rename_i q; rw [if_neg q]
  refine ret (fn := Try.f34) (by kernel_rfl) (by kernel_rfl) rfl ?_
  refine ⟨[], _, k_one, rfl, ?_⟩
  refine ⟨[], _, k_diag one, rfl, ?_⟩
  refine ⟨Nat.le_refl _, ?_⟩
  refine ⟨Nat, { inv := fun k => k ≤ l.length ∧ (comp (l.take k) i c).2 = 0, slots := [(19, fun k => i64 k)], boxes := [(1, fun k => Enc.cs (comp (l.take k) i c).1)], mu := fun k => l.length - k }, 0, ⟨⟨rfl, trivial⟩, trivial, (by repeat' first | exact trivial | rfl | apply And.intro), Nat.zero_le _, rfl⟩, ?_⟩
  intro k ⟨hk, hz⟩
  refine ⟨fun h1 => ?_, fun h1 => ?_⟩
  · simp at h1
    have hgk := hg _ (List.getElem_mem h1)
    refine ⟨k, rfl, h1, by decide, _, idx h1, rfl, ?_⟩
    refine ⟨[], _, k_at l[k] n m (hl _ (List.getElem_mem h1)) hgk hi hc, rfl, ?_⟩
    refine ⟨Nat.le_refl _, ?_⟩
    refine ⟨fun h => absurd h (by first | decide | simp), fun _ => ?_⟩
    refine ⟨_, rfl, rfl, ?_⟩
    refine ⟨_, rfl, rfl, ?_⟩
    have hv := (comp_v (l.take k) hz).1
    refine ⟨[], _, j_mul (sat l[k] i c) (comp (l.take k) i c).1 (jok (sat_valid hgk hi hc)) (jok hv), rfl, ?_⟩
    refine ⟨Nat.le_refl _, ?_⟩
    have e : comp (l.take (k + 1)) i c = jmul (sat l[k] i c) (comp (l.take k) i c).1 := by
      rw [List.take_succ_eq_append_getElem h1, comp_snoc, cstep, if_neg (by simp [hz])]
    refine ⟨fun h2 => ?_, fun h2 => ?_⟩
    · simp at h2
      refine ⟨Nat.le_refl _, ?_⟩
      have e2 : (comp l i c).2 = (jmul (sat l[k] i c) (comp (l.take k) i c).1).2 := by
        rw [comp_bad (t := k + 1) (by rw [e]; exact h2), e]
      rw [if_pos (by rw [e2]; exact h2), cerr, if_pos (by rw [e2]; exact h2), e2]
      exact ⟨_, rfl, rfl, rfl⟩
    · simp at h2
      refine ⟨k + 1, by show _ < _; simp; omega, ⟨rfl, rfl⟩, ⟨by show PV.v (.int _ _) = _; rw [succ_w (by omega)], trivial⟩, trivial, ⟨rfl, ?_, trivial⟩, h1, ?_⟩
      · show _ = Enc.cs (comp (l.take (k + 1)) i c).1
        rw [e]; rfl
      · rw [e]; exact h2
  · simp at h1
    have : k = l.length := by omega
    subst this
    rw [List.take_length] at hz
    have hv := (comp_v l hz).1
    refine ⟨_, rfl, rfl, ?_⟩
    refine ⟨[], _, (show Ret Try.prog 57 [jn (comp (l.take l.length) i c).1] [] (resJ (jinv (comp l i c).1)) by rw [List.take_length]; exact j_inv (comp l i c).1 (jok hv)), rfl, ?_⟩
    refine ⟨Nat.le_refl _, ?_⟩
    refine ⟨_, rfl, rfl, ?_⟩
    refine ⟨Nat.le_refl _, ?_⟩
    rw [if_neg (by simp [hz]), cerr, if_neg (by simp [hz])]
    refine ⟨_, rfl, rfl, ?_⟩
    show SV.tup [.p (jn (comp (l.take l.length) i c).1), .p (i64 _)] = _
    rw [List.take_length]; rfl

theorem k_table (s : Stg) (n m : Nat) (hs : Enc.ok s) (hg : s.good n m) (hn : n ≤ 8) (hm : m ≤ 16) : Ret Try.prog 41 [stg s, i64 n, i64 m] [] (.tup [.p (sl (tabJ (sat s) n m)), .p (i64 0)]) := by
  refine ret (fn := Try.f41) (by kernel_rfl) (by kernel_rfl) rfl ?_
  refine ⟨n, n, rfl, rfl, Nat.le_refl _, ⟨by show n + 0 ≤ _; omega, by show (n + 0) * 24 ≤ _; omega⟩, ?_⟩
  refine ⟨Nat, { inv := fun i => i ≤ n, slots := [(16, fun i => i64 i)], nboxes := [(1, fun i => tabN 26 (sat s) n m i 0)], mu := fun i => n - i }, 0, ⟨⟨rfl, trivial⟩, trivial, ⟨rfl, ?_, trivial⟩, Nat.zero_le _⟩, ?_⟩
  · exact ⟨rfl, (tabN_0 _ _ _ _).symm, rfl⟩
  intro i hi
  have hi : i ≤ n := hi
  refine ⟨fun h1 => ?_, fun h1 => ?_⟩
  · simp at h1
    refine ⟨Nat, { inv := fun c => c ≤ m, slots := [(20, fun c => i64 c)], nboxes := [(1, fun c => tabN 26 (sat s) n m i c)], mu := fun c => m - c }, 0, ⟨⟨rfl, trivial⟩, trivial, (by repeat' first | exact trivial | rfl | apply And.intro), Nat.zero_le _⟩, ?_⟩
    intro c hc
    have hc : c ≤ m := hc
    refine ⟨fun h2 => ?_, fun h2 => ?_⟩
    · simp at h2
      refine ⟨.no, ?_⟩
      refine ⟨[], _, k_at s n m hs hg (i := i) (c := c) (by omega) (by omega), rfl, ?_⟩
      refine ⟨Nat.le_refl _, ?_⟩
      refine ⟨fun h => absurd h (by first | decide | simp), fun _ => ?_⟩
      refine ⟨.out 1 i 26 12 c (flat ((List.range c).map (sat s i))), tabN_get h1, ?_⟩
      refine ⟨i, rfl, h1, ?_⟩
      have hlen := tabN_len 26 (sat s) n m i c
      refine ⟨[.ob 3], ⟨.inl ⟨(by simp), rfl⟩, trivial⟩, rfl, by show i * 1 + 1 ≤ (tabN 26 (sat s) n m i c).length; omega, ?_⟩
      refine ⟨_, rfl, rfl, ?_⟩
      refine ⟨⟨by show c + 1 ≤ _; omega, by show (c + 1) * 96 ≤ _; omega⟩, ?_⟩
      refine ⟨i, rfl, h1, ?_⟩
      refine ⟨by show i * 1 + 1 ≤ (tabN 26 (sat s) n m i c).length; omega, (by show i = i * 1; omega), ?_⟩
      refine ⟨c + 1, by show _ < _; simp; omega, ⟨rfl, rfl⟩, ⟨by show PV.v (.int _ _) = _; rw [succ_w (by omega)], trivial⟩, trivial, ⟨rfl, ⟨rfl, ?_, rfl⟩, trivial⟩, h2⟩
      show (tabN 26 (sat s) n m i c).set (i * 1) (.ow 26 12 (c + 1) (flat ((List.range c).map (sat s i)) ++ Enc.cs (sat s i c))) = tabN 26 (sat s) n m i (c + 1)
      rw [Nat.mul_one, tabN_put h1]
    · simp at h2
      have : c = m := by omega
      subst this
      refine ⟨i + 1, by show _ < _; simp; omega, ⟨rfl, rfl⟩, ⟨by show PV.v (.int _ _) = _; rw [succ_w (by omega)], trivial⟩, trivial, ⟨rfl, ⟨rfl, tabN_next, rfl⟩, trivial⟩, h1⟩
  · simp at h1
    have : i = n := by omega
    subst this
    show SV.tup [.p (.sl false i ((tabN 26 (sat s) i m i 0).map ncP)), .p (i64 0)] = _
    rw [tabN_pv]
    simp [sl, tabJ_len]

theorem k_between (a v b : Jn) (ha : Enc.ok a) (hv : Enc.ok v) (hb : Enc.ok b) (oa : a.valid) : Ret Try.prog 42 [jn a, jn v, jn b] [] (resJ (btw a v b)) := by
  refine ret (fn := Try.f42) (by kernel_rfl) (by kernel_rfl) rfl ?_
  refine ⟨_, rfl, rfl, ?_⟩
  refine ⟨_, rfl, rfl, ?_⟩
  refine ⟨[], _, j_mul a v ha hv, rfl, ?_⟩
  refine ⟨Nat.le_refl _, ?_⟩
  refine ⟨fun h1 => ?_, fun h1 => ?_⟩
  · simp at h1
    refine ⟨Nat.le_refl _, ?_⟩
    rw [btw, if_pos h1]
    exact ⟨_, rfl, rfl, rfl⟩
  simp at h1
  refine ⟨_, rfl, rfl, ?_⟩
  refine ⟨[], _, j_adj b hb, rfl, ?_⟩
  refine ⟨Nat.le_refl _, ?_⟩
  refine ⟨fun h2 => ?_, fun h2 => ?_⟩
  · simp at h2
    refine ⟨Nat.le_refl _, ?_⟩
    rw [btw, if_neg (by simp [h1]), if_pos h2]
    exact ⟨_, rfl, rfl, rfl⟩
  simp at h2
  have vb : b.valid := by
    refine Classical.byContradiction fun hn => ?_
    rw [jadj, if_neg hn] at h2; simp at h2
  refine ⟨_, rfl, rfl, ?_⟩
  refine ⟨_, rfl, rfl, ?_⟩
  refine ⟨[], _, j_mul (jmul a v).1 (jadj b).1 (jok (jmul_v h1).2.2.1) (jok (jadj_v vb).2.1), rfl, ?_⟩
  refine ⟨Nat.le_refl _, ?_⟩
  rw [btw, if_neg (by simp [h1]), if_neg (by simp [h2])]
  exact ⟨_, rfl, rfl, rfl⟩

theorem k_clone (xs : List Jn) (h : 0 < xs.length) (hn : xs.length ≤ 100) : Ret Try.prog 40 [sl xs] [.row 26 12 xs.length false (flat xs)] (.ob 0) := by
  refine ret (fn := Try.f40) (by kernel_rfl) (by kernel_rfl) rfl ?_
  refine ⟨h, ?_⟩
  refine ⟨by rw [flat_length]; rfl, ⟨by show 0 + xs.length ≤ _; omega, by show (0 + xs.length) * 96 ≤ _; omega⟩, false, (fun h => by cases h), ?_⟩
  exact ⟨⟨Nat.zero_add _, rfl⟩, rfl⟩

theorem k_cube (c : Cube) (n m : Int) (hc : Enc.ok c) : Ret Try.prog 39 [cu c, i64 n, i64 m] [] (.p (bl (decide (c.good n m)))) := by
  have bad : ¬ c.good n m → SV.p (bl false) = SV.p (bl (decide (c.good n m))) := fun h => by rw [decide_eq_false h]
  have hl := ml hc.2.2.1
  refine ret (fn := Try.f39) (by kernel_rfl) (by kernel_rfl) rfl ?_
  refine ⟨fun h1 => ?_, fun h1 => ?_⟩
  rotate_left
  · simp at h1
    exact bad fun h => by have := h.1; omega
  simp at h1
  refine ⟨fun h2 => ?_, fun h2 => ?_⟩
  rotate_left
  · simp at h2
    exact bad fun h => by have := h.2.1; omega
  simp at h2
  refine ⟨fun h3 => ?_, fun h3 => ?_⟩
  rotate_left
  · simp at h3
    exact bad fun h => by have := h.2.2.1; omega
  simp at h3
  refine ⟨fun h4 => ?_, fun h4 => ?_⟩
  · simp at h4
    exact bad fun h => h4 h.2.2.2.1
  simp at h4
  refine ⟨Nat, { inv := fun k => k ≤ c.v.length ∧ (∀ a ∈ c.v.take k, a.valid), slots := [(37, fun k => i64 k)],  mu := fun k => c.v.length - k }, 0, ⟨⟨rfl, trivial⟩, trivial, (by repeat' first | exact trivial | rfl | apply And.intro), Nat.zero_le _, by simp⟩, ?_⟩
  intro k ⟨hk, hall⟩
  refine ⟨fun h5 => ?_, fun h5 => ?_⟩
  · simp at h5
    have hok := hc.2.2.2 _ (List.getElem_mem h5)
    have bad1 : ¬ c.v[k].valid → SV.p (bl false) = SV.p (bl (decide (c.good n m))) := fun h => bad fun q => h (q.2.2.2.2 _ (List.getElem_mem h5))
    refine ⟨k, rfl, h5, by decide, _, idx h5, rfl, ?_⟩
    refine ⟨Nat.le_refl _, ?_⟩
    refine ⟨_, rfl, rfl, ?_⟩
    refine ⟨Nat, { inv := fun i => i ≤ 4 ∧ (∀ j, j < i → (c.v[k].get j).valid), slots := [(42, fun i => i64 i)], mu := fun i => 4 - i }, 0, ⟨⟨rfl, trivial⟩, trivial, (by repeat' first | exact trivial | rfl | apply And.intro), Nat.zero_le _, fun j h => absurd h (by omega)⟩, ?_⟩
    intro i ⟨hi, hv⟩
    obtain rfl | rfl | rfl | rfl | rfl : i = 0 ∨ i = 1 ∨ i = 2 ∨ i = 3 ∨ i = 4 := by omega
    · refine ⟨fun _ => ?_, fun h => absurd h (by first | decide | simp)⟩
      refine ⟨0, rfl, by decide, _, rfl, rfl, ?_⟩
      refine ⟨[], _, c_check c.v[k].a (hok.1), rfl, ?_⟩
      refine ⟨fun h6 => ?_, fun h6 => ?_⟩
      · rw [chk_ne] at h6
        exact bad1 fun h => h6 h.1
      · rw [chk_eq] at h6
        refine ⟨1, by show _ < _; simp, ⟨rfl, rfl⟩, ⟨rfl, trivial⟩, trivial, (by repeat' first | exact trivial | rfl | apply And.intro), by decide, fun j hj => ?_⟩
        rcases Nat.lt_succ_iff_lt_or_eq.mp hj with h | rfl
        · exact hv j h
        · exact h6
    · refine ⟨fun _ => ?_, fun h => absurd h (by first | decide | simp)⟩
      refine ⟨1, rfl, by decide, _, rfl, rfl, ?_⟩
      refine ⟨[], _, c_check c.v[k].b (hok.2.1), rfl, ?_⟩
      refine ⟨fun h6 => ?_, fun h6 => ?_⟩
      · rw [chk_ne] at h6
        exact bad1 fun h => h6 h.2.1
      · rw [chk_eq] at h6
        refine ⟨2, by show _ < _; simp, ⟨rfl, rfl⟩, ⟨rfl, trivial⟩, trivial, (by repeat' first | exact trivial | rfl | apply And.intro), by decide, fun j hj => ?_⟩
        rcases Nat.lt_succ_iff_lt_or_eq.mp hj with h | rfl
        · exact hv j h
        · exact h6
    · refine ⟨fun _ => ?_, fun h => absurd h (by first | decide | simp)⟩
      refine ⟨2, rfl, by decide, _, rfl, rfl, ?_⟩
      refine ⟨[], _, c_check c.v[k].c (hok.2.2.1), rfl, ?_⟩
      refine ⟨fun h6 => ?_, fun h6 => ?_⟩
      · rw [chk_ne] at h6
        exact bad1 fun h => h6 h.2.2.1
      · rw [chk_eq] at h6
        refine ⟨3, by show _ < _; simp, ⟨rfl, rfl⟩, ⟨rfl, trivial⟩, trivial, (by repeat' first | exact trivial | rfl | apply And.intro), by decide, fun j hj => ?_⟩
        rcases Nat.lt_succ_iff_lt_or_eq.mp hj with h | rfl
        · exact hv j h
        · exact h6
    · refine ⟨fun _ => ?_, fun h => absurd h (by first | decide | simp)⟩
      refine ⟨3, rfl, by decide, _, rfl, rfl, ?_⟩
      refine ⟨[], _, c_check c.v[k].d (hok.2.2.2), rfl, ?_⟩
      refine ⟨fun h6 => ?_, fun h6 => ?_⟩
      · rw [chk_ne] at h6
        exact bad1 fun h => h6 h.2.2.2
      · rw [chk_eq] at h6
        refine ⟨4, by show _ < _; simp, ⟨rfl, rfl⟩, ⟨rfl, trivial⟩, trivial, (by repeat' first | exact trivial | rfl | apply And.intro), by decide, fun j hj => ?_⟩
        rcases Nat.lt_succ_iff_lt_or_eq.mp hj with h | rfl
        · exact hv j h
        · exact h6
    · refine ⟨fun h => absurd h (by first | decide | simp), fun _ => ?_⟩
      refine ⟨k + 1, by show _ < _; simp; omega, ⟨rfl, rfl⟩, ⟨by show PV.v (.int _ _) = _; rw [succ_w3 (by omega)], trivial⟩, trivial, (by repeat' first | exact trivial | rfl | apply And.intro), h5, ?_⟩
      intro a ha
      rw [List.take_succ_eq_append_getElem h5, List.mem_append] at ha
      rcases ha with ha | ha
      · exact hall a ha
      · simp at ha; subst ha
        exact ⟨hv 0 (by decide), hv 1 (by decide), hv 2 (by decide), hv 3 (by decide)⟩
  · simp at h5
    have : k = c.v.length := by omega
    subst this
    rw [List.take_length] at hall
    show SV.p (bl true) = _
    rw [decide_eq_true (show c.good n m from ⟨by omega, by omega, by omega, by omega, hall⟩)]
end Go.Pv
