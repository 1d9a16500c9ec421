/- Contracts of series and events: checks, and the reference's. -/
import Derived.Test.YtilmadidjihfkaaKa
namespace Go.Pv
open Go.Vc
open Go.Proofs
set_option maxRecDepth 10000

theorem key_ne {a b : Vis} (h : a.i ≠ b.i ∨ a.j ≠ b.j) : a.key ≠ b.key := by
  intro e
  simp only [Vis.key, Prod.mk.injEq] at e
  rcases h with h | h
  · exact h e.1
  · exact h e.2

theorem bas_ne {a b : List Vis} {k : Nat} (ha : k < a.length) (hb : k < b.length) (h : a[k].key ≠ b[k].key) : bas a b = false := by
  unfold bas
  rw [decide_eq_false_iff_not]
  intro e
  have := congrArg (fun l => l[k]?) e
  simp only [List.getElem?_map, List.getElem?_eq_getElem ha, List.getElem?_eq_getElem hb, Option.map_some, Option.some.injEq] at this
  exact h this

theorem bas_len {a b : List Vis} (h : a.length ≠ b.length) : bas a b = false := by
  unfold bas
  rw [decide_eq_false_iff_not]
  intro e
  have := congrArg List.length e
  simp at this
  exact h this

theorem keys_take_succ {a b : List Vis} {k : Nat} (ha : k < a.length) (hb : k < b.length) (h : (a.take k).map Vis.key = (b.take k).map Vis.key) (e : a[k].i = b[k].i ∧ a[k].j = b[k].j) : (a.take (k + 1)).map Vis.key = (b.take (k + 1)).map Vis.key := by
  rw [List.take_succ_eq_append_getElem ha, List.take_succ_eq_append_getElem hb, List.map_append, List.map_append, h]
  simp [Vis.key, e.1, e.2]

theorem k_bas (a b : List Vis) (hn : a.length ≤ 1000000) : Ret Try.prog 40 [sl a, sl b] [] (.p (bl (bas a b))) := by
  refine ret (fn := Try.f40) (by kernel_rfl) (by kernel_rfl) rfl ?_
  refine ⟨fun h1 => ?_, fun h1 => ?_⟩
  · simp at h1
    rw [bas_len (by omega)]; rfl
  simp at h1
  refine ⟨Nat, { inv := fun k => k ≤ a.length ∧ ((a.take k).map Vis.key = (b.take k).map Vis.key), slots := [(14, fun k => i64 k)],  mu := fun k => a.length - k }, 0, ⟨⟨rfl, trivial⟩, trivial, (by repeat' first | exact trivial | rfl | apply And.intro), Nat.zero_le _, by simp⟩, ?_⟩
  intro k ⟨hk, hall⟩
  refine ⟨fun h2 => ?_, fun h2 => ?_⟩
  · simp at h2
    have h2' : k < b.length := by omega
    refine ⟨k, rfl, h2, by decide, _, idx h2, rfl, ?_⟩
    refine ⟨k, rfl, h2', by decide, _, idx h2', rfl, ?_⟩
    refine ⟨fun h3 => ?_, fun h3 => ?_⟩
    rotate_left
    · simp at h3
      rw [bas_ne h2 h2' (key_ne (.inl h3))]; rfl
    simp at h3
    refine ⟨k, rfl, h2', by decide, _, idx h2', rfl, ?_⟩
    refine ⟨fun h4 => ?_, fun h4 => ?_⟩
    · simp at h4
      rw [bas_ne h2 h2' (key_ne (.inr h4))]; rfl
    · simp at h4
      refine ⟨k + 1, by show _ < _; simp; omega, ⟨rfl, rfl⟩, ⟨by show PV.v (.int _ _) = _; rw [succ_w (by omega)], trivial⟩, trivial, (by repeat' first | exact trivial | rfl | apply And.intro), h2, keys_take_succ h2 h2' hall ⟨h3, h4⟩⟩
  · simp at h2
    have e1 : k = a.length := by omega
    have e2 : k = b.length := by omega
    rw [e1, List.take_length, ← e1, e2, List.take_length] at hall
    rw [bas, hall]
    show SV.p (bl true) = _
    simp

theorem r_bas (a b : List Vis) (hn : a.length ≤ 1000000) : Ret Try.prog 42 [sl a, sl b] [] (.p (bl (bas a b))) := by
  refine ret (fn := Try.f42) (by kernel_rfl) (by kernel_rfl) rfl ?_
  refine ⟨fun h1 => ?_, fun h1 => ?_⟩
  · simp at h1
    rw [bas_len (by omega)]; rfl
  simp at h1
  refine ⟨Nat, { inv := fun k => k ≤ a.length ∧ ((a.take k).map Vis.key = (b.take k).map Vis.key), slots := [(5, fun k => i64 k)],  mu := fun k => a.length - k }, 0, ⟨⟨rfl, trivial⟩, trivial, (by repeat' first | exact trivial | rfl | apply And.intro), Nat.zero_le _, by simp⟩, ?_⟩
  intro k ⟨hk, hall⟩
  refine ⟨fun h2 => ?_, fun h2 => ?_⟩
  · simp at h2
    have h2' : k < b.length := by omega
    refine ⟨k, rfl, h2, by decide, _, idx h2, rfl, ?_⟩
    refine ⟨k, rfl, h2', by decide, _, idx h2', rfl, ?_⟩
    refine ⟨fun h3 => ?_, fun h3 => ?_⟩
    rotate_left
    · simp at h3
      rw [bas_ne h2 h2' (key_ne (.inl h3))]; rfl
    simp at h3
    refine ⟨k, rfl, h2, by decide, _, idx h2, rfl, ?_⟩
    refine ⟨k, rfl, h2', by decide, _, idx h2', rfl, ?_⟩
    refine ⟨fun h4 => ?_, fun h4 => ?_⟩
    · simp at h4
      rw [bas_ne h2 h2' (key_ne (.inr h4))]; rfl
    · simp at h4
      refine ⟨k + 1, by show _ < _; simp; omega, ⟨rfl, rfl⟩, ⟨by show PV.v (.int _ _) = _; rw [succ_w (by omega)], trivial⟩, trivial, (by repeat' first | exact trivial | rfl | apply And.intro), h2, keys_take_succ h2 h2' hall ⟨h3, h4⟩⟩
  · simp at h2
    have e1 : k = a.length := by omega
    have e2 : k = b.length := by omega
    rw [e1, List.take_length, ← e1, e2, List.take_length] at hall
    rw [bas, hall]
    show SV.p (bl true) = _
    simp

theorem bas_comm (a b : List Vis) : bas a b = bas b a := by
  unfold bas
  rw [decide_eq_decide]
  exact ⟨Eq.symm, Eq.symm⟩

theorem bas_refl (a : List Vis) : bas a a = true := by simp [bas]

theorem k_check35 (s : List (List Vis)) (hs : ∀ l ∈ s, ∀ v ∈ l, Enc.ok v) : Ret Try.prog 17 [sl s] [] (.p (i64 (ck35 s))) := by
  refine ret (fn := Try.f17) (by kernel_rfl) (by kernel_rfl) rfl ?_
  refine ⟨fun h1 => ?_, fun h1 => ?_⟩
  · simp at h1
    rw [ck35, if_pos (by omega)]; rfl
  simp at h1
  have hlen : s.length ≤ 32 := by omega
  refine ⟨Nat, { inv := fun k => k ≤ s.length ∧ (∀ l ∈ s.take k, ck27 l = 0), slots := [(13, fun k => i64 k)],  mu := fun k => s.length - k }, 0, ⟨⟨rfl, trivial⟩, trivial, trivial, Nat.zero_le _, by simp⟩, ?_⟩
  intro k ⟨hk, hall⟩
  refine ⟨fun h2 => ?_, fun h2 => ?_⟩
  · simp at h2
    refine ⟨k, rfl, h2, by decide, _, idx h2, rfl, ?_⟩
    refine ⟨[], _, l_check s[k] (hs _ (List.getElem_mem h2)), rfl, ?_⟩
    refine ⟨fun h3 => ?_, fun h3 => ?_⟩
    · simp at h3
      have hf := ferr_bad h2 hall h3
      rw [ck35, if_neg (by omega), if_pos (by rw [hf]; exact h3), hf]; rfl
    · simp at h3
      refine ⟨k + 1, by show _ < _; simp; omega, ⟨rfl, rfl⟩, ⟨by show PV.v (.int _ _) = _; rw [succ_w (by omega)], trivial⟩, trivial, trivial, h2, ?_⟩
      intro l hl
      rw [List.take_succ_eq_append_getElem h2, List.mem_append] at hl
      rcases hl with hl | hl
      · exact hall l hl
      · simp at hl; subst hl; exact h3
  simp at h2
  have : k = s.length := by omega
  subst this
  rw [List.take_length] at hall
  have hf := ferr_0 hall
  refine ⟨Nat, { inv := fun k => k ≤ s.length ∧ (∀ l ∈ s.take k, bas l (s.headD []) = true), slots := [(25, fun k => i64 k)],  mu := fun k => s.length - k }, 0, ⟨⟨rfl, trivial⟩, trivial, trivial, Nat.zero_le _, by simp⟩, ?_⟩
  intro k ⟨hk, hb⟩
  refine ⟨fun h4 => ?_, fun h4 => ?_⟩
  · simp at h4
    have h0 : 0 < s.length := by omega
    have e0 : s.headD [] = s[0] := by cases s with | nil => simp at h0 | cons a r => rfl
    have hl64 := (ck27_0 (hall _ (List.getElem_mem h4))).1
    refine ⟨k, rfl, h4, by decide, _, idx h4, rfl, ?_⟩
    refine ⟨0, rfl, h0, by decide, _, idx h0, rfl, ?_⟩
    refine ⟨[], _, k_bas s[k] s[0] (by omega), rfl, ?_⟩
    refine ⟨fun h5 => ?_, fun h5 => ?_⟩
    · simp at h5
      rw [ck35_8 hlen hf h4 (by rw [e0]; exact h5)]; rfl
    · simp at h5
      refine ⟨k + 1, by show _ < _; simp; omega, ⟨rfl, rfl⟩, ⟨by show PV.v (.int _ _) = _; rw [succ_w (by omega)], trivial⟩, trivial, trivial, h4, ?_⟩
      intro l hl
      rw [List.take_succ_eq_append_getElem h4, List.mem_append] at hl
      rcases hl with hl | hl
      · exact hb l hl
      · simp at hl; subst hl; rw [e0]; exact h5
  · simp at h4
    have : k = s.length := by omega
    subst this
    rw [List.take_length] at hb
    rw [ck35_0 hlen hf hb]; rfl

theorem r_check35 (s : List (List Vis)) : Ret Try.prog 18 [sl s] [] (.p (i64 (ck35 s))) := by
  refine ret (fn := Try.f18) (by kernel_rfl) (by kernel_rfl) rfl ?_
  refine ⟨fun h1 => ?_, fun h1 => ?_⟩
  · simp at h1
    rw [ck35, if_pos (by omega)]; rfl
  simp at h1
  have hlen : s.length ≤ 32 := by omega
  refine ⟨Nat, { inv := fun k => k ≤ s.length ∧ (∀ l ∈ s.take k, ck27 l = 0), slots := [(3, fun k => i64 k)],  mu := fun k => s.length - k }, 0, ⟨⟨rfl, trivial⟩, trivial, trivial, Nat.zero_le _, by simp⟩, ?_⟩
  intro k ⟨hk, hall⟩
  refine ⟨fun h2 => ?_, fun h2 => ?_⟩
  · simp at h2
    refine ⟨k, rfl, h2, by decide, _, idx h2, rfl, ?_⟩
    refine ⟨[], _, r_check27 s[k], rfl, ?_⟩
    refine ⟨fun h3 => ?_, fun h3 => ?_⟩
    · simp at h3
      have hf := ferr_bad h2 hall h3
      rw [ck35, if_neg (by omega), if_pos (by rw [hf]; exact h3), hf]; rfl
    · simp at h3
      refine ⟨k + 1, by show _ < _; simp; omega, ⟨rfl, rfl⟩, ⟨by show PV.v (.int _ _) = _; rw [succ_w (by omega)], trivial⟩, trivial, trivial, h2, ?_⟩
      intro l hl
      rw [List.take_succ_eq_append_getElem h2, List.mem_append] at hl
      rcases hl with hl | hl
      · exact hall l hl
      · simp at hl; subst hl; exact h3
  simp at h2
  have : k = s.length := by omega
  subst this
  rw [List.take_length] at hall
  have hf := ferr_0 hall
  refine ⟨Nat, { inv := fun k => 1 ≤ k ∧ ∀ l ∈ s.take k, bas l (s.headD []) = true, slots := [(5, fun k => i64 k)], mu := fun k => s.length - k }, 1, ⟨⟨rfl, trivial⟩, trivial, trivial, Nat.le_refl _, ?_⟩, ?_⟩
  · intro l hl
    cases s with
    | nil => simp at hl
    | cons a r => simp at hl; subst hl; exact bas_refl _
  intro k ⟨hk1, hb⟩
  refine ⟨fun h4 => ?_, fun h4 => ?_⟩
  · simp at h4
    have h0 : 0 < s.length := by omega
    have e0 : s.headD [] = s[0] := by cases s with | nil => simp at h0 | cons a r => rfl
    have hl64 := (ck27_0 (hall _ (List.getElem_mem h0))).1
    refine ⟨0, rfl, h0, by decide, _, idx h0, rfl, ?_⟩
    refine ⟨k, rfl, h4, by decide, _, idx h4, rfl, ?_⟩
    refine ⟨_, r_bas s[0] s[k] (by omega), rfl, ?_⟩
    refine ⟨fun h5 => ?_, fun h5 => ?_⟩
    · simp at h5
      rw [ck35_8 hlen hf h4 (by rw [e0, bas_comm]; exact h5)]; rfl
    · simp at h5
      refine ⟨k + 1, by show _ < _; simp; omega, ⟨rfl, rfl⟩, ⟨by show PV.v (.int _ _) = _; rw [succ_w (by omega)], trivial⟩, trivial, trivial, by omega, ?_⟩
      intro l hl
      rw [List.take_succ_eq_append_getElem h4, List.mem_append] at hl
      rcases hl with hl | hl
      · exact hb l hl
      · simp at hl; subst hl; rw [e0, bas_comm]; exact h5
  · simp at h4
    rw [List.take_of_length_le (by omega)] at hb
    rw [ck35_0 hlen hf hb]; rfl

theorem succ_wB {k : Nat} (h : k < 9223372036854775807) : IntKind.i64.wrap ((k : Int) + 1) = ((k + 1 : Nat) : Int) := by
  rw [wrap_id (by omega) (by omega)]; simp

theorem r_great35 (s : List (List Vis)) (hs : s.length ≤ 9223372036854775807) : Ret Try.prog 15 [sl s] [] (.p (bl (great s))) := by
  refine ret (fn := Try.f15) (by kernel_rfl) (by kernel_rfl) rfl ?_
  have yes : ∀ k, (hk : k < s.length) → (20 < s[k].length ∧ s[k].length ≤ 64 ∨ 100 < s[k].length) → great s = true := fun k hk h => by
    unfold great
    rw [Bool.or_eq_true]
    refine .inl (List.any_eq_true.2 ⟨s[k], List.getElem_mem hk, by simpa using h⟩)
  refine ⟨Nat, { inv := fun k => k ≤ s.length ∧ ((s.take k).any (fun l => decide (20 < l.length ∧ l.length ≤ 64 ∨ 100 < l.length)) = false), slots := [(3, fun k => i64 k)],  mu := fun k => s.length - k }, 0, ⟨⟨rfl, trivial⟩, trivial, trivial, Nat.zero_le _, by simp⟩, ?_⟩
  intro k ⟨hk, hall⟩
  have next : (hk : k < s.length) → ¬ (20 < s[k].length ∧ s[k].length ≤ 64 ∨ 100 < s[k].length) → (s.take (k + 1)).any (fun l => decide (20 < l.length ∧ l.length ≤ 64 ∨ 100 < l.length)) = false := fun hk h => by
    rw [List.take_succ_eq_append_getElem hk, List.any_append, hall]
    simp only [List.any_cons, List.any_nil, Bool.or_false, Bool.false_or, decide_eq_false_iff_not]
    exact h
  refine ⟨fun h2 => ?_, fun h2 => ?_⟩
  · simp at h2
    refine ⟨k, rfl, h2, by decide, _, idx h2, rfl, ?_⟩
    refine ⟨fun h3 => ?_, fun h3 => ?_⟩
    · refine ⟨k, rfl, h2, by decide, _, idx h2, rfl, ?_⟩
      simp at h3
      refine ⟨fun h4 => ?_, fun h4 => ?_⟩
      rotate_left
      · simp at h4
        rw [yes k h2 (by omega)]; rfl
      simp at h4
      refine ⟨k, rfl, h2, by decide, _, idx h2, rfl, ?_⟩
      refine ⟨fun h5 => ?_, fun h5 => ?_⟩
      · simp at h5
        rw [yes k h2 (by omega)]; rfl
      · simp at h5
        refine ⟨k + 1, by show _ < _; simp; omega, ⟨rfl, rfl⟩, ⟨by show PV.v (.int _ _) = _; rw [succ_wB (by omega)], trivial⟩, trivial, trivial, h2, next h2 (by omega)⟩
    · simp at h3
      refine ⟨k, rfl, h2, by decide, _, idx h2, rfl, ?_⟩
      refine ⟨fun h5 => ?_, fun h5 => ?_⟩
      · simp at h5
        rw [yes k h2 (by omega)]; rfl
      · simp at h5
        refine ⟨k + 1, by show _ < _; simp; omega, ⟨rfl, rfl⟩, ⟨by show PV.v (.int _ _) = _; rw [succ_wB (by omega)], trivial⟩, trivial, trivial, h2, next h2 (by omega)⟩
  · simp at h2
    have : k = s.length := by omega
    subst this
    rw [List.take_length] at hall
    have e : great s = decide (8 < s.length ∧ s.length ≤ 32 ∨ 40 < s.length) := by unfold great; rw [hall, Bool.false_or]
    rw [e]
    refine ⟨fun h3 => ?_, fun h3 => ?_⟩
    · simp at h3
      refine ⟨fun h4 => ?_, fun h4 => ?_⟩
      rotate_left
      · simp at h4
        show SV.p (.v (.bool true)) = _
        congr 3
        rw [eq_comm, decide_eq_true_eq]; omega
      simp at h4
      show SV.p (bl _) = _
      congr 3
      apply propext; omega
    · simp at h3
      show SV.p (bl _) = _
      congr 3
      apply propext; omega
end Go.Pv
