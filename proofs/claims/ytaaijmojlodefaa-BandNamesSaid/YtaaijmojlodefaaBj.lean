/- Contracts of the reference's functions over bandpasses: Great, Same, spectra. -/
import Derived.Test.YtaaijmojlodefaaBi
namespace Go.Pv
open Go.Vc
open Go.Proofs
set_option maxRecDepth 10000

theorem r_great32 (b : List (List Cx)) (l : List Spec) (hb : b.length ≤ 9223372036854775807) (hl : l.length ≤ 9223372036854775807) : Ret Try.prog 10 [sl b, sl l] [] (.p (bl (decide (gr32 b l)))) := by
  have yes : gr32 b l → SV.p (bl true) = SV.p (bl (decide (gr32 b l))) := fun h => by simp [h]
  refine ret (fn := Try.f10) (by kernel_rfl) (by kernel_rfl) rfl ?_
  refine ⟨Nat, { inv := fun k => k ≤ b.length ∧ (∀ r ∈ b.take k, r.length ≤ 70), slots := [(5, fun k => i64 k)],  mu := fun k => b.length - k }, 0, ⟨⟨rfl, trivial⟩, trivial, trivial, Nat.zero_le _, by simp⟩, ?_⟩
  intro k ⟨hk, hall⟩
  refine ⟨fun h1 => ?_, fun h1 => ?_⟩
  · simp at h1
    refine ⟨k, rfl, h1, by decide, _, idx h1, rfl, ?_⟩
    refine ⟨fun h2 => ?_, fun h2 => ?_⟩
    · simp at h2
      exact yes (.inl ⟨_, List.getElem_mem h1, by omega⟩)
    · simp at h2
      refine ⟨k + 1, by show _ < _; simp; omega, ⟨rfl, rfl⟩, ⟨by show PV.v (.int _ _) = _; rw [succ_w3 (by omega)], trivial⟩, trivial, trivial, h1, ?_⟩
      intro r hr
      rw [List.take_succ_eq_append_getElem h1, List.mem_append] at hr
      rcases hr with hr | hr
      · exact hall r hr
      · simp at hr; subst hr; omega
  simp at h1
  have : k = b.length := by omega
  subst this
  rw [List.take_length] at hall
  refine ⟨Nat, { inv := fun k => k ≤ l.length ∧ (∀ s ∈ l.take k, s.v.length ≤ 70), slots := [(6, fun k => i64 k)],  mu := fun k => l.length - k }, 0, ⟨⟨rfl, trivial⟩, trivial, trivial, Nat.zero_le _, by simp⟩, ?_⟩
  intro k ⟨hk, hall2⟩
  refine ⟨fun h1 => ?_, fun h1 => ?_⟩
  · simp at h1
    refine ⟨k, rfl, h1, by decide, _, idx h1, rfl, ?_⟩
    refine ⟨fun h2 => ?_, fun h2 => ?_⟩
    · simp at h2
      exact yes (.inr (.inl ⟨_, List.getElem_mem h1, by omega⟩))
    · simp at h2
      refine ⟨k + 1, by show _ < _; simp; omega, ⟨rfl, rfl⟩, ⟨by show PV.v (.int _ _) = _; rw [succ_w3 (by omega)], trivial⟩, trivial, trivial, h1, ?_⟩
      intro r hr
      rw [List.take_succ_eq_append_getElem h1, List.mem_append] at hr
      rcases hr with hr | hr
      · exact hall2 r hr
      · simp at hr; subst hr; omega
  simp at h1
  have : k = l.length := by omega
  subst this
  rw [List.take_length] at hall2
  refine ⟨fun h3 => ?_, fun h3 => ?_⟩
  rotate_left
  · simp at h3
    exact yes (.inr (.inr (.inl (by omega))))
  simp at h3
  show SV.p (bl (decide _)) = SV.p (bl (decide (gr32 b l)))
  have e : gr32 b l ↔ 70 < l.length := by
    constructor
    · rintro (⟨r, hr, h⟩ | ⟨r, hr, h⟩ | h | h)
      · have := hall r hr; omega
      · have := hall2 r hr; omega
      · omega
      · exact h
    · exact fun h => .inr (.inr (.inr h))
  simp only [e]
  congr 3
  simp
  omega

theorem eqPL_cxB (a b : Cx) : eqPL (Enc.cs a) (Enc.cs b) = decide (a = b) := eqPL_cx a b

theorem r_sameB (xs ys : List Cx) (hn : xs.length ≤ 1000000) : Ret Try.prog 53 [sl xs, sl ys] [] (.p (bl (decide (xs = ys)))) := by
  refine ret (fn := Try.f53) (by kernel_rfl) (by kernel_rfl) rfl ?_
  refine ⟨fun h1 => ?_, fun h1 => ?_⟩
  · show SV.p (bl _) = _
    simp at h1
    have : xs ≠ ys := by rintro rfl; exact h1 rfl
    simp [this]
  · simp at h1
    refine ⟨Nat, { inv := fun k => k ≤ xs.length ∧ xs.take k = ys.take k, slots := [(5, fun k => i64 k)], mu := fun k => xs.length - k }, 0, ⟨⟨rfl, trivial⟩, trivial, trivial, Nat.zero_le _, by simp⟩, ?_⟩
    intro k ⟨hk, hall⟩
    refine ⟨fun h2 => ?_, fun h2 => ?_⟩
    · simp at h2
      have h2' : k < ys.length := by omega
      refine ⟨k, rfl, h2, by decide, _, idx h2, rfl, ?_⟩
      refine ⟨k, rfl, h2', by decide, _, idx h2', rfl, ?_⟩
      have e := eqPL_cxB xs[k] ys[k]
      refine ⟨fun h3 => ?_, fun h3 => ?_⟩
      · show SV.p (bl _) = _
        have h3 : (!eqPL (Enc.cs xs[k]) (Enc.cs ys[k])) = true := h3
        rw [e] at h3
        simp at h3
        have : xs ≠ ys := by rintro rfl; exact h3 rfl
        simp [this]
      · have h3 : (!eqPL (Enc.cs xs[k]) (Enc.cs ys[k])) = false := h3
        rw [e] at h3
        simp at h3
        refine ⟨k + 1, by show _ < _; simp; omega, ⟨rfl, rfl⟩, ⟨?_, trivial⟩, trivial, trivial, h2, ?_⟩
        · show PV.v (.int _ _) = _
          rw [succ_w (by omega)]
        · rw [List.take_succ_eq_append_getElem h2, List.take_succ_eq_append_getElem h2', hall, h3]
    · simp at h2
      have e1 : k = xs.length := by omega
      have e2 : k = ys.length := by omega
      rw [e1, List.take_length, ← e1, e2, List.take_length] at hall
      show SV.p (bl _) = _
      simp [hall]


theorem r_same32 (x y : List (List Cx)) (h1 : x.length ≤ 1000000) (h2 : ∀ r ∈ x, r.length ≤ 1000000) : Ret Try.prog 21 [sl x, sl y] [] (.p (bl (decide (x = y)))) := by
  refine ret (fn := Try.f21) (by kernel_rfl) (by kernel_rfl) rfl ?_
  refine ⟨fun h3 => ?_, fun h3 => ?_⟩
  · simp at h3
    have : x ≠ y := by rintro rfl; exact h3 rfl
    show SV.p (bl false) = _
    simp [this]
  simp at h3
  refine ⟨Nat, { inv := fun k => k ≤ x.length ∧ (x.take k = y.take k), slots := [(5, fun k => i64 k)],  mu := fun k => x.length - k }, 0, ⟨⟨rfl, trivial⟩, trivial, trivial, Nat.zero_le _, by simp⟩, ?_⟩
  intro k ⟨hk, hall⟩
  refine ⟨fun h4 => ?_, fun h4 => ?_⟩
  · simp at h4
    have h4' : k < y.length := by omega
    refine ⟨k, rfl, h4, by decide, _, idx h4, rfl, ?_⟩
    refine ⟨k, rfl, h4', by decide, _, idx h4', rfl, ?_⟩
    refine ⟨_, r_sameB x[k] y[k] (h2 _ (List.getElem_mem h4)), rfl, ?_⟩
    refine ⟨fun h5 => ?_, fun h5 => ?_⟩
    · simp at h5
      have : x ≠ y := by rintro rfl; exact h5 rfl
      show SV.p (bl false) = _
      simp [this]
    · simp at h5
      refine ⟨k + 1, by show _ < _; simp; omega, ⟨rfl, rfl⟩, ⟨by show PV.v (.int _ _) = _; rw [succ_w (by omega)], trivial⟩, trivial, trivial, h4, ?_⟩
      rw [List.take_succ_eq_append_getElem h4, List.take_succ_eq_append_getElem h4', hall, h5]
  · simp at h4
    have e1 : k = x.length := by omega
    have e2 : k = y.length := by omega
    rw [e1, List.take_length, ← e1, e2, List.take_length] at hall
    show SV.p (bl true) = _
    simp [hall]

theorem r_sameSp (x y : List Spec) (h1 : x.length ≤ 1000000) (h2 : ∀ s ∈ x, s.v.length ≤ 1000000) : Ret Try.prog 28 [sl x, sl y] [] (.p (bl (decide (x = y)))) := by
  refine ret (fn := Try.f28) (by kernel_rfl) (by kernel_rfl) rfl ?_
  refine ⟨fun h3 => ?_, fun h3 => ?_⟩
  · simp at h3
    have : x ≠ y := by rintro rfl; exact h3 rfl
    show SV.p (bl false) = _
    simp [this]
  simp at h3
  refine ⟨Nat, { inv := fun k => k ≤ x.length ∧ (x.take k = y.take k), slots := [(5, fun k => i64 k)],  mu := fun k => x.length - k }, 0, ⟨⟨rfl, trivial⟩, trivial, trivial, Nat.zero_le _, by simp⟩, ?_⟩
  intro k ⟨hk, hall⟩
  refine ⟨fun h4 => ?_, fun h4 => ?_⟩
  · simp at h4
    have h4' : k < y.length := by omega
    have bad : x[k] ≠ y[k] → SV.p (bl false) = SV.p (bl (decide (x = y))) := fun h => by
      have : x ≠ y := by rintro rfl; exact h rfl
      simp [this]
    refine ⟨k, rfl, h4, by decide, _, idx h4, rfl, ?_⟩
    refine ⟨k, rfl, h4', by decide, _, idx h4', rfl, ?_⟩
    refine ⟨fun h5 => ?_, fun h5 => ?_⟩
    rotate_left
    · simp at h5
      exact bad fun h => h5 (by rw [h])
    simp at h5
    refine ⟨k, rfl, h4, by decide, _, idx h4, rfl, ?_⟩
    refine ⟨k, rfl, h4', by decide, _, idx h4', rfl, ?_⟩
    refine ⟨fun h6 => ?_, fun h6 => ?_⟩
    rotate_left
    · simp at h6
      exact bad fun h => h6 (by rw [h])
    simp at h6
    refine ⟨k, rfl, h4, by decide, _, idx h4, rfl, ?_⟩
    refine ⟨k, rfl, h4', by decide, _, idx h4', rfl, ?_⟩
    refine ⟨fun h7 => ?_, fun h7 => ?_⟩
    rotate_left
    · simp at h7
      exact bad fun h => h7 (by rw [h])
    simp at h7
    refine ⟨k, rfl, h4, by decide, _, idx h4, rfl, ?_⟩
    refine ⟨k, rfl, h4', by decide, _, idx h4', rfl, ?_⟩
    refine ⟨_, r_sameB x[k].v y[k].v (h2 _ (List.getElem_mem h4)), rfl, ?_⟩
    refine ⟨fun h8 => ?_, fun h8 => ?_⟩
    · simp at h8
      exact bad fun h => h8 (by rw [h])
    · simp at h8
      refine ⟨k + 1, by show _ < _; simp; omega, ⟨rfl, rfl⟩, ⟨by show PV.v (.int _ _) = _; rw [succ_w (by omega)], trivial⟩, trivial, trivial, h4, ?_⟩
      have e : x[k] = y[k] := by
        cases hx : x[k] with | mk a b c d =>
        cases hy : y[k] with | mk a' b' c' d' =>
        simp only [hx, hy] at h5 h6 h7 h8
        subst h5 h6 h7 h8
        rfl
      rw [List.take_succ_eq_append_getElem h4, List.take_succ_eq_append_getElem h4', hall, e]
  · simp at h4
    have e1 : k = x.length := by omega
    have e2 : k = y.length := by omega
    rw [e1, List.take_length, ← e1, e2, List.take_length] at hall
    show SV.p (bl true) = _
    simp [hall]

theorem r_seen32 (s : Spec) (n m : Int) (hl : s.v.length ≤ 9223372036854775807) : Ret Try.prog 61 [sp s, i64 n, i64 m] [] (.p (bl (decide (s.good n m)))) := by
  have bad : ¬ s.good n m → SV.p (bl false) = SV.p (bl (decide (s.good n m))) := fun h => by simp [h]
  refine ret (fn := Try.f61) (by kernel_rfl) (by kernel_rfl) rfl ?_
  refine ⟨fun h1 => ?_, fun h1 => ?_⟩
  rotate_left
  · simp at h1
    exact bad fun h => by have := h.1; omega
  simp at h1
  refine ⟨fun h2 => ?_, fun h2 => ?_⟩
  rotate_left
  · simp at h2
    exact bad fun h => by have := h.2.1; omega
  simp at h2
  refine ⟨fun h3 => ?_, fun h3 => ?_⟩
  rotate_left
  · simp at h3
    exact bad fun h => by have := h.2.2.1; omega
  simp at h3
  refine ⟨fun h4 => ?_, fun h4 => ?_⟩
  rotate_left
  · simp at h4
    exact bad fun h => by have := h.2.2.2.1; omega
  simp at h4
  refine ⟨fun h5 => ?_, fun h5 => ?_⟩
  · simp at h5
    exact bad fun h => h5 h.2.2.2.2.1
  simp at h5
  refine ⟨Nat, { inv := fun k => k ≤ s.v.length ∧ (∀ c ∈ s.v.take k, c.valid), slots := [(7, fun k => i64 k)],  mu := fun k => s.v.length - k }, 0, ⟨⟨rfl, trivial⟩, trivial, (by repeat' first | exact trivial | rfl | apply And.intro), Nat.zero_le _, by simp⟩, ?_⟩
  intro k ⟨hk, hall⟩
  refine ⟨fun h6 => ?_, fun h6 => ?_⟩
  · have h6 : decide ((k : Int) < m) = true := h6
    rw [← h5] at h6
    simp at h6
    refine ⟨k, rfl, h6, by decide, _, idx h6, rfl, ?_⟩
    refine ⟨[], _, r_check s.v[k], rfl, ?_⟩
    refine ⟨fun h7 => ?_, fun h7 => ?_⟩
    · rw [chk_ne] at h7
      exact bad fun h => h7 (h.2.2.2.2.2 _ (List.getElem_mem h6))
    · rw [chk_eq] at h7
      refine ⟨k + 1, by show _ < _; simp; omega, ⟨rfl, rfl⟩, ⟨by show PV.v (.int _ _) = _; rw [succ_w3 (by omega)], trivial⟩, trivial, (by repeat' first | exact trivial | rfl | apply And.intro), h6, ?_⟩
      intro c hc
      rw [List.take_succ_eq_append_getElem h6, List.mem_append] at hc
      rcases hc with hc | hc
      · exact hall c hc
      · simp at hc; subst hc; exact h7
  · have h6 : decide ((k : Int) < m) = false := h6
    rw [← h5] at h6
    simp at h6
    have : k = s.v.length := by omega
    subst this
    rw [List.take_length] at hall
    have : s.good n m := ⟨h1, h2, h3, h4, h5, hall⟩
    show SV.p (bl true) = _
    simp [this]

theorem r_all32 (l : List Spec) (n m : Int) (hv : ∀ s ∈ l, s.v.length ≤ 9223372036854775807) : Ret Try.prog 31 [sl l, i64 n, i64 m] [] (.p (i64 (all32 l n m))) := by
  refine ret (fn := Try.f31) (by kernel_rfl) (by kernel_rfl) rfl ?_
  refine ⟨fun h1 => ?_, fun h1 => ?_⟩
  · simp at h1
    rw [all32, if_pos (by omega)]; rfl
  simp at h1
  refine ⟨Nat, { inv := fun k => k ≤ l.length ∧ (∀ s ∈ l.take k, s.good n m), slots := [(7, fun k => i64 k)],  mu := fun k => l.length - k }, 0, ⟨⟨rfl, trivial⟩, trivial, trivial, Nat.zero_le _, by simp⟩, ?_⟩
  intro k ⟨hk, hall⟩
  refine ⟨fun h2 => ?_, fun h2 => ?_⟩
  · simp at h2
    refine ⟨k, rfl, h2, by decide, _, idx h2, rfl, ?_⟩
    refine ⟨[], _, r_seen32 l[k] n m (hv _ (List.getElem_mem h2)), rfl, ?_⟩
    refine ⟨fun h3 => ?_, fun h3 => ?_⟩
    · simp at h3
      show SV.p (i64 8) = _
      rw [all32_8 (by omega) (List.getElem_mem h2) h3]
    · simp at h3
      refine ⟨k + 1, by show _ < _; simp; omega, ⟨rfl, rfl⟩, ⟨by show PV.v (.int _ _) = _; rw [succ_w (by omega)], trivial⟩, trivial, trivial, h2, ?_⟩
      intro c hc
      rw [List.take_succ_eq_append_getElem h2, List.mem_append] at hc
      rcases hc with hc | hc
      · exact hall c hc
      · simp at hc; subst hc; exact h3
  · simp at h2
    have : k = l.length := by omega
    subst this
    rw [List.take_length] at hall
    show SV.p (i64 0) = _
    rw [all32, if_neg (by omega), if_pos hall]
end Go.Pv
