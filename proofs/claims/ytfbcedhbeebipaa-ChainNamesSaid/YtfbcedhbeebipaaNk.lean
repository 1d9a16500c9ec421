/- Contracts of the reference's comparisons of chains, Great. -/
import Derived.Test.YtfbcedhbeebipaaNj
import Derived.Test.YtfbcedhbeebipaaPlChainGm
namespace Go.Pv
open Go.Vc
open Go.Proofs
set_option maxRecDepth 10000

theorem eqPL_cxN (a b : Cx) : eqPL (Enc.cs a) (Enc.cs b) = decide (a = b) := eqPL_cx a b
theorem eqPL_jnN0 (a b : Jn) : eqPL [i64 a.a.re, i64 a.a.im, i64 a.a.den, i64 a.b.re, i64 a.b.im, i64 a.b.den, i64 a.c.re, i64 a.c.im, i64 a.c.den, i64 a.d.re, i64 a.d.im, i64 a.d.den] [i64 b.a.re, i64 b.a.im, i64 b.a.den, i64 b.b.re, i64 b.b.im, i64 b.b.den, i64 b.c.re, i64 b.c.im, i64 b.c.den, i64 b.d.re, i64 b.d.im, i64 b.d.den] = decide (a = b) := by
  obtain ⟨⟨a1, a2, a3⟩, ⟨a4, a5, a6⟩, ⟨a7, a8, a9⟩, ⟨a10, a11, a12⟩⟩ := a
  obtain ⟨⟨b1, b2, b3⟩, ⟨b4, b5, b6⟩, ⟨b7, b8, b9⟩, ⟨b10, b11, b12⟩⟩ := b
  rw [Bool.eq_iff_iff]
  simp [eqPL, eqP]
  omega
theorem eqPL_jnN (a b : Jn) : eqPL (Enc.cs a) (Enc.cs b) = decide (a = b) := eqPL_jnN0 a b

theorem r_sameN (xs ys : List Cx) (hn : xs.length ≤ 1000000) : Ret Try.prog 43 [sl xs, sl ys] [] (.p (bl (decide (xs = ys)))) := by
  refine ret (fn := Try.f43) (by kernel_rfl) (by kernel_rfl) rfl ?_
  refine ⟨fun h1 => ?_, fun h1 => ?_⟩
  · show SV.p (bl _) = _
    simp at h1
    have : xs ≠ ys := by rintro rfl; exact h1 rfl
    simp [this]
  · simp at h1
    refine ⟨Nat, { inv := fun k => k ≤ xs.length ∧ xs.take k = ys.take k, slots := [(5, fun k => i64 k)], mu := fun k => xs.length - k }, 0, ⟨⟨rfl, trivial⟩, trivial, trivial, Nat.zero_le _, by simp⟩, ?_⟩
    intro k ⟨hk, hall⟩
    refine ⟨fun h2 => ?_, fun h2 => ?_⟩
    · simp at h2
      have h2' : k < ys.length := by omega
      refine ⟨k, rfl, h2, by decide, _, idx h2, rfl, ?_⟩
      refine ⟨k, rfl, h2', by decide, _, idx h2', rfl, ?_⟩
      have e := eqPL_cxN xs[k] ys[k]
      refine ⟨fun h3 => ?_, fun h3 => ?_⟩
      · show SV.p (bl _) = _
        have h3 : (!eqPL (Enc.cs xs[k]) (Enc.cs ys[k])) = true := h3
        rw [e] at h3
        simp at h3
        have : xs ≠ ys := by rintro rfl; exact h3 rfl
        simp [this]
      · have h3 : (!eqPL (Enc.cs xs[k]) (Enc.cs ys[k])) = false := h3
        rw [e] at h3
        simp at h3
        refine ⟨k + 1, by show _ < _; simp; omega, ⟨rfl, rfl⟩, ⟨?_, trivial⟩, trivial, trivial, h2, ?_⟩
        · show PV.v (.int _ _) = _
          rw [succ_w (by omega)]
        · rw [List.take_succ_eq_append_getElem h2, List.take_succ_eq_append_getElem h2', hall, h3]
    · simp at h2
      have e1 : k = xs.length := by omega
      have e2 : k = ys.length := by omega
      rw [e1, List.take_length, ← e1, e2, List.take_length] at hall
      show SV.p (bl _) = _
      simp [hall]


theorem r_sameM (xs ys : List Jn) (hn : xs.length ≤ 1000000) : Ret Try.prog 44 [sl xs, sl ys] [] (.p (bl (decide (xs = ys)))) := by
  refine ret (fn := Try.f44) (by kernel_rfl) (by kernel_rfl) rfl ?_
  refine ⟨fun h1 => ?_, fun h1 => ?_⟩
  · show SV.p (bl _) = _
    simp at h1
    have : xs ≠ ys := by rintro rfl; exact h1 rfl
    simp [this]
  · simp at h1
    refine ⟨Nat, { inv := fun k => k ≤ xs.length ∧ xs.take k = ys.take k, slots := [(5, fun k => i64 k)], mu := fun k => xs.length - k }, 0, ⟨⟨rfl, trivial⟩, trivial, trivial, Nat.zero_le _, by simp⟩, ?_⟩
    intro k ⟨hk, hall⟩
    refine ⟨fun h2 => ?_, fun h2 => ?_⟩
    · simp at h2
      have h2' : k < ys.length := by omega
      refine ⟨k, rfl, h2, by decide, _, idx h2, rfl, ?_⟩
      refine ⟨k, rfl, h2', by decide, _, idx h2', rfl, ?_⟩
      have e := eqPL_jnN xs[k] ys[k]
      refine ⟨fun h3 => ?_, fun h3 => ?_⟩
      · show SV.p (bl _) = _
        have h3 : (!eqPL (Enc.cs xs[k]) (Enc.cs ys[k])) = true := h3
        rw [e] at h3
        simp at h3
        have : xs ≠ ys := by rintro rfl; exact h3 rfl
        simp [this]
      · have h3 : (!eqPL (Enc.cs xs[k]) (Enc.cs ys[k])) = false := h3
        rw [e] at h3
        simp at h3
        refine ⟨k + 1, by show _ < _; simp; omega, ⟨rfl, rfl⟩, ⟨?_, trivial⟩, trivial, trivial, h2, ?_⟩
        · show PV.v (.int _ _) = _
          rw [succ_w (by omega)]
        · rw [List.take_succ_eq_append_getElem h2, List.take_succ_eq_append_getElem h2', hall, h3]
    · simp at h2
      have e1 : k = xs.length := by omega
      have e2 : k = ys.length := by omega
      rw [e1, List.take_length, ← e1, e2, List.take_length] at hall
      show SV.p (bl _) = _
      simp [hall]


theorem r_sameFull (x y : List (List Jn)) (h1 : x.length ≤ 1000000) (h2 : ∀ r ∈ x, r.length ≤ 1000000) : Ret Try.prog 45 [sl x, sl y] [] (.p (bl (decide (x = y)))) := by
  refine ret (fn := Try.f45) (by kernel_rfl) (by kernel_rfl) rfl ?_
  refine ⟨fun h3 => ?_, fun h3 => ?_⟩
  · simp at h3
    have : x ≠ y := by rintro rfl; exact h3 rfl
    show SV.p (bl false) = _
    simp [this]
  simp at h3
  refine ⟨Nat, { inv := fun k => k ≤ x.length ∧ (x.take k = y.take k), slots := [(5, fun k => i64 k)],  mu := fun k => x.length - k }, 0, ⟨⟨rfl, trivial⟩, trivial, trivial, Nat.zero_le _, by simp⟩, ?_⟩
  intro k ⟨hk, hall⟩
  refine ⟨fun h4 => ?_, fun h4 => ?_⟩
  · simp at h4
    have h4' : k < y.length := by omega
    refine ⟨k, rfl, h4, by decide, _, idx h4, rfl, ?_⟩
    refine ⟨k, rfl, h4', by decide, _, idx h4', rfl, ?_⟩
    refine ⟨_, r_sameM x[k] y[k] (h2 _ (List.getElem_mem h4)), rfl, ?_⟩
    refine ⟨fun h5 => ?_, fun h5 => ?_⟩
    · simp at h5
      have : x ≠ y := by rintro rfl; exact h5 rfl
      show SV.p (bl false) = _
      simp [this]
    · simp at h5
      refine ⟨k + 1, by show _ < _; simp; omega, ⟨rfl, rfl⟩, ⟨by show PV.v (.int _ _) = _; rw [succ_w (by omega)], trivial⟩, trivial, trivial, h4, ?_⟩
      rw [List.take_succ_eq_append_getElem h4, List.take_succ_eq_append_getElem h4', hall, h5]
  · simp at h4
    have e1 : k = x.length := by omega
    have e2 : k = y.length := by omega
    rw [e1, List.take_length, ← e1, e2, List.take_length] at hall
    show SV.p (bl true) = _
    simp [hall]

set_option maxHeartbeats 4000000 in
theorem r_sameStage (a b : Stg) (hs : a.small) : Ret Try.prog 19 [stg a, stg b] [] (.p (bl (decide (a = b)))) := by
  obtain ⟨g1, g2, g3, g4, g5, g6, g7⟩ := hs
  have bad : a ≠ b → SV.p (bl false) = SV.p (bl (decide (a = b))) := fun h => by rw [decide_eq_false h]
  refine ret (fn := Try.f19) (by kernel_rfl) (by kernel_rfl) rfl ?_
  refine ⟨fun h1 => ?_, fun h1 => ?_⟩
  rotate_left
  · simp at h1
    exact bad fun e => h1 (by rw [e])
  simp at h1
  refine ⟨[], _, r_sameN a.gains b.gains g1, rfl, ?_⟩
  refine ⟨fun h2 => ?_, fun h2 => ?_⟩
  rotate_left
  · simp at h2
    exact bad fun e => h2 (by rw [e])
  simp at h2
  refine ⟨fun h3 => ?_, fun h3 => ?_⟩
  rotate_left
  · simp at h3
    exact bad fun e => h3 (by rw [e])
  simp at h3
  refine ⟨[], _, r_sameM a.mats b.mats g3, rfl, ?_⟩
  refine ⟨fun h4 => ?_, fun h4 => ?_⟩
  rotate_left
  · simp at h4
    exact bad fun e => h4 (by rw [e])
  simp at h4
  refine ⟨fun h5 => ?_, fun h5 => ?_⟩
  rotate_left
  · simp at h5
    exact bad fun e => h5 (by rw [e])
  simp at h5
  refine ⟨[], _, r_sameFull a.full b.full g5 g7, rfl, ?_⟩
  refine ⟨fun h6 => ?_, fun h6 => ?_⟩
  · simp at h6
    exact bad fun e => h6 (by rw [e])
  simp at h6
  refine ⟨Nat, { inv := fun k => k ≤ a.band.length ∧ (a.band.take k = b.band.take k), slots := [(5, fun k => i64 k)],  mu := fun k => a.band.length - k }, 0, ⟨⟨rfl, trivial⟩, trivial, (by repeat' first | exact trivial | rfl | apply And.intro), Nat.zero_le _, by simp⟩, ?_⟩
  intro k ⟨hk, hall⟩
  refine ⟨fun h7 => ?_, fun h7 => ?_⟩
  · simp at h7
    have h7' : k < b.band.length := by omega
    refine ⟨k, rfl, h7, by decide, _, idx h7, rfl, ?_⟩
    refine ⟨k, rfl, h7', by decide, _, idx h7', rfl, ?_⟩
    refine ⟨_, r_sameN a.band[k] b.band[k] (g6 _ (List.getElem_mem h7)), rfl, ?_⟩
    refine ⟨fun h8 => ?_, fun h8 => ?_⟩
    · simp at h8
      exact bad fun e => h8 (by subst e; rfl)
    · simp at h8
      refine ⟨k + 1, by show _ < _; simp; omega, ⟨rfl, rfl⟩, ⟨by show PV.v (.int _ _) = _; rw [succ_w (by omega)], trivial⟩, trivial, (by repeat' first | exact trivial | rfl | apply And.intro), h7, ?_⟩
      rw [List.take_succ_eq_append_getElem h7, List.take_succ_eq_append_getElem h7', hall, h8]
  simp at h7
  have e1 : k = a.band.length := by omega
  have e2 : k = b.band.length := by omega
  rw [e1, List.take_length, ← e1, e2, List.take_length] at hall
  refine ⟨Nat, { inv := fun k => k ≤ a.turns.length ∧ (a.turns.take k = b.turns.take k), slots := [(6, fun k => i64 k)],  mu := fun k => a.turns.length - k }, 0, ⟨⟨rfl, trivial⟩, trivial, (by repeat' first | exact trivial | rfl | apply And.intro), Nat.zero_le _, by simp⟩, ?_⟩
  intro k ⟨hk, hall2⟩
  refine ⟨fun h8 => ?_, fun h8 => ?_⟩
  · simp at h8
    have h8' : k < b.turns.length := by omega
    refine ⟨k, rfl, h8, by decide, _, idx h8, rfl, ?_⟩
    refine ⟨k, rfl, h8', by decide, _, idx h8', rfl, ?_⟩
    refine ⟨fun h9 => ?_, fun h9 => ?_⟩
    · simp at h9
      exact bad fun e => h9 (by subst e; rfl)
    · simp at h9
      refine ⟨k + 1, by show _ < _; simp; omega, ⟨rfl, rfl⟩, ⟨by show PV.v (.int _ _) = _; rw [succ_w (by omega)], trivial⟩, trivial, (by repeat' first | exact trivial | rfl | apply And.intro), h8, ?_⟩
      rw [List.take_succ_eq_append_getElem h8, List.take_succ_eq_append_getElem h8', hall2, h9]
  simp at h8
  have e3 : k = a.turns.length := by omega
  have e4 : k = b.turns.length := by omega
  rw [e3, List.take_length, ← e3, e4, List.take_length] at hall2
  show SV.p (bl true) = _
  rw [decide_eq_true (show a = b by obtain ⟨_, _, _, _, _, _⟩ := a; obtain ⟨_, _, _, _, _, _⟩ := b; simp at h1 h2 h4 h6 hall hall2; simp [h1, h2, h4, h6, hall, hall2])]

theorem r_same34 (x y : List Stg) (h1 : x.length ≤ 1000000) (h2 : ∀ s ∈ x, s.small) : Ret Try.prog 30 [sl x, sl y] [] (.p (bl (decide (x = y)))) := by
  refine ret (fn := Try.f30) (by kernel_rfl) (by kernel_rfl) rfl ?_
  refine ⟨fun h3 => ?_, fun h3 => ?_⟩
  · simp at h3
    have : x ≠ y := by rintro rfl; exact h3 rfl
    show SV.p (bl false) = _
    simp [this]
  simp at h3
  refine ⟨Nat, { inv := fun k => k ≤ x.length ∧ (x.take k = y.take k), slots := [(5, fun k => i64 k)],  mu := fun k => x.length - k }, 0, ⟨⟨rfl, trivial⟩, trivial, trivial, Nat.zero_le _, by simp⟩, ?_⟩
  intro k ⟨hk, hall⟩
  refine ⟨fun h4 => ?_, fun h4 => ?_⟩
  · simp at h4
    have h4' : k < y.length := by omega
    refine ⟨k, rfl, h4, by decide, _, idx h4, rfl, ?_⟩
    refine ⟨k, rfl, h4', by decide, _, idx h4', rfl, ?_⟩
    refine ⟨_, r_sameStage x[k] y[k] (h2 _ (List.getElem_mem h4)), rfl, ?_⟩
    refine ⟨fun h5 => ?_, fun h5 => ?_⟩
    · simp at h5
      have : x ≠ y := by rintro rfl; exact h5 rfl
      show SV.p (bl false) = _
      simp [this]
    · simp at h5
      refine ⟨k + 1, by show _ < _; simp; omega, ⟨rfl, rfl⟩, ⟨by show PV.v (.int _ _) = _; rw [succ_w (by omega)], trivial⟩, trivial, trivial, h4, ?_⟩
      rw [List.take_succ_eq_append_getElem h4, List.take_succ_eq_append_getElem h4', hall, h5]
  · simp at h4
    have e1 : k = x.length := by omega
    have e2 : k = y.length := by omega
    rw [e1, List.take_length, ← e1, e2, List.take_length] at hall
    show SV.p (bl true) = _
    simp [hall]

theorem r_sameCubes (x y : List Cube) (h1 : x.length ≤ 1000000) (h2 : ∀ c ∈ x, c.v.length ≤ 1000000) : Ret Try.prog 20 [sl x, sl y] [] (.p (bl (decide (x = y)))) := by
  refine ret (fn := Try.f20) (by kernel_rfl) (by kernel_rfl) rfl ?_
  refine ⟨fun h3 => ?_, fun h3 => ?_⟩
  · simp at h3
    have : x ≠ y := by rintro rfl; exact h3 rfl
    show SV.p (bl false) = _
    simp [this]
  simp at h3
  refine ⟨Nat, { inv := fun k => k ≤ x.length ∧ (x.take k = y.take k), slots := [(5, fun k => i64 k)],  mu := fun k => x.length - k }, 0, ⟨⟨rfl, trivial⟩, trivial, trivial, Nat.zero_le _, by simp⟩, ?_⟩
  intro k ⟨hk, hall⟩
  refine ⟨fun h4 => ?_, fun h4 => ?_⟩
  · simp at h4
    have h4' : k < y.length := by omega
    have bad : x[k] ≠ y[k] → SV.p (bl false) = SV.p (bl (decide (x = y))) := fun h => by
      have : x ≠ y := by rintro rfl; exact h rfl
      simp [this]
    refine ⟨k, rfl, h4, by decide, _, idx h4, rfl, ?_⟩
    refine ⟨k, rfl, h4', by decide, _, idx h4', rfl, ?_⟩
    refine ⟨fun h5 => ?_, fun h5 => ?_⟩
    rotate_left
    · simp at h5
      exact bad fun h => h5 (by rw [h])
    simp at h5
    refine ⟨k, rfl, h4, by decide, _, idx h4, rfl, ?_⟩
    refine ⟨k, rfl, h4', by decide, _, idx h4', rfl, ?_⟩
    refine ⟨fun h6 => ?_, fun h6 => ?_⟩
    rotate_left
    · simp at h6
      exact bad fun h => h6 (by rw [h])
    simp at h6
    refine ⟨k, rfl, h4, by decide, _, idx h4, rfl, ?_⟩
    refine ⟨k, rfl, h4', by decide, _, idx h4', rfl, ?_⟩
    refine ⟨_, r_sameM x[k].v y[k].v (h2 _ (List.getElem_mem h4)), rfl, ?_⟩
    refine ⟨fun h7 => ?_, fun h7 => ?_⟩
    · simp at h7
      exact bad fun h => h7 (by rw [h])
    simp at h7
    refine ⟨k + 1, by show _ < _; simp; omega, ⟨rfl, rfl⟩, ⟨by show PV.v (.int _ _) = _; rw [succ_w (by omega)], trivial⟩, trivial, trivial, h4, ?_⟩
    rw [List.take_succ_eq_append_getElem h4, List.take_succ_eq_append_getElem h4', hall]
    have : x[k] = y[k] := by
      revert h5 h6 h7
      generalize x[k] = p
      generalize y[k] = q
      intro h5 h6 h7
      obtain ⟨_, _, _⟩ := p
      obtain ⟨_, _, _⟩ := q
      simp at h5 h6 h7
      simp [h5, h6, h7]
    rw [this]
  · simp at h4
    have e1 : k = x.length := by omega
    have e2 : k = y.length := by omega
    rw [e1, List.take_length, ← e1, e2, List.take_length] at hall
    show SV.p (bl true) = _
    simp [hall]

set_option maxHeartbeats 4000000 in
theorem r_great34 (l : List Stg) (cs : List Cube) (hl : l.length ≤ 9223372036854775807) (hc : cs.length ≤ 9223372036854775807) : Ret Try.prog 26 [sl l, sl cs] [] (.p (bl (decide (gr34 l cs)))) := by
  have yes : gr34 l cs → SV.p (bl true) = SV.p (bl (decide (gr34 l cs))) := fun h => by rw [decide_eq_true h]
  refine ret (fn := Try.f26) (by kernel_rfl) (by kernel_rfl) rfl ?_
  refine ⟨Nat, { inv := fun k => k ≤ l.length ∧ (∀ s ∈ l.take k, ¬ s.big), slots := [(5, fun k => i64 k)],  mu := fun k => l.length - k }, 0, ⟨⟨rfl, trivial⟩, trivial, trivial, Nat.zero_le _, by simp⟩, ?_⟩
  intro k ⟨hk, hall⟩
  refine ⟨fun h1 => ?_, fun h1 => ?_⟩
  · simp at h1
    have big : l[k].big → SV.p (bl true) = SV.p (bl (decide (gr34 l cs))) := fun h => yes (.inl ⟨_, List.getElem_mem h1, h⟩)
    refine ⟨k, rfl, h1, by decide, _, idx h1, rfl, ?_⟩
    refine ⟨fun h2 => ?_, fun h2 => ?_⟩
    rotate_left
    · simp at h2
      exact big (.inl (by omega))
    refine ⟨fun h3 => ?_, fun h3 => ?_⟩
    rotate_left
    · simp at h3
      exact big (.inr (.inl (by omega)))
    refine ⟨fun h4 => ?_, fun h4 => ?_⟩
    rotate_left
    · simp at h4
      exact big (.inr (.inr (.inl (by omega))))
    refine ⟨fun h5 => ?_, fun h5 => ?_⟩
    rotate_left
    · simp at h5
      exact big (.inr (.inr (.inr (.inl (by omega)))))
    refine ⟨fun h6 => ?_, fun h6 => ?_⟩
    · simp at h6
      exact big (.inr (.inr (.inr (.inr (by omega)))))
    simp at h2 h3 h4 h5 h6
    refine ⟨k + 1, by show _ < _; simp; omega, ⟨rfl, rfl⟩, ⟨by show PV.v (.int _ _) = _; rw [succ_w3 (by omega)], trivial⟩, trivial, (by repeat' first | exact trivial | rfl | apply And.intro), h1, ?_⟩
    intro r hr
    rw [List.take_succ_eq_append_getElem h1, List.mem_append] at hr
    rcases hr with hr | hr
    · exact hall r hr
    · simp at hr; subst hr
      unfold Stg.big; omega
  simp at h1
  have : k = l.length := by omega
  subst this
  rw [List.take_length] at hall
  refine ⟨fun h3 => ?_, fun h3 => ?_⟩
  rotate_left
  · simp at h3
    exact yes (.inr (.inl (by omega)))
  simp at h3
  show SV.p (bl (decide _)) = SV.p (bl (decide (gr34 l cs)))
  have e : gr34 l cs ↔ 70 < cs.length := by
    constructor
    · rintro (⟨r, hr, h⟩ | h | h)
      · exact absurd h (hall r hr)
      · omega
      · exact h
    · exact fun h => .inr (.inr h)
  simp only [e]
  congr 3
  simp
  omega

theorem same1 {x : Stg} (h : x.small) : Ret Try.prog 19 [stg x, stg x] [] (.p (bl true)) := by
  have := r_sameStage x x h
  simpa using this
theorem same2 {x : List Stg} (h1 : x.length ≤ 1000000) (h2 : ∀ s ∈ x, s.small) : Ret Try.prog 30 [sl x, sl x] [] (.p (bl true)) := by
  have := r_same34 x x h1 h2
  simpa using this
theorem same3 {x : List Cube} (h1 : x.length ≤ 1000000) (h2 : ∀ c ∈ x, c.v.length ≤ 1000000) : Ret Try.prog 20 [sl x, sl x] [] (.p (bl true)) := by
  have := r_sameCubes x x h1 h2
  simpa using this
end Go.Pv
