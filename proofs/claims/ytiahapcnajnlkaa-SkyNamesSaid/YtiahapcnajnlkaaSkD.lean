/- Contracts of the sky's functions: See, Turned and the reference's. -/
import Derived.Test.YtiahapcnajnlkaaSkC
namespace Go.Pv
open Go.Vc
open Go.Proofs
set_option maxRecDepth 10000

/-- Visibilities in a row of the call's own. -/
abbrev rowV (xs : List Vis) : Obs := [.row 47 6 xs.length false (flat xs)]
/-- Visibilities and an error. -/
abbrev resV (r : List Vis × Int) : SV := .tup [.p (sl r.1), .p (i64 r.2)]

theorem seen_sum_bound {p : List Place} {l : List Lamp} (h : check l = 0) (i j : Nat) (k : Nat) : (-16000 ≤ sre p i j (l.take k) ∧ sre p i j (l.take k) ≤ 16000) ∧ (-16000 ≤ sim p i j (l.take k) ∧ sim p i j (l.take k) ≤ 16000) := by
  obtain ⟨hlen, hrng⟩ := check_0 h
  have hb := sre_bound p i j (l.take k) fun s hs => (hrng s (List.mem_of_mem_take hs)).2.2.2.2
  rw [List.length_take] at hb
  omega

theorem skySee (p : List Place) (l : List Lamp) : Ret Try.prog 18 [sl p, sl l] (rowV (see p l).1) (.tup [.ob 0, .p (i64 (see p l).2)]) := by
  refine ret (fn := Try.f18) (by kernel_rfl) (by kernel_rfl) rfl ?_
  refine ⟨[], _, skyPlaces p, rfl, ?_⟩
  refine ⟨fun h1 => ?_, fun h1 => ?_⟩
  · simp at h1
    have e : both41 p l = places p := by rw [both41, if_pos h1]
    rw [see, e, if_pos h1]
    exact ⟨⟨rfl, rfl⟩, rfl, rfl⟩
  simp at h1
  have e : both41 p l = check l := by rw [both41, if_neg (by simp [h1])]
  refine ⟨[], _, skyCheck l, rfl, ?_⟩
  refine ⟨fun h2 => ?_, fun h2 => ?_⟩
  · simp at h2
    rw [see, e, if_pos h2]
    exact ⟨⟨rfl, rfl⟩, rfl, rfl⟩
  simp at h2
  obtain ⟨hn8, hn2, hpl⟩ := places_0 h1
  obtain ⟨hlen, hrng⟩ := check_0 h2
  refine ⟨Nat, { inv := fun i => i ≤ p.length, slots := [(27, fun i => i64 i)], rows := [(8, 47, 6, fun i => ((prsTo p.length i).map (vis1 p l 0 0)).length, fun i => flat ((prsTo p.length i).map (vis1 p l 0 0)))], mu := fun i => p.length - i }, 0, ⟨⟨rfl, trivial⟩, ⟨⟨rfl, rfl⟩, trivial⟩, trivial, Nat.zero_le _⟩, ?_⟩
  intro i hi
  refine ⟨fun h3 => ?_, fun h3 => ?_⟩
  · simp at h3
    refine ⟨Nat, { inv := fun j => i + 1 ≤ j ∧ j ≤ p.length, slots := [(10, fun j => i64 j)], rows := [(8, 47, 6, fun j => ((prsTo p.length i ++ rowTo i j).map (vis1 p l 0 0)).length, fun j => flat ((prsTo p.length i ++ rowTo i j).map (vis1 p l 0 0)))], mu := fun j => p.length - j }, i + 1, ⟨⟨?_, trivial⟩, ⟨?_, trivial⟩, (by repeat' first | exact trivial | rfl | apply And.intro), Nat.le_refl _, by omega⟩, ?_⟩
    · show PV.v (.int _ _) = _
      rw [succ_w (by omega)]
    · have er : prsTo p.length i ++ rowTo i (i + 1) = prsTo p.length i := by rw [rowTo_0, List.append_nil]
      exact ⟨by show _ = ((prsTo p.length i ++ rowTo i (i + 1)).map (vis1 p l 0 0)).length; rw [er], by show _ = flat ((prsTo p.length i ++ rowTo i (i + 1)).map (vis1 p l 0 0)); rw [er]⟩
    intro j ⟨hj1, hj2⟩
    refine ⟨fun h4 => ?_, fun h4 => ?_⟩
    · simp at h4
      refine ⟨Nat, { inv := fun k => k ≤ l.length, slots := [(41, fun k => i64 k)], boxes := [(2, fun k => [i64 (sre p i j (l.take k)), i64 (sim p i j (l.take k)), i64 1])], mu := fun k => l.length - k }, 0, ⟨⟨rfl, trivial⟩, trivial, (by repeat' first | exact trivial | rfl | apply And.intro), Nat.zero_le _⟩, ?_⟩
      intro k hk
      refine ⟨fun h5 => ?_, fun h5 => ?_⟩
      · simp at h5
        have hr := hrng l[k] (List.getElem_mem h5)
        refine ⟨k, rfl, h5, by decide, _, idx h5, rfl, ?_⟩
        refine ⟨_, skyQuarters hpl h3 h4 (x := l[k].x) (y := l[k].y) (by omega) (by omega), rfl, ?_⟩
        refine ⟨_, skyTurn ⟨l[k].f, 0, 1⟩ (qs p i j l[k].x l[k].y) ⟨by unfold fits; simp only; omega, by unfold fits; simp only; omega⟩, rfl, ?_⟩
        have hb := seen_sum_bound h2 (p := p) i j k
        have hb1 := seen1_bound p i j hr.2.2.2.2
        refine ⟨k + 1, by show _ < _; simp; omega, ⟨rfl, rfl⟩, ⟨by show PV.v (.int _ _) = _; rw [succ_w (by omega)], trivial⟩, trivial, ?_, h5⟩
        refine ⟨trivial, ⟨rfl, rfl⟩, ?_, trivial⟩
        show [SV.p (i64 (IntKind.i64.wrap (sre p i j (l.take k) + (seen1 p i j l[k]).1))), SV.p (i64 (IntKind.i64.wrap (sim p i j (l.take k) + (seen1 p i j l[k]).2))), SV.p (i64 1)] = [SV.p (i64 _), SV.p (i64 _), SV.p (i64 1)]
        rw [List.take_succ_eq_append_getElem h5, sre_snoc, sim_snoc, wrap_id (by omega) (by omega), wrap_id (by omega) (by omega)]
      · simp at h5
        have : k = l.length := by simp only at hk; omega
        subst this
        have hm := prsTo_le (Nat.le_of_lt h3) hn8
        have hr' := rowTo_length i j
        refine ⟨⟨by show ((prsTo p.length i ++ rowTo i j).map (vis1 p l 0 0)).length + 1 ≤ _; simp; omega, by show (((prsTo p.length i ++ rowTo i j).map (vis1 p l 0 0)).length + 1) * 48 ≤ _; simp; omega⟩, ?_⟩
        refine ⟨j + 1, by show _ < _; simp; omega, ⟨rfl, rfl⟩, ⟨?_, trivial⟩, ⟨⟨?_, ?_⟩, trivial⟩, (by repeat' first | exact trivial | rfl | apply And.intro), by omega, by omega⟩
        · show PV.v (.int _ _) = _
          rw [succ_w (by omega)]
        · show _ + 1 = ((prsTo p.length i ++ rowTo i (j + 1)).map (vis1 p l 0 0)).length
          rw [rowTo_succ (by omega)]; simp; omega
        · show _ ++ _ = flat ((prsTo p.length i ++ rowTo i (j + 1)).map (vis1 p l 0 0))
          rw [rowTo_succ (by omega), ← List.append_assoc, List.map_append (l₂ := [(i, j)]), List.map_singleton, flat_snoc, vis1_0]
          congr 1
          rw [List.take_length]; rfl
    · simp at h4
      have : j = p.length := by omega
      subst this
      refine ⟨i + 1, by show _ < _; simp; omega, ⟨rfl, rfl⟩, ⟨?_, trivial⟩, ⟨⟨?_, ?_⟩, trivial⟩, (by repeat' first | exact trivial | rfl | apply And.intro), h3⟩
      · show PV.v (.int _ _) = _
        rw [succ_w (by omega)]
      · show _ = ((prsTo p.length (i + 1)).map (vis1 p l 0 0)).length
        rw [prsTo_succ]
      · show _ = flat ((prsTo p.length (i + 1)).map (vis1 p l 0 0))
        rw [prsTo_succ]
  · simp at h3
    have : i = p.length := by simp only at hi; omega
    subst this
    rw [see, if_neg (by rw [e, h2]; simp)]
    exact ⟨⟨rfl, rfl⟩, rfl, rfl⟩

theorem refSeen {p : List Place} {l : List Lamp} (h1 : places p = 0) (h2 : check l = 0) {i j : Nat} (h3 : i < p.length) (h4 : j < p.length) : Ret Try.prog 45 [sl p, sl l, i64 i, i64 j] [] (.p (gs (sre p i j l, sim p i j l))) := by
  refine ret (fn := Try.f45) (by kernel_rfl) (by kernel_rfl) rfl ?_
  obtain ⟨hn8, hn2, hpl⟩ := places_0 h1
  obtain ⟨hlen, hrng⟩ := check_0 h2
  refine ⟨Nat, { inv := fun k => k ≤ l.length, slots := [(10, fun k => i64 k)], boxes := [(1, fun k => [i64 (sre p i j (l.take k)), i64 (sim p i j (l.take k))])], mu := fun k => l.length - k }, 0, ⟨⟨rfl, trivial⟩, trivial, (by repeat' first | exact trivial | rfl | apply And.intro), Nat.zero_le _⟩, ?_⟩
  intro k hk
  refine ⟨fun h5 => ?_, fun h5 => ?_⟩
  · simp at h5
    have hr := hrng l[k] (List.getElem_mem h5)
    refine ⟨k, rfl, h5, by decide, _, idx h5, rfl, ?_⟩
    refine ⟨k, rfl, h5, by decide, _, idx h5, rfl, ?_⟩
    refine ⟨k, rfl, h5, by decide, _, idx h5, rfl, ?_⟩
    refine ⟨_, refQuarters hpl h3 h4 (x := l[k].x) (y := l[k].y) (by omega) (by omega), rfl, ?_⟩
    refine ⟨_, refTurn (l[k].f, 0) (qs p i j l[k].x l[k].y) ⟨by unfold fits; simp only; omega, by unfold fits; simp only; omega⟩, rfl, ?_⟩
    have hb := seen_sum_bound h2 (p := p) i j k
    have hb1 := seen1_bound p i j hr.2.2.2.2
    refine ⟨k + 1, by show _ < _; simp; omega, ⟨rfl, rfl⟩, ⟨by show PV.v (.int _ _) = _; rw [succ_w (by omega)], trivial⟩, trivial, ?_, h5⟩
    refine ⟨rfl, ?_, trivial⟩
    show [SV.p (i64 (IntKind.i64.wrap (sre p i j (l.take k) + (seen1 p i j l[k]).1))), SV.p (i64 (IntKind.i64.wrap (sim p i j (l.take k) + (seen1 p i j l[k]).2)))] = [SV.p (i64 _), SV.p (i64 _)]
    rw [List.take_succ_eq_append_getElem h5, sre_snoc, sim_snoc, wrap_id (by omega) (by omega), wrap_id (by omega) (by omega)]
  · simp at h5
    have : k = l.length := by simp only at hk; omega
    subst this
    show SV.p (.agg [i64 (sre p i j (l.take l.length)), i64 (sim p i j (l.take l.length))]) = _
    rw [List.take_length]

theorem refTurned {p : List Place} {l : List Lamp} (h1 : places p = 0) (h2 : check l = 0) {x y : Int} (hx : -8 ≤ x ∧ x ≤ 8) (hy : -8 ≤ y ∧ y ≤ 8) : Ret Try.prog 39 [sl p, sl l, i64 x, i64 y] [] (.p (sl (turned p l x y))) := by
  refine ret (fn := Try.f39) (by kernel_rfl) (by kernel_rfl) rfl ?_
  obtain ⟨hn8, hn2, hpl⟩ := places_0 h1
  refine ⟨Nat, { inv := fun i => i ≤ p.length, slots := [(10, fun i => i64 i)], rows := [(9, 47, 6, fun i => ((prsTo p.length i).map (vis1 p l x y)).length, fun i => flat ((prsTo p.length i).map (vis1 p l x y)))], mu := fun i => p.length - i }, 0, ⟨⟨rfl, trivial⟩, ⟨⟨rfl, rfl⟩, trivial⟩, trivial, Nat.zero_le _⟩, ?_⟩
  intro i hi
  refine ⟨fun h3 => ?_, fun h3 => ?_⟩
  · simp at h3
    refine ⟨Nat, { inv := fun j => i + 1 ≤ j ∧ j ≤ p.length, slots := [(11, fun j => i64 j)], rows := [(9, 47, 6, fun j => ((prsTo p.length i ++ rowTo i j).map (vis1 p l x y)).length, fun j => flat ((prsTo p.length i ++ rowTo i j).map (vis1 p l x y)))], mu := fun j => p.length - j }, i + 1, ⟨⟨?_, trivial⟩, ⟨?_, trivial⟩, (by repeat' first | exact trivial | rfl | apply And.intro), Nat.le_refl _, by omega⟩, ?_⟩
    · show PV.v (.int _ _) = _
      rw [succ_w (by omega)]
    · have er : prsTo p.length i ++ rowTo i (i + 1) = prsTo p.length i := by rw [rowTo_0, List.append_nil]
      exact ⟨by show _ = ((prsTo p.length i ++ rowTo i (i + 1)).map (vis1 p l x y)).length; rw [er], by show _ = flat ((prsTo p.length i ++ rowTo i (i + 1)).map (vis1 p l x y)); rw [er]⟩
    intro j ⟨hj1, hj2⟩
    refine ⟨fun h4 => ?_, fun h4 => ?_⟩
    · simp at h4
      have hb := seen_sum_bound h2 (p := p) i j l.length
      rw [List.take_length] at hb
      refine ⟨[], _, refSeen h1 h2 h3 h4, rfl, ?_⟩
      refine ⟨[], _, refQuarters hpl h3 h4 hx hy, rfl, ?_⟩
      refine ⟨[], _, refTurn (sre p i j l, sim p i j l) (qs p i j x y) (by unfold fits; simp only; omega), rfl, ?_⟩
      have hm := prsTo_le (Nat.le_of_lt h3) hn8
      have hr' := rowTo_length i j
      refine ⟨⟨by show ((prsTo p.length i ++ rowTo i j).map (vis1 p l x y)).length + 1 ≤ _; simp; omega, by show (((prsTo p.length i ++ rowTo i j).map (vis1 p l x y)).length + 1) * 48 ≤ _; simp; omega⟩, ?_⟩
      refine ⟨j + 1, by show _ < _; simp; omega, ⟨rfl, rfl⟩, ⟨?_, trivial⟩, ⟨⟨?_, ?_⟩, trivial⟩, (by repeat' first | exact trivial | rfl | apply And.intro), by omega, by omega⟩
      · show PV.v (.int _ _) = _
        rw [succ_w (by omega)]
      · show _ + 1 = ((prsTo p.length i ++ rowTo i (j + 1)).map (vis1 p l x y)).length
        rw [rowTo_succ (by omega)]; simp; omega
      · show _ ++ _ = flat ((prsTo p.length i ++ rowTo i (j + 1)).map (vis1 p l x y))
        rw [rowTo_succ (by omega), ← List.append_assoc, List.map_append (l₂ := [(i, j)]), List.map_singleton, flat_snoc]
        rfl
    · simp at h4
      have : j = p.length := by omega
      subst this
      refine ⟨i + 1, by show _ < _; simp; omega, ⟨rfl, rfl⟩, ⟨?_, trivial⟩, ⟨⟨?_, ?_⟩, trivial⟩, (by repeat' first | exact trivial | rfl | apply And.intro), h3⟩
      · show PV.v (.int _ _) = _
        rw [succ_w (by omega)]
      · show _ = ((prsTo p.length (i + 1)).map (vis1 p l x y)).length
        rw [prsTo_succ]
      · show _ = flat ((prsTo p.length (i + 1)).map (vis1 p l x y))
        rw [prsTo_succ]
  · simp at h3
    have : i = p.length := by simp only at hi; omega
    subst this
    rfl

theorem refSee (p : List Place) (l : List Lamp) : Ret Try.prog 23 [sl p, sl l] [] (resV (see p l)) := by
  refine ret (fn := Try.f23) (by kernel_rfl) (by kernel_rfl) rfl ?_
  refine ⟨[], _, refBoth p l, rfl, ?_⟩
  refine ⟨fun h1 => ?_, fun h1 => ?_⟩
  · simp at h1
    rw [see, if_pos h1]; rfl
  · simp at h1
    obtain ⟨hp, hl⟩ := both_0 h1
    refine ⟨[], _, refTurned hp hl (x := 0) (y := 0) (by omega) (by omega), rfl, ?_⟩
    rw [see, if_neg (by simp [h1])]; rfl

theorem refTurnd (p : List Place) (l : List Lamp) (x y : Int) : Ret Try.prog 25 [sl p, sl l, i64 x, i64 y] [] (resV (turnd p l x y)) := by
  refine ret (fn := Try.f25) (by kernel_rfl) (by kernel_rfl) rfl ?_
  refine ⟨[], _, refBoth p l, rfl, ?_⟩
  refine ⟨fun h1 => ?_, fun h1 => ?_⟩
  · simp at h1
    rw [turnd, if_pos h1]; rfl
  simp at h1
  obtain ⟨hp, hl⟩ := both_0 h1
  have no : ¬ (-8 ≤ x ∧ x ≤ 8 ∧ -8 ≤ y ∧ y ≤ 8) → turnd p l x y = ([], 2) := fun h => by rw [turnd, if_neg (by simp [h1]), if_neg h]
  refine ⟨[], _, refIn _ _ _, rfl, ?_⟩
  refine ⟨fun h2 => ?_, fun h2 => ?_⟩
  · refine ⟨[], _, refIn _ _ _, rfl, ?_⟩
    refine ⟨fun h3 => ?_, fun h3 => ?_⟩
    · simp at h2 h3
      rw [no (by omega)]; rfl
    · simp at h2 h3
      refine ⟨[], _, refTurned hp hl (x := x) (y := y) (by omega) (by omega), rfl, ?_⟩
      rw [turnd, if_neg (by simp [h1]), if_pos (by omega)]; rfl
  · simp at h2
    rw [no (by omega)]; rfl

theorem refSameVis (xs ys : List Vis) (hn : xs.length ≤ 1000000) : Ret Try.prog 20 [sl xs, sl ys] [] (.p (bl (decide (xs = ys)))) := by
  refine ret (fn := Try.f20) (by kernel_rfl) (by kernel_rfl) rfl ?_
  refine ⟨fun h1 => ?_, fun h1 => ?_⟩
  · show SV.p (bl _) = _
    simp at h1
    have : xs ≠ ys := by rintro rfl; exact h1 rfl
    simp [this]
  · simp at h1
    refine ⟨Nat, { inv := fun k => k ≤ xs.length ∧ xs.take k = ys.take k, slots := [(5, fun k => i64 k)], mu := fun k => xs.length - k }, 0, ⟨⟨rfl, trivial⟩, trivial, trivial, Nat.zero_le _, by simp⟩, ?_⟩
    intro k ⟨hk, hall⟩
    refine ⟨fun h2 => ?_, fun h2 => ?_⟩
    · simp at h2
      have h2' : k < ys.length := by omega
      refine ⟨k, rfl, h2, by decide, _, idx h2, rfl, ?_⟩
      refine ⟨k, rfl, h2', by decide, _, idx h2', rfl, ?_⟩
      have e := eqPL_vi xs[k] ys[k]
      refine ⟨fun h3 => ?_, fun h3 => ?_⟩
      · show SV.p (bl _) = _
        have h3 : (!eqPL (Enc.cs xs[k]) (Enc.cs ys[k])) = true := h3
        rw [e] at h3
        simp at h3
        have : xs ≠ ys := by rintro rfl; exact h3 rfl
        simp [this]
      · have h3 : (!eqPL (Enc.cs xs[k]) (Enc.cs ys[k])) = false := h3
        rw [e] at h3
        simp at h3
        refine ⟨k + 1, by show _ < _; simp; omega, ⟨rfl, rfl⟩, ⟨?_, trivial⟩, trivial, trivial, h2, ?_⟩
        · show PV.v (.int _ _) = _
          rw [succ_w (by omega)]
        · rw [List.take_succ_eq_append_getElem h2, List.take_succ_eq_append_getElem h2', hall, h3]
    · simp at h2
      have e1 : k = xs.length := by omega
      have e2 : k = ys.length := by omega
      rw [e1, List.take_length, ← e1, e2, List.take_length] at hall
      show SV.p (bl _) = _
      simp [hall]

end Go.Pv
