/- Contracts of the sky's functions: Check, Shift, Merge. -/
import Derived.Test.YtiahapcnajnlkaaT
import Derived.Test.YtiahapcnajnlkaaPlSky
namespace Go.Pv
open Go.Vc
open Go.Proofs
set_option maxRecDepth 10000


theorem isCell (x y : Int) : Ret Try.prog 40 [i64 x, i64 y] [] (.p (bl (decide (0 ≤ x ∧ x < 8 ∧ 0 ≤ y ∧ y < 8)))) := by
  refine ret (fn := Try.f40) (by kernel_rfl) (by kernel_rfl) rfl ?_
  repeat' (refine And.intro (fun h => ?_) (fun h => ?_))
  all_goals (show SV.p (.v (.bool _)) = _; simp at *; try (first | omega | simp [*]))

theorem skyCheck (ls : List Lamp) : Ret Try.prog 27 [sl ls] [] (.p (i64 (check ls))) := by
  refine ret (fn := Try.f27) (by kernel_rfl) (by kernel_rfl) rfl ?_
  refine ⟨fun h1 => ?_, fun h1 => ?_⟩
  · show SV.p (i64 _) = _
    simp at h1
    simp [check]; omega
  · simp at h1
    refine ⟨Nat, { inv := fun k => k ≤ ls.length ∧ (ls.take k).all okL = true, slots := [(10, fun k => i64 k)], mu := fun k => ls.length - k }, 0, ⟨⟨rfl, trivial⟩, trivial, trivial, Nat.zero_le _, by simp⟩, ?_⟩
    intro k ⟨hk, hall⟩
    refine ⟨fun h2 => ?_, fun h2 => ?_⟩
    · simp at h2
      refine ⟨k, rfl, h2, by decide, _, idx h2, rfl, ?_⟩
      refine ⟨[], _, isCell _ _, rfl, ?_⟩
      have bad : ¬ (0 ≤ ls[k].x ∧ ls[k].x < 8 ∧ 0 ≤ ls[k].y ∧ ls[k].y < 8 ∧ 0 ≤ ls[k].f ∧ ls[k].f ≤ 1000) → SV.p (i64 8) = SV.p (i64 (check ls)) := fun h => by rw [check_bad (by omega) h2 h]
      refine ⟨fun h3 => ?_, fun h3 => ?_⟩
      · refine ⟨fun h4 => ?_, fun h4 => ?_⟩
        · refine ⟨fun h5 => ?_, fun h5 => ?_⟩
          · simp at h3 h4 h5
            exact bad (by omega)
          · simp at h3 h4 h5
            refine ⟨k + 1, by show _ < _; simp; omega, ⟨rfl, rfl⟩, ⟨?_, trivial⟩, trivial, trivial, h2, ?_⟩
            · show PV.v (.int _ _) = _
              rw [succ_w (by omega)]
            · rw [all_take_succ _ h2, hall]
              simp [okL]; omega
        · simp at h3 h4
          exact bad (by omega)
      · simp at h3
        exact bad (by omega)
    · show SV.p (i64 _) = _
      simp at h2
      have : k = ls.length := by omega
      subst this
      rw [List.take_length] at hall
      rw [check, if_neg (by omega), if_pos hall]

theorem refIn (n lo hi : Int) : Ret Try.prog 35 [i64 n, i64 lo, i64 hi] [] (.p (bl (decide (lo ≤ n ∧ n ≤ hi)))) := by
  refine ret (fn := Try.f35) (by kernel_rfl) (by kernel_rfl) rfl ?_
  repeat' (refine And.intro (fun h => ?_) (fun h => ?_))
  all_goals (show SV.p (.v (.bool _)) = _; simp at *; try (first | omega | simp [*]))

theorem great (ps : List Place) (ls : List Lamp) : Ret Try.prog 10 [sl ps, sl ls] [] (.p (bl (decide (20 < ps.length ∨ 40 < ls.length)))) := by
  refine ret (fn := Try.f10) (by kernel_rfl) (by kernel_rfl) rfl ?_
  repeat' (refine And.intro (fun h => ?_) (fun h => ?_))
  all_goals (show SV.p (.v (.bool _)) = _; congr 3; rw [Bool.eq_iff_iff]; simp at *; omega)

theorem refCheck (ls : List Lamp) : Ret Try.prog 28 [sl ls] [] (.p (i64 (check ls))) := by
  refine ret (fn := Try.f28) (by kernel_rfl) (by kernel_rfl) rfl ?_
  refine ⟨fun h1 => ?_, fun h1 => ?_⟩
  · show SV.p (i64 _) = _
    simp at h1
    simp [check]; omega
  · simp at h1
    refine ⟨Nat, { inv := fun k => k ≤ ls.length ∧ (ls.take k).all okL = true, slots := [(3, fun k => i64 k)], mu := fun k => ls.length - k }, 0, ⟨⟨rfl, trivial⟩, trivial, trivial, Nat.zero_le _, by simp⟩, ?_⟩
    intro k ⟨hk, hall⟩
    refine ⟨fun h2 => ?_, fun h2 => ?_⟩
    · simp at h2
      have bad : ¬ (0 ≤ ls[k].x ∧ ls[k].x < 8 ∧ 0 ≤ ls[k].y ∧ ls[k].y < 8 ∧ 0 ≤ ls[k].f ∧ ls[k].f ≤ 1000) → SV.p (i64 8) = SV.p (i64 (check ls)) := fun h => by rw [check_bad (by omega) h2 h]
      refine ⟨k, rfl, h2, by decide, _, idx h2, rfl, ?_⟩
      refine ⟨[], _, refIn _ _ _, rfl, ?_⟩
      refine ⟨fun h3 => ?_, fun h3 => ?_⟩
      · refine ⟨k, rfl, h2, by decide, _, idx h2, rfl, ?_⟩
        refine ⟨[], _, refIn _ _ _, rfl, ?_⟩
        refine ⟨fun h4 => ?_, fun h4 => ?_⟩
        · refine ⟨k, rfl, h2, by decide, _, idx h2, rfl, ?_⟩
          refine ⟨[], _, refIn _ _ _, rfl, ?_⟩
          refine ⟨fun h5 => ?_, fun h5 => ?_⟩
          · simp at h3 h4 h5
            exact bad (by omega)
          · simp at h3 h4 h5
            refine ⟨k + 1, by show _ < _; simp; omega, ⟨rfl, rfl⟩, ⟨?_, trivial⟩, trivial, trivial, h2, ?_⟩
            · show PV.v (.int _ _) = _
              rw [succ_w (by omega)]
            · rw [all_take_succ _ h2, hall]
              simp [okL]; omega
        · simp at h3 h4
          exact bad (by omega)
      · simp at h3
        exact bad (by omega)
    · show SV.p (i64 _) = _
      simp at h2
      have : k = ls.length := by omega
      subst this
      rw [List.take_length] at hall
      rw [check, if_neg (by omega), if_pos hall]

theorem refSame (xs ys : List Lamp) (hn : xs.length ≤ 1000000) : Ret Try.prog 15 [sl xs, sl ys] [] (.p (bl (decide (xs = ys)))) := by
  refine ret (fn := Try.f15) (by kernel_rfl) (by kernel_rfl) rfl ?_
  refine ⟨fun h1 => ?_, fun h1 => ?_⟩
  · show SV.p (bl _) = _
    simp at h1
    have : xs ≠ ys := by rintro rfl; exact h1 rfl
    simp [this]
  · simp at h1
    refine ⟨Nat, { inv := fun k => k ≤ xs.length ∧ xs.take k = ys.take k, slots := [(5, fun k => i64 k)], mu := fun k => xs.length - k }, 0, ⟨⟨rfl, trivial⟩, trivial, trivial, Nat.zero_le _, by simp⟩, ?_⟩
    intro k ⟨hk, hall⟩
    refine ⟨fun h2 => ?_, fun h2 => ?_⟩
    · simp at h2
      have h2' : k < ys.length := by omega
      refine ⟨k, rfl, h2, by decide, _, idx h2, rfl, ?_⟩
      refine ⟨k, rfl, h2', by decide, _, idx h2', rfl, ?_⟩
      have e := eqPL_lamp xs[k] ys[k]
      refine ⟨fun h3 => ?_, fun h3 => ?_⟩
      · show SV.p (bl _) = _
        have h3 : (!eqPL (Enc.cs xs[k]) (Enc.cs ys[k])) = true := h3
        rw [e] at h3
        simp at h3
        have : xs ≠ ys := by rintro rfl; exact h3 rfl
        simp [this]
      · have h3 : (!eqPL (Enc.cs xs[k]) (Enc.cs ys[k])) = false := h3
        rw [e] at h3
        simp at h3
        refine ⟨k + 1, by show _ < _; simp; omega, ⟨rfl, rfl⟩, ⟨?_, trivial⟩, trivial, trivial, h2, ?_⟩
        · show PV.v (.int _ _) = _
          rw [succ_w (by omega)]
        · rw [List.take_succ_eq_append_getElem h2, List.take_succ_eq_append_getElem h2', hall, h3]
    · show SV.p (bl _) = _
      simp at h2
      have : k = xs.length := by omega
      subst this
      rw [List.take_length, List.take_of_length_le (by omega)] at hall
      simp [hall]

/-- A sky and an error code, in a row of the call's own. -/
abbrev rowL (xs : List Lamp) : Obs := [.row 33 3 xs.length false (flat xs)]

theorem skyShift (ls : List Lamp) (dx dy : Int) : Ret Try.prog 13 [sl ls, i64 dx, i64 dy] (rowL (shift ls dx dy).1) (.tup [.ob 0, .p (i64 (shift ls dx dy).2)]) := by
  refine ret (fn := Try.f13) (by kernel_rfl) (by kernel_rfl) rfl ?_
  refine ⟨[], _, skyCheck ls, rfl, ?_⟩
  refine ⟨fun h1 => ?_, fun h1 => ?_⟩
  · simp at h1
    rw [shift, if_pos h1]
    exact ⟨⟨rfl, rfl⟩, rfl, rfl⟩
  · simp at h1
    obtain ⟨hlen, hrng⟩ := check_0 h1
    refine ⟨0, ls.length, rfl, rfl, Nat.zero_le _, ⟨by show _ + 0 ≤ _; omega, by show (_ + 0) * 24 ≤ _; omega⟩, ?_⟩
    refine ⟨Nat, { inv := fun k => k ≤ ls.length ∧ (ls.take k).all (inB dx dy) = true, slots := [(22, fun k => i64 k)], rows := [(9, 33, 3, fun k => k, fun k => flat ((ls.take k).map (mv dx dy)))], mu := fun k => ls.length - k }, 0, ⟨⟨rfl, trivial⟩, ⟨⟨rfl, by simp; rfl⟩, trivial⟩, ⟨trivial, trivial⟩, Nat.zero_le _, by simp⟩, ?_⟩
    intro k ⟨hk, hall⟩
    refine ⟨fun h2 => ?_, fun h2 => ?_⟩
    · simp at h2
      have hr := hrng ls[k] (List.getElem_mem h2)
      have bad : ¬ (-ls[k].x ≤ dx ∧ dx < 8 - ls[k].x ∧ -ls[k].y ≤ dy ∧ dy < 8 - ls[k].y) → shift ls dx dy = ([], 16) := fun h => shift_bad h1 h2 h
      have e1 : IntKind.i64.wrap (0 - ls[k].x) = - ls[k].x := by rw [wrap_id (by omega) (by omega)]; omega
      have e2 : IntKind.i64.wrap (0 - ls[k].y) = - ls[k].y := by rw [wrap_id (by omega) (by omega)]; omega
      have e3 : IntKind.i64.wrap (8 - ls[k].x) = 8 - ls[k].x := by rw [wrap_id (by omega) (by omega)]
      have e4 : IntKind.i64.wrap (8 - ls[k].y) = 8 - ls[k].y := by rw [wrap_id (by omega) (by omega)]
      refine ⟨k, rfl, h2, by decide, _, idx h2, rfl, ?_⟩
      refine ⟨fun h3 => ?_, fun h3 => ?_⟩
      · refine ⟨fun h4 => ?_, fun h4 => ?_⟩
        · refine ⟨fun h5 => ?_, fun h5 => ?_⟩
          · refine ⟨fun h6 => ?_, fun h6 => ?_⟩
            · simp only [e1, e2, e3, e4, decide_eq_true_eq, decide_eq_false_iff_not] at h3 h4 h5 h6
              rw [bad (by omega)]
              exact ⟨⟨rfl, rfl⟩, rfl, rfl⟩
            · simp only [e1, e2, e3, e4, decide_eq_true_eq, decide_eq_false_iff_not] at h3 h4 h5 h6
              refine ⟨⟨by show k + 1 ≤ _; omega, by show (k + 1) * 24 ≤ _; omega⟩, ?_⟩
              refine ⟨k + 1, by show _ < _; simp; omega, ⟨rfl, rfl⟩, ⟨?_, trivial⟩, ⟨⟨rfl, ?_⟩, trivial⟩, ⟨trivial, trivial⟩, h2, ?_⟩
              · show PV.v (.int _ _) = _
                rw [succ_w (by omega)]
              · show _ ++ _ = flat _
                rw [List.take_succ_eq_append_getElem h2, List.map_append, List.map_singleton, flat_snoc]
                congr 1
                show [PV.v (.int _ _), PV.v (.int _ _), PV.v (.int _ _)] = [i64 _, i64 _, i64 _]
                rw [wrap_id (by omega) (by omega), wrap_id (by omega) (by omega)]
                rfl
              · rw [all_take_succ _ h2, hall]
                simp [inB]; omega
          · simp only [e1, e2, e3, e4, decide_eq_true_eq, decide_eq_false_iff_not] at h3 h4 h5
            rw [bad (by omega)]
            exact ⟨⟨rfl, rfl⟩, rfl, rfl⟩
        · simp only [e1, e2, e3, e4, decide_eq_true_eq, decide_eq_false_iff_not] at h3 h4
          rw [bad (by omega)]
          exact ⟨⟨rfl, rfl⟩, rfl, rfl⟩
      · simp only [e1, e2, e3, e4, decide_eq_true_eq, decide_eq_false_iff_not] at h3
        rw [bad (by omega)]
        exact ⟨⟨rfl, rfl⟩, rfl, rfl⟩
    · simp at h2
      have : k = ls.length := by omega
      subst this
      rw [List.take_length] at hall
      rw [shift, if_neg (by simp [h1]), if_pos hall]
      exact ⟨⟨by simp, by simp⟩, rfl, rfl⟩
end Go.Pv
