/- Contracts of the sky's functions: the reference's Shift, both Merges. -/
import Derived.Test.YtiahapcnajnlkaaSkA
namespace Go.Pv
open Go.Vc
open Go.Proofs
set_option maxRecDepth 10000

/-- A sky and an error code. -/
abbrev resL (r : List Lamp × Int) : SV := .tup [.p (sl r.1), .p (i64 r.2)]

theorem refShift (ls : List Lamp) (dx dy : Int) : Ret Try.prog 14 [sl ls, i64 dx, i64 dy] [] (resL (shift ls dx dy)) := by
  refine ret (fn := Try.f14) (by kernel_rfl) (by kernel_rfl) rfl ?_
  refine ⟨[], _, refCheck ls, rfl, ?_⟩
  refine ⟨fun h1 => ?_, fun h1 => ?_⟩
  · simp at h1
    rw [shift, if_pos h1]
    rfl
  · simp at h1
    obtain ⟨hlen, hrng⟩ := check_0 h1
    refine ⟨Nat, { inv := fun k => k ≤ ls.length ∧ (ls.take k).all (inB dx dy) = true, slots := [(10, fun k => i64 k)], rows := [(9, 33, 3, fun k => k, fun k => flat ((ls.take k).map (mv dx dy)))], mu := fun k => ls.length - k }, 0, ⟨⟨rfl, trivial⟩, ⟨⟨rfl, rfl⟩, trivial⟩, trivial, Nat.zero_le _, by simp⟩, ?_⟩
    intro k ⟨hk, hall⟩
    refine ⟨fun h2 => ?_, fun h2 => ?_⟩
    · simp at h2
      have hr := hrng ls[k] (List.getElem_mem h2)
      have bad : ¬ (-ls[k].x ≤ dx ∧ dx < 8 - ls[k].x ∧ -ls[k].y ≤ dy ∧ dy < 8 - ls[k].y) → shift ls dx dy = ([], 16) := fun h => shift_bad h1 h2 h
      have e1 : IntKind.i64.wrap (0 - ls[k].x) = - ls[k].x := by rw [wrap_id (by omega) (by omega)]; omega
      have e2 : IntKind.i64.wrap (0 - ls[k].y) = - ls[k].y := by rw [wrap_id (by omega) (by omega)]; omega
      have e3 : IntKind.i64.wrap (7 - ls[k].x) = 7 - ls[k].x := by rw [wrap_id (by omega) (by omega)]
      have e4 : IntKind.i64.wrap (7 - ls[k].y) = 7 - ls[k].y := by rw [wrap_id (by omega) (by omega)]
      refine ⟨k, rfl, h2, by decide, _, idx h2, rfl, ?_⟩
      refine ⟨k, rfl, h2, by decide, _, idx h2, rfl, ?_⟩
      refine ⟨_, refIn _ _ _, rfl, ?_⟩
      refine ⟨fun h3 => ?_, fun h3 => ?_⟩
      · refine ⟨k, rfl, h2, by decide, _, idx h2, rfl, ?_⟩
        refine ⟨k, rfl, h2, by decide, _, idx h2, rfl, ?_⟩
        refine ⟨_, refIn _ _ _, rfl, ?_⟩
        refine ⟨fun h4 => ?_, fun h4 => ?_⟩
        · simp only [e1, e2, e3, e4, Bool.not_eq_true', decide_eq_true_eq, decide_eq_false_iff_not, Bool.not_eq_false'] at h3 h4
          rw [bad (by omega)]
          rfl
        · simp only [e1, e2, e3, e4, Bool.not_eq_true', decide_eq_true_eq, decide_eq_false_iff_not, Bool.not_eq_false'] at h3 h4
          refine ⟨k, rfl, h2, by decide, _, idx h2, rfl, ?_⟩
          refine ⟨k, rfl, h2, by decide, _, idx h2, rfl, ?_⟩
          refine ⟨k, rfl, h2, by decide, _, idx h2, rfl, ?_⟩
          refine ⟨⟨by show k + 1 ≤ _; omega, by show (k + 1) * 24 ≤ _; omega⟩, ?_⟩
          refine ⟨k + 1, by show _ < _; simp; omega, ⟨rfl, rfl⟩, ⟨?_, trivial⟩, ⟨⟨rfl, ?_⟩, trivial⟩, trivial, h2, ?_⟩
          · show PV.v (.int _ _) = _
            rw [succ_w (by omega)]
          · show _ ++ _ = flat _
            rw [List.take_succ_eq_append_getElem h2, List.map_append, List.map_singleton, flat_snoc]
            congr 1
            show [PV.v (.int _ _), PV.v (.int _ _), PV.v (.int _ _)] = [i64 _, i64 _, i64 _]
            rw [wrap_id (by omega) (by omega), wrap_id (by omega) (by omega)]
            rfl
          · rw [all_take_succ _ h2, hall]
            simp [inB]; omega
      · simp only [e1, e2, e3, e4, Bool.not_eq_true', decide_eq_true_eq, decide_eq_false_iff_not, Bool.not_eq_false'] at h3
        rw [bad (by omega)]
        rfl
    · simp at h2
      have : k = ls.length := by omega
      subst this
      rw [List.take_length] at hall
      rw [shift, if_neg (by simp [h1]), if_pos hall]
      show SV.tup [.p (.sl false ls.length (flat ((ls.take ls.length).map _))), _] = SV.tup [.p (.sl false _ _), _]
      simp

theorem skyMerge (ls : List Lamp) : Ret Try.prog 11 [sl ls] (rowL (merge ls).1) (.tup [.ob 0, .p (i64 (merge ls).2)]) := by
  refine ret (fn := Try.f11) (by kernel_rfl) (by kernel_rfl) rfl ?_
  refine ⟨[], _, skyCheck ls, rfl, ?_⟩
  refine ⟨fun h1 => ?_, fun h1 => ?_⟩
  · simp at h1
    rw [merge, if_pos h1]
    exact ⟨⟨rfl, rfl⟩, rfl, rfl⟩
  · simp at h1
    obtain ⟨hlen, hrng⟩ := check_0 h1
    refine ⟨Nat, { inv := fun k => k ≤ ls.length, slots := [(19, fun k => i64 k)], boxes := [(0, fun k => cellsAt (ls.take k))], mu := fun k => ls.length - k }, 0, ⟨⟨rfl, trivial⟩, trivial, ⟨cellsAt_nil, trivial⟩, Nat.zero_le _⟩, ?_⟩
    intro k hk
    refine ⟨fun h2 => ?_, fun h2 => ?_⟩
    · simp at h2
      have hr := hrng ls[k] (List.getElem_mem h2)
      obtain ⟨y, hy⟩ : ∃ y : Nat, ls[k].y = y := ⟨ls[k].y.toNat, by omega⟩
      obtain ⟨x, hx⟩ : ∃ x : Nat, ls[k].x = x := ⟨ls[k].x.toNat, by omega⟩
      have hs0 := sumAt_nonneg (ls.take k) (fun s hs => (hrng s (List.mem_of_mem_take hs)).2.2.2.2.1) (y * 8 + x)
      have hs1 := sumAt_le (ls.take k) (fun s hs => (hrng s (List.mem_of_mem_take hs)).2.2.2.2) (y * 8 + x)
      rw [List.length_take] at hs1
      refine ⟨k, rfl, h2, by decide, _, idx h2, rfl, ?_⟩
      refine ⟨y, hy, by omega, x, hx, by omega, [i64 (sumAt (ls.take k) (y * 8 + x))], ?_, rfl, ?_⟩
      · show ((cellsAt _).drop (y * 8 + x * 1)).take 1 = _
        rw [Nat.mul_one, cellsAt, part_map_range _ _ _ _ (by omega)]; rfl
      refine ⟨y, hy, by omega, x, hx, by omega, ?_⟩
      refine ⟨by show y * 8 + x * 1 + 1 ≤ (cellsAt _).length; simp [cellsAt]; omega, ?_⟩
      refine ⟨k + 1, by show _ < _; simp; omega, ⟨rfl, rfl⟩, ⟨?_, trivial⟩, trivial, ⟨?_, trivial⟩, h2⟩
      · show PV.v (.int _ _) = _
        rw [succ_w (by omega)]
      · show spl (cellsAt _) (y * 8 + x * 1) [PV.v (.int _ (IntKind.i64.wrap (sumAt (ls.take k) (y * 8 + x) + ls[k].f)))] = cellsAt _
        rw [Nat.mul_one, wrap_id (by omega) (by omega), List.take_succ_eq_append_getElem h2]
        refine spl_map_range _ _ _ _ _ (by omega) ?_ ?_
        · rw [sumAt_snoc, if_pos (by omega)]
        · intro j hj
          rw [sumAt_snoc, if_neg (by omega), Int.add_zero]
    · simp at h2
      have : k = ls.length := by omega
      subst this
      have hsum : ∀ c, 0 ≤ sumAt ls c ∧ sumAt ls c ≤ 16000 := fun c => by
        have h3 := sumAt_nonneg ls (fun s hs => (hrng s hs).2.2.2.2.1) c
        have h4 := sumAt_le ls (fun s hs => (hrng s hs).2.2.2.2) c
        omega
      refine ⟨Nat, { inv := fun y => y ≤ 8 ∧ ∀ c, c < y * 8 → sumAt ls c ≤ 1000, slots := [(36, fun y => i64 y)], rows := [(8, 33, 3, fun y => (mg ls (y * 8)).length, fun y => flat (mg ls (y * 8)))], mu := fun y => 8 - y }, 0, ⟨⟨rfl, trivial⟩, ⟨⟨rfl, rfl⟩, trivial⟩, ⟨rfl, trivial⟩, by omega, fun c hc => by omega⟩, ?_⟩
      intro y ⟨hy, hc1⟩
      refine ⟨fun h3 => ?_, fun h3 => ?_⟩
      · simp at h3
        refine ⟨y, rfl, by omega, [i64 (sumAt ls (y * 8 + 0)), i64 (sumAt ls (y * 8 + 1)), i64 (sumAt ls (y * 8 + 2)), i64 (sumAt ls (y * 8 + 3)), i64 (sumAt ls (y * 8 + 4)), i64 (sumAt ls (y * 8 + 5)), i64 (sumAt ls (y * 8 + 6)), i64 (sumAt ls (y * 8 + 7))], ?_, rfl, ?_⟩
        · show ((cellsAt _).drop (y * 8)).take 8 = _
          rw [List.take_length, cellsAt, part_map_range _ _ _ _ (by omega)]; rfl
        refine ⟨Nat, { inv := fun x => x ≤ 8 ∧ ∀ c, c < y * 8 + x → sumAt ls c ≤ 1000, slots := [(42, fun x => i64 x)], rows := [(8, 33, 3, fun x => (mg ls (y * 8 + x)).length, fun x => flat (mg ls (y * 8 + x)))], mu := fun x => 8 - x }, 0, ⟨⟨rfl, trivial⟩, ⟨⟨rfl, rfl⟩, trivial⟩, ⟨rfl, trivial, trivial⟩, by omega, fun c hc => hc1 c (by omega)⟩, ?_⟩
        intro x ⟨hx, hc2⟩
        refine ⟨fun h4 => ?_, fun h4 => ?_⟩
        · simp at h4
          refine ⟨x, rfl, by omega, [i64 (sumAt ls (y * 8 + x))], ?_, rfl, ?_⟩
          · show (((List.range 8).map fun j => i64 (sumAt ls (y * 8 + j))).drop (x * 1)).take 1 = _
            rw [Nat.mul_one, part_map_range _ _ _ _ (by omega)]; rfl
          have hs := hsum (y * 8 + x)
          refine ⟨fun h5 => ?_, fun h5 => ?_⟩
          · simp at h5
            rw [merge_bad h1 (c := y * 8 + x) (by omega) (by omega)]
            exact ⟨⟨rfl, rfl⟩, rfl, rfl⟩
          · simp at h5
            have hcs : ∀ c, c < y * 8 + (x + 1) → sumAt ls c ≤ 1000 := fun c hc => by
              by_cases e : c = y * 8 + x
              · subst e; exact h5
              · exact hc2 c (by omega)
            refine ⟨fun h6 => ?_, fun h6 => ?_⟩
            · simp at h6
              have hm := mg_length ls (y * 8 + x)
              refine ⟨⟨by show (mg ls (y * 8 + x)).length + 1 ≤ _; omega, by show ((mg ls (y * 8 + x)).length + 1) * 24 ≤ _; omega⟩, ?_⟩
              refine ⟨x + 1, by show _ < _; simp; omega, ⟨rfl, rfl⟩, ⟨?_, trivial⟩, ⟨⟨?_, ?_⟩, trivial⟩, ⟨rfl, trivial, trivial⟩, by omega, hcs⟩
              · show PV.v (.int _ _) = _
                rw [succ_w (by omega)]
              · show _ + 1 = (mg ls (y * 8 + x + 1)).length
                rw [mg_succ, if_pos h6]; simp
              · show _ ++ _ = flat (mg ls (y * 8 + x + 1))
                rw [mg_succ, if_pos h6, flat_snoc]
                congr 1
                show [PV.v (.int _ _), PV.v (.int _ _), PV.v (.int _ _)] = [i64 _, i64 _, i64 _]
                simp; omega
            · simp at h6
              refine ⟨x + 1, by show _ < _; simp; omega, ⟨rfl, rfl⟩, ⟨?_, trivial⟩, ⟨⟨?_, ?_⟩, trivial⟩, ⟨rfl, trivial, trivial⟩, by omega, hcs⟩
              · show PV.v (.int _ _) = _
                rw [succ_w (by omega)]
              · show _ = (mg ls (y * 8 + x + 1)).length
                rw [mg_succ, if_neg (by omega)]; simp
              · show _ = flat (mg ls (y * 8 + x + 1))
                rw [mg_succ, if_neg (by omega), List.append_nil]
        · simp at h4
          have hx8 : x = 8 := by omega
          subst hx8
          refine ⟨y + 1, by show _ < _; simp; omega, ⟨rfl, rfl⟩, ⟨?_, trivial⟩, ⟨⟨?_, ?_⟩, trivial⟩, ⟨rfl, trivial⟩, by omega, fun c hc => hc2 c (by omega)⟩
          · show PV.v (.int _ _) = _
            rw [succ_w (by omega)]
          · show _ = (mg ls ((y + 1) * 8)).length
            rw [Nat.add_mul]
          · show _ = flat (mg ls ((y + 1) * 8))
            rw [Nat.add_mul]
      · simp at h3
        have hy8 : y = 8 := by omega
        subst hy8
        rw [merge, if_neg (by simp [h1]), if_pos (by simpa using hc1)]
        exact ⟨⟨rfl, rfl⟩, rfl, rfl⟩

theorem refMerge (ls : List Lamp) : Ret Try.prog 12 [sl ls] [] (resL (merge ls)) := by
  refine ret (fn := Try.f12) (by kernel_rfl) (by kernel_rfl) rfl ?_
  refine ⟨[], _, refCheck ls, rfl, ?_⟩
  refine ⟨fun h1 => ?_, fun h1 => ?_⟩
  · simp at h1
    rw [merge, if_pos h1]
    rfl
  · simp at h1
    obtain ⟨hlen, hrng⟩ := check_0 h1
    refine ⟨Nat, { inv := fun y => y ≤ 8, slots := [(6, fun y => i64 y)], rows := [(5, 33, 3, fun y => (mg ls (y * 8)).length, fun y => flat (mg ls (y * 8)))], mu := fun y => 8 - y }, 0, ⟨⟨rfl, trivial⟩, ⟨⟨rfl, rfl⟩, trivial⟩, trivial, by omega⟩, ?_⟩
    intro y hy
    refine ⟨fun h3 => ?_, fun h3 => ?_⟩
    · simp at h3
      refine ⟨Nat, { inv := fun x => x ≤ 8, slots := [(7, fun x => i64 x)], rows := [(5, 33, 3, fun x => (mg ls (y * 8 + x)).length, fun x => flat (mg ls (y * 8 + x)))], mu := fun x => 8 - x }, 0, ⟨⟨rfl, trivial⟩, ⟨⟨rfl, rfl⟩, trivial⟩, ⟨trivial, trivial⟩, by omega⟩, ?_⟩
      intro x hx
      refine ⟨fun h4 => ?_, fun h4 => ?_⟩
      · simp at h4
        refine ⟨Nat, { inv := fun k => k ≤ ls.length, slots := [(9, fun k => i64 k)], boxes := [(2, fun k => [i64 x, i64 y, i64 (sumAt (ls.take k) (y * 8 + x))])], mu := fun k => ls.length - k }, 0, ⟨⟨rfl, trivial⟩, trivial, ⟨trivial, ⟨rfl, rfl⟩, rfl, trivial⟩, by omega⟩, ?_⟩
        intro k hk
        refine ⟨fun h2 => ?_, fun h2 => ?_⟩
        · simp at h2
          have hr := hrng ls[k] (List.getElem_mem h2)
          have hs0 := sumAt_nonneg (ls.take k) (fun s hs => (hrng s (List.mem_of_mem_take hs)).2.2.2.2.1) (y * 8 + x)
          have hs1 := sumAt_le (ls.take k) (fun s hs => (hrng s (List.mem_of_mem_take hs)).2.2.2.2) (y * 8 + x)
          rw [List.length_take] at hs1
          have next : ls[k].x ≠ x ∨ ls[k].y ≠ y → sumAt (ls.take (k + 1)) (y * 8 + x) = sumAt (ls.take k) (y * 8 + x) := fun hne => by
            rw [List.take_succ_eq_append_getElem h2, sumAt_snoc, if_neg (by omega), Int.add_zero]
          refine ⟨k, rfl, h2, by decide, _, idx h2, rfl, ?_⟩
          refine ⟨fun h5 => ?_, fun h5 => ?_⟩
          · refine ⟨k, rfl, h2, by decide, _, idx h2, rfl, ?_⟩
            refine ⟨fun h6 => ?_, fun h6 => ?_⟩
            · simp at h5 h6
              refine ⟨k, rfl, h2, by decide, _, idx h2, rfl, ?_⟩
              refine ⟨k + 1, by show _ < _; simp; omega, ⟨rfl, rfl⟩, ⟨?_, trivial⟩, trivial, ⟨trivial, ⟨rfl, rfl⟩, ?_, trivial⟩, h2⟩
              · show PV.v (.int _ _) = _
                rw [succ_w (by omega)]
              · show [SV.p (.v (.int _ _)), SV.p (.v (.int _ _)), SV.p (.v (.int _ _))] = [SV.p (i64 _), SV.p (i64 _), SV.p (i64 _)]
                rw [wrap_id (by omega) (by omega), List.take_succ_eq_append_getElem h2, sumAt_snoc, if_pos (by omega)]
            · simp at h5 h6
              refine ⟨k + 1, by show _ < _; simp; omega, ⟨rfl, rfl⟩, ⟨?_, trivial⟩, trivial, ⟨trivial, ⟨rfl, rfl⟩, ?_, trivial⟩, h2⟩
              · show PV.v (.int _ _) = _
                rw [succ_w (by omega)]
              · show [SV.p (.v (.int _ _)), SV.p (.v (.int _ _)), SV.p (.v (.int _ _))] = [SV.p (i64 _), SV.p (i64 _), SV.p (i64 _)]
                rw [next (.inr h6)]
          · simp at h5
            refine ⟨k + 1, by show _ < _; simp; omega, ⟨rfl, rfl⟩, ⟨?_, trivial⟩, trivial, ⟨trivial, ⟨rfl, rfl⟩, ?_, trivial⟩, h2⟩
            · show PV.v (.int _ _) = _
              rw [succ_w (by omega)]
            · show [SV.p (.v (.int _ _)), SV.p (.v (.int _ _)), SV.p (.v (.int _ _))] = [SV.p (i64 _), SV.p (i64 _), SV.p (i64 _)]
              rw [next (.inl h5)]
        · simp at h2
          have : k = ls.length := by omega
          subst this
          refine ⟨fun h6 => ?_, fun h6 => ?_⟩
          · have h6 : 0 < sumAt ls (y * 8 + x) := by rw [List.take_length] at h6; simpa using h6
            have hm := mg_length ls (y * 8 + x)
            refine ⟨⟨by show (mg ls (y * 8 + x)).length + 1 ≤ _; omega, by show ((mg ls (y * 8 + x)).length + 1) * 24 ≤ _; omega⟩, ?_⟩
            refine ⟨x + 1, by show _ < _; simp; omega, ⟨rfl, rfl⟩, ⟨?_, trivial⟩, ⟨⟨?_, ?_⟩, trivial⟩, ⟨trivial, trivial⟩, by show x + 1 ≤ 8; omega⟩
            · show PV.v (.int _ _) = _
              rw [succ_w (by omega)]
            · show _ + 1 = (mg ls (y * 8 + x + 1)).length
              rw [mg_succ, if_pos h6]; simp
            · show _ ++ _ = flat (mg ls (y * 8 + x + 1))
              rw [mg_succ, if_pos h6, flat_snoc]
              congr 1
              show [PV.v (.int _ _), PV.v (.int _ _), PV.v (.int _ _)] = [i64 _, i64 _, i64 _]
              rw [List.take_length]
              simp; omega
          · have h6 : ¬ 0 < sumAt ls (y * 8 + x) := by rw [List.take_length] at h6; simpa using h6
            refine ⟨x + 1, by show _ < _; simp; omega, ⟨rfl, rfl⟩, ⟨?_, trivial⟩, ⟨⟨?_, ?_⟩, trivial⟩, ⟨trivial, trivial⟩, by show x + 1 ≤ 8; omega⟩
            · show PV.v (.int _ _) = _
              rw [succ_w (by omega)]
            · show _ = (mg ls (y * 8 + x + 1)).length
              rw [mg_succ, if_neg (by omega)]; simp
            · show _ = flat (mg ls (y * 8 + x + 1))
              rw [mg_succ, if_neg (by omega), List.append_nil]
      · simp at h4
        have hx8 : x = 8 := by omega
        subst hx8
        refine ⟨y + 1, by show _ < _; simp; omega, ⟨rfl, rfl⟩, ⟨?_, trivial⟩, ⟨⟨?_, ?_⟩, trivial⟩, trivial, by show y + 1 ≤ 8; omega⟩
        · show PV.v (.int _ _) = _
          rw [succ_w (by omega)]
        · show _ = (mg ls ((y + 1) * 8)).length
          rw [Nat.add_mul]
        · show _ = flat (mg ls ((y + 1) * 8))
          rw [Nat.add_mul]
    · simp at h3
      have hy8 : y = 8 := by omega
      subst hy8
      obtain ⟨hm1, hm2⟩ := check_mg h1
      refine ⟨[], _, refCheck (mg ls 64), rfl, ?_⟩
      refine ⟨fun h6 => ?_, fun h6 => ?_⟩
      · simp at h6
        rw [if_neg h6] at hm1 hm2
        show SV.tup [_, _] = SV.tup [.p (sl (merge ls).1), _]
        rw [hm1, hm2]; rfl
      · simp at h6
        rw [if_pos h6] at hm1 hm2
        show SV.tup [_, _] = SV.tup [.p (sl (merge ls).1), _]
        rw [hm1, hm2]

theorem skyMoves (ls : List Lamp) (dx dy : Int) : Ret Try.prog 3 [sl ls, i64 dx, i64 dy] [] (.p (bl true)) := by
  refine ret (fn := Try.f3) (by kernel_rfl) (by kernel_rfl) rfl ?_
  refine ⟨[], _, great [] ls, rfl, ?_⟩
  refine ⟨fun h1 => ?_, fun h1 => ?_⟩
  · rfl
  simp at h1
  refine ⟨flat_length ls, ⟨by show 0 + _ ≤ _; omega, by show (0 + _) * 24 ≤ _; omega⟩, false, by simp, ?_⟩
  refine ⟨_, _, skyMerge ls, rfl, ?_⟩
  refine ⟨[], _, refMerge ls, rfl, ?_⟩
  refine ⟨_, _, skyShift ls dx dy, rfl, ?_⟩
  refine ⟨[], _, refShift ls dx dy, rfl, ?_⟩
  have hm := merge_length ls
  have hsh := shift_length ls dx dy
  refine ⟨[], _, refSame (merge ls).1 (merge ls).1 (by omega), rfl, ?_⟩
  refine ⟨fun h2 => ?_, fun h2 => ?_⟩
  rotate_left
  · simp at h2
  refine ⟨fun h3 => ?_, fun h3 => ?_⟩
  rotate_left
  · simp at h3
  refine ⟨[], _, refSame (shift ls dx dy).1 (shift ls dx dy).1 (by omega), rfl, ?_⟩
  refine ⟨fun h4 => ?_, fun h4 => ?_⟩
  rotate_left
  · simp at h4
  refine ⟨fun h5 => ?_, fun h5 => ?_⟩
  · simp at h5
  generalize hzs : (shift ls dx dy).1 = zs at hsh
  generalize hms : (merge ls).1 = ms at hm
  refine ⟨Nat, { inv := fun k => k ≤ zs.length, slots := [(16, fun k => i64 k)], boxes := [(3, fun k => flat (set99 zs k))], mu := fun k => zs.length - k }, 0, ⟨⟨rfl, trivial⟩, trivial, ?_, Nat.zero_le _⟩, ?_⟩
  · exact ⟨trivial, ⟨rfl, rfl⟩, ⟨rfl, rfl⟩, ⟨rfl, by show flat zs = flat (set99 zs 0); simp [set99]⟩, trivial⟩
  intro k hk
  refine ⟨fun h6 => ?_, fun h6 => ?_⟩
  · simp at h6
    refine ⟨k, rfl, by omega, ?_⟩
    refine ⟨by show k * 3 + 0 + 1 ≤ (flat (set99 zs k)).length; rw [flat_length, set99_length]; show _ ≤ zs.length * 3; omega, ?_⟩
    refine ⟨k + 1, by show _ < _; simp; omega, ⟨rfl, rfl⟩, ⟨?_, trivial⟩, trivial, ?_, by show k + 1 ≤ _; omega⟩
    · show PV.v (.int _ _) = _
      rw [succ_w (by omega)]
    · exact ⟨trivial, ⟨rfl, rfl⟩, ⟨rfl, rfl⟩, ⟨rfl, set99_succ (by omega)⟩, trivial⟩
  · simp at h6
    refine ⟨Nat, { inv := fun k => k ≤ ms.length, slots := [(17, fun k => i64 k)], boxes := [(2, fun k => flat (set99 ms k))], mu := fun k => ms.length - k }, 0, ⟨⟨rfl, trivial⟩, trivial, ?_, Nat.zero_le _⟩, ?_⟩
    · exact ⟨trivial, ⟨rfl, rfl⟩, ⟨rfl, by show flat ms = flat (set99 ms 0); simp [set99]⟩, ⟨rfl, rfl⟩, trivial⟩
    intro j hj
    refine ⟨fun h7 => ?_, fun h7 => ?_⟩
    · simp at h7
      refine ⟨j, rfl, by omega, ?_⟩
      refine ⟨by show j * 3 + 0 + 1 ≤ (flat (set99 ms j)).length; rw [flat_length, set99_length]; show _ ≤ ms.length * 3; omega, ?_⟩
      refine ⟨j + 1, by show _ < _; simp; omega, ⟨rfl, rfl⟩, ⟨?_, trivial⟩, trivial, ?_, by show j + 1 ≤ _; omega⟩
      · show PV.v (.int _ _) = _
        rw [succ_w (by omega)]
      · exact ⟨trivial, ⟨rfl, rfl⟩, ⟨rfl, set99_succ (by omega)⟩, ⟨rfl, rfl⟩, trivial⟩
    · refine ⟨[], .p (bl (decide (ls = ls))), ?_, rfl, ?_⟩
      · show Ret Try.prog 15 [sl ls, .sl false (0 + ls.length) (flat ls)] [] _
        rw [Nat.zero_add]
        exact refSame ls ls (by omega)
      · show SV.p (bl _) = _
        simp
end Go.Pv
