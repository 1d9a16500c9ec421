/- Contracts of the reference's functions over bandpasses: Check, Both, Mul, Inv, Flat, Split, Join, Same, Great. -/
import Derived.Test.YtaaijmojlodefaaBf
import Derived.Test.YtaaijmojlodefaaPlBandBm
namespace Go.Pv
open Go.Vc
open Go.Proofs
set_option maxRecDepth 10000

theorem r_spoilt (l : List Cx) (hl : l.length ≤ 1000) : Ret Try.prog 60 [sl l] [] (.p (bl (decide (∃ c ∈ l, ¬ okG c)))) := by
  refine ret (fn := Try.f60) (by kernel_rfl) (by kernel_rfl) rfl ?_
  refine ⟨Nat, { inv := fun k => k ≤ l.length ∧ (∀ c ∈ l.take k, okG c), slots := [(3, fun k => i64 k)],  mu := fun k => l.length - k }, 0, ⟨⟨rfl, trivial⟩, trivial, trivial, Nat.zero_le _, by simp⟩, ?_⟩
  intro k ⟨hk, hall⟩
  refine ⟨fun h1 => ?_, fun h1 => ?_⟩
  · simp at h1
    have bad : ¬ okG l[k] → SV.p (bl true) = SV.p (bl (decide (∃ c ∈ l, ¬ okG c))) := fun h => by
      rw [decide_eq_true (show ∃ c ∈ l, ¬ okG c from ⟨_, List.getElem_mem h1, h⟩)]
    refine ⟨k, rfl, h1, by decide, _, idx h1, rfl, ?_⟩
    refine ⟨[], _, r_check l[k], rfl, ?_⟩
    refine ⟨fun h2 => ?_, fun h2 => ?_⟩
    rotate_left
    · rw [chk_ne] at h2
      exact bad fun h => h2 h.1
    rw [chk_eq] at h2
    refine ⟨k, rfl, h1, by decide, _, idx h1, rfl, ?_⟩
    refine ⟨[], _, r_zero l[k], rfl, ?_⟩
    refine ⟨fun h3 => ?_, fun h3 => ?_⟩
    · simp at h3
      exact bad fun h => h.2 h3
    simp at h3
    refine ⟨k + 1, by show _ < _; simp; omega, ⟨rfl, rfl⟩, ⟨by show PV.v (.int _ _) = _; rw [succ_w (by omega)], trivial⟩, trivial, trivial, h1, ?_⟩
    intro c hc
    rw [List.take_succ_eq_append_getElem h1, List.mem_append] at hc
    rcases hc with hc | hc
    · exact hall c hc
    · simp at hc; subst hc; exact ⟨h2, h3⟩
  · simp at h1
    have : k = l.length := by omega
    subst this
    rw [List.take_length] at hall
    show SV.p (bl false) = _
    rw [decide_eq_false (show ¬ ∃ c ∈ l, ¬ okG c from fun ⟨c, hc, h⟩ => h (hall c hc))]

theorem r_check32 (b : List (List Cx)) : Ret Try.prog 27 [sl b] [] (.p (i64 (ck32 b))) := by
  refine ret (fn := Try.f27) (by kernel_rfl) (by kernel_rfl) rfl ?_
  refine ⟨fun h1 => ?_, fun h1 => ?_⟩
  · simp at h1
    rw [ck32, if_pos (by omega)]; rfl
  simp at h1
  have hlen : b.length ≤ 8 := by omega
  refine ⟨Nat, { inv := fun k => k ≤ b.length ∧ (∀ l ∈ b.take k, l.length ≤ 16), slots := [(3, fun k => i64 k)],  mu := fun k => b.length - k }, 0, ⟨⟨rfl, trivial⟩, trivial, (by repeat' first | exact trivial | rfl | apply And.intro), Nat.zero_le _, by simp⟩, ?_⟩
  intro k ⟨hk, hall⟩
  refine ⟨fun h2 => ?_, fun h2 => ?_⟩
  · simp at h2
    refine ⟨k, rfl, h2, by decide, _, idx h2, rfl, ?_⟩
    refine ⟨fun h3 => ?_, fun h3 => ?_⟩
    · simp at h3
      rw [ck32, if_neg (by omega), if_pos ⟨_, List.getElem_mem h2, by omega⟩]; rfl
    · simp at h3
      refine ⟨k + 1, by show _ < _; simp; omega, ⟨rfl, rfl⟩, ⟨by show PV.v (.int _ _) = _; rw [succ_w (by omega)], trivial⟩, trivial, (by repeat' first | exact trivial | rfl | apply And.intro), h2, ?_⟩
      intro l hl
      rw [List.take_succ_eq_append_getElem h2, List.mem_append] at hl
      rcases hl with hl | hl
      · exact hall l hl
      · simp at hl; subst hl; omega
  simp at h2
  have : k = b.length := by omega
  subst this
  rw [List.take_length] at hall
  have n2 : ¬ ∃ r ∈ b, 16 < r.length := by rintro ⟨r, hr, h⟩; have := hall r hr; omega
  refine ⟨fun h4 => ?_, fun h4 => ?_⟩
  rotate_left
  · simp at h4
    rw [ck32, if_neg (by omega), if_neg n2, if_pos (.inl (by simp [h4]))]; rfl
  simp at h4
  have h0 : 0 < b.length := by cases b with | nil => exact absurd rfl h4 | cons a r => simp
  have e0 := row0_get h0
  refine ⟨0, rfl, h0, by decide, _, idx h0, rfl, ?_⟩
  refine ⟨fun h5 => ?_, fun h5 => ?_⟩
  · simp at h5
    rw [ck32, if_neg (by omega), if_neg n2, if_pos (.inr (by rw [e0]; simp [h5]))]; rfl
  simp at h5
  have hr0 : 0 < (row0 b).length := by
    rw [e0]
    cases hq : b[0] with
    | nil => exact absurd hq h5
    | cons a r => simp
  refine ⟨Nat, { inv := fun k => k ≤ b.length ∧ (∀ l ∈ b.take k, l.length = (row0 b).length ∧ ∀ c ∈ l, okG c), slots := [(4, fun k => i64 k)],  mu := fun k => b.length - k }, 0, ⟨⟨rfl, trivial⟩, trivial, (by repeat' first | exact trivial | rfl | apply And.intro), Nat.zero_le _, by simp⟩, ?_⟩
  intro k ⟨hk, hall2⟩
  refine ⟨fun h6 => ?_, fun h6 => ?_⟩
  · simp at h6
    refine ⟨k, rfl, h6, by decide, _, idx h6, rfl, ?_⟩
    refine ⟨0, rfl, h0, by decide, _, idx h0, rfl, ?_⟩
    refine ⟨fun h7 => ?_, fun h7 => ?_⟩
    rotate_left
    · simp at h7
      show SV.p (i64 8) = _
      rw [ck32_8 hlen hall h0 hr0 (.inl ⟨_, List.getElem_mem h6, by rw [e0]; omega⟩)]
    simp at h7
    refine ⟨k, rfl, h6, by decide, _, idx h6, rfl, ?_⟩
    refine ⟨_, r_spoilt b[k] (by have := hall _ (List.getElem_mem h6); omega), rfl, ?_⟩
    refine ⟨fun h8 => ?_, fun h8 => ?_⟩
    · have h8 : decide (∃ c ∈ b[k], ¬ okG c) = true := h8
      rw [decide_eq_true_iff] at h8
      show SV.p (i64 8) = _
      rw [ck32_8 hlen hall h0 hr0 (.inr ⟨_, List.getElem_mem h6, h8⟩)]
    · have h8 : decide (∃ c ∈ b[k], ¬ okG c) = false := h8
      rw [decide_eq_false_iff_not] at h8
      refine ⟨k + 1, by show _ < _; simp; omega, ⟨rfl, rfl⟩, ⟨by show PV.v (.int _ _) = _; rw [succ_w (by omega)], trivial⟩, trivial, (by repeat' first | exact trivial | rfl | apply And.intro), h6, ?_⟩
      intro l hl
      rw [List.take_succ_eq_append_getElem h6, List.mem_append] at hl
      rcases hl with hl | hl
      · exact hall2 l hl
      · simp at hl; subst hl
        exact ⟨by rw [e0]; omega, fun c hc => Classical.byContradiction fun q => h8 ⟨c, hc, q⟩⟩
  · simp at h6
    have : k = b.length := by omega
    subst this
    rw [List.take_length] at hall2
    show SV.p (i64 0) = _
    rw [ck32_ok hlen hall h0 hr0 (fun r hr => (hall2 r hr).1) (fun r hr => (hall2 r hr).2)]

theorem r_both32 (a b : List (List Cx)) : Ret Try.prog 36 [sl a, sl b] [] (.p (i64 (both32 a b))) := by
  refine ret (fn := Try.f36) (by kernel_rfl) (by kernel_rfl) rfl ?_
  refine ⟨[], _, r_check32 a, rfl, ?_⟩
  refine ⟨fun h1 => ?_, fun h1 => ?_⟩
  · simp at h1
    refine ⟨[], _, r_check32 a, rfl, ?_⟩
    rw [both32, if_pos h1]; rfl
  simp at h1
  refine ⟨[], _, r_check32 b, rfl, ?_⟩
  rw [both32, if_neg (by simp [h1])]; rfl

theorem r_product (x y : List Cx) (hl : x.length ≤ y.length) (hn : x.length ≤ 64) : Ret Try.prog 44 [sl x, sl y] [] (resCs (prods mul (gat x) (gat y) x.length)) := by
  refine ret (fn := Try.f44) (by kernel_rfl) (by kernel_rfl) rfl ?_
  refine ⟨Nat, { inv := fun k => k ≤ x.length ∧ (perr mul (gat x) (gat y) k = 0), slots := [(7, fun k => i64 k)], rows := [(6, 60, 3, fun k => k, fun k => flat ((List.range k).map fun k => (mul (gat x k) (gat y k)).1))], mu := fun k => x.length - k }, 0, ⟨⟨rfl, trivial⟩, ⟨⟨rfl, rfl⟩, trivial⟩, trivial, Nat.zero_le _, rfl⟩, ?_⟩
  intro k ⟨hk, hz⟩
  refine ⟨fun h2 => ?_, fun h2 => ?_⟩
  · simp at h2
    have h3 : k < y.length := by omega
    refine ⟨k, rfl, h2, by decide, _, idx h2, rfl, ?_⟩
    refine ⟨k, rfl, h3, by decide, _, idx h3, rfl, ?_⟩
    refine ⟨_, (show Ret Try.prog 35 [cx x[k], cx y[k]] [] (resC (mul (gat x k) (gat y k))) by rw [gat_get h2, gat_get h3]; exact r_mul _ _), rfl, ?_⟩
    refine ⟨fun h4 => ?_, fun h4 => ?_⟩
    · simp at h4
      show SV.tup [.p (.sl false 0 []), .p (i64 _)] = resCs _
      rw [prods, perr_bad h2 hz h4, if_neg h4]; rfl
    simp at h4
    refine ⟨⟨by show k + 1 ≤ _; omega, by show (k + 1) * 24 ≤ _; omega⟩, ?_⟩
    refine ⟨k + 1, by show _ < _; simp; omega, ⟨rfl, rfl⟩, ⟨by show PV.v (.int _ _) = _; rw [succ_w (by omega)], trivial⟩, ⟨⟨rfl, ?_⟩, trivial⟩, (by repeat' first | exact trivial | rfl | apply And.intro), h2, ?_⟩
    · show _ ++ _ = flat _
      rw [List.range_succ, List.map_append, List.map_singleton, flat_snoc]; rfl
    · rw [perr, if_neg (by simp [hz])]; exact h4
  · simp at h2
    have : k = x.length := by omega
    subst this
    show SV.tup [.p (.sl false x.length (flat ((List.range x.length).map fun k => (mul (gat x k) (gat y k)).1))), .p (i64 0)] = resCs _
    rw [prods, if_pos hz]
    simp

theorem r_mul32 (a b : List (List Cx)) : Ret Try.prog 12 [sl a, sl b] [] (resBs (bmul a b)) := by
  refine ret (fn := Try.f12) (by kernel_rfl) (by kernel_rfl) rfl ?_
  refine ⟨[], _, r_both32 a b, rfl, ?_⟩
  refine ⟨fun h1 => ?_, fun h1 => ?_⟩
  · simp at h1
    refine ⟨[], _, r_both32 a b, rfl, ?_⟩
    rw [bmul, if_pos h1]; rfl
  simp at h1
  obtain ⟨ka, kb⟩ := both32_0 h1
  obtain ⟨a1, a2, a3, a4, a5, a6⟩ := ck32_0 ka
  obtain ⟨b1, b2, b3, b4, b5, b6⟩ := ck32_0 kb
  have ea := row0_get a2
  have eb := row0_get b2
  refine ⟨fun h2 => ?_, fun h2 => ?_⟩
  rotate_left
  · simp at h2
    show SV.tup [.p (.sl false 0 []), .p (i64 2)] = resBs _
    rw [bmul, if_neg (by simp [h1]), if_pos (.inl (by omega))]; rfl
  simp at h2
  refine ⟨0, rfl, a2, by decide, _, idx a2, rfl, ?_⟩
  refine ⟨0, rfl, b2, by decide, _, idx b2, rfl, ?_⟩
  refine ⟨fun h3 => ?_, fun h3 => ?_⟩
  · simp at h3
    show SV.tup [.p (.sl false 0 []), .p (i64 2)] = resBs _
    rw [bmul, if_neg (by simp [h1]), if_pos (.inr (by rw [ea, eb]; omega))]; rfl
  simp at h3
  have h2' : a.length = b.length := by omega
  rw [bmul_grid h1 h2' (by rw [ea, eb]; omega)]
  refine ⟨Nat, { inv := fun k => k ≤ a.length ∧ ∀ i, i < k → ∀ c, c < (row0 a).length → (mul (gat (rw32 a i) c) (gat (rw32 b i) c)).2 = 0, slots := [(7, fun k => i64 k)], rows := [(6, 23, 1, fun k => k, fun k => flat ((List.range k).map fun i => (List.range (row0 a).length).map fun c => (mul (gat (rw32 a i) c) (gat (rw32 b i) c)).1))], mu := fun k => a.length - k }, 0, ⟨⟨rfl, trivial⟩, ⟨⟨rfl, rfl⟩, trivial⟩, trivial, Nat.zero_le _, fun _ h => by omega⟩, ?_⟩
  intro k ⟨hk, hz⟩
  refine ⟨fun h4 => ?_, fun h4 => ?_⟩
  · simp at h4
    have h5 : k < b.length := by omega
    have la := a5 _ (List.getElem_mem h4)
    have lb := b5 _ (List.getElem_mem h5)
    refine ⟨k, rfl, h4, by decide, _, idx h4, rfl, ?_⟩
    refine ⟨k, rfl, h5, by decide, _, idx h5, rfl, ?_⟩
    refine ⟨_, r_product a[k] b[k] (by rw [la, lb, ea, eb]; omega) (by omega), rfl, ?_⟩
    have ra := rw32_get h4
    have rb := rw32_get h5
    refine ⟨fun h6 => ?_, fun h6 => ?_⟩
    · simp only [bne_iff_ne] at h6
      show SV.tup [.p (.sl false 0 []), .p (i64 16)] = resBs _
      have : ¬ ∀ c, c < a[k].length → (mul (gat a[k] c) (gat b[k] c)).2 = 0 := fun q => h6 (prods_0.2 q)
      obtain ⟨c, h7⟩ := Classical.not_forall.1 this
      obtain ⟨hc, h7⟩ := Classical.not_imp.1 h7
      rw [grid_bad h4 (c := c) (by omega) (by rw [ra, rb]; exact h7)]; rfl
    have h6 : (prods mul (gat a[k]) (gat b[k]) a[k].length).2 = 0 := by simpa only [bne_eq_false_iff_eq] using h6
    refine ⟨⟨by show k + 1 ≤ _; omega, by show (k + 1) * 24 ≤ _; omega⟩, ?_⟩
    refine ⟨k + 1, by show _ < _; simp; omega, ⟨rfl, rfl⟩, ⟨by show PV.v (.int _ _) = _; rw [succ_w (by omega)], trivial⟩, ⟨⟨rfl, ?_⟩, trivial⟩, (by repeat' first | exact trivial | rfl | apply And.intro), h4, ?_⟩
    · show _ ++ [sl (prods mul (gat a[k]) (gat b[k]) a[k].length).1] = flat _
      rw [List.range_succ, List.map_append, List.map_singleton, flat_snoc, ra, rb, ← la]
      have : (prods mul (gat a[k]) (gat b[k]) a[k].length).1 = (List.range a[k].length).map fun c => (mul (gat a[k] c) (gat b[k] c)).1 := by
        rw [prods, if_pos (perr_0.2 (prods_0.1 h6))]
      rw [this]; rfl
    · intro i hi c hc
      by_cases e : i = k
      · subst e; rw [ra, rb]; exact prods_0.1 h6 c (by omega)
      · exact hz i (by omega) c hc
  · simp at h4
    have : k = a.length := by omega
    subst this
    show SV.tup [.p (.sl false a.length (flat ((List.range a.length).map fun i => (List.range (row0 a).length).map fun c => (mul (gat (rw32 a i) c) (gat (rw32 b i) c)).1))), .p (i64 0)] = resBs _
    rw [grid_ok hz]
    simp

theorem r_inv32 (b : List (List Cx)) : Ret Try.prog 14 [sl b] [] (resBs (binv b)) := by
  refine ret (fn := Try.f14) (by kernel_rfl) (by kernel_rfl) rfl ?_
  refine ⟨[], _, r_check32 b, rfl, ?_⟩
  refine ⟨fun h1 => ?_, fun h1 => ?_⟩
  · simp at h1
    refine ⟨[], _, r_check32 b, rfl, ?_⟩
    rw [binv, if_pos h1]; rfl
  simp at h1
  obtain ⟨b1, b2, b3, b4, b5, b6⟩ := ck32_0 h1
  rw [binv_grid h1]
  refine ⟨Nat, { inv := fun k => k ≤ b.length ∧ ∀ i, i < k → ∀ c, c < (row0 b).length → (div one (gat (rw32 b i) c)).2 = 0, slots := [(5, fun k => i64 k)], rows := [(4, 23, 1, fun k => k, fun k => flat ((List.range k).map fun i => (List.range (row0 b).length).map fun c => (div one (gat (rw32 b i) c)).1))], mu := fun k => b.length - k }, 0, ⟨⟨rfl, trivial⟩, ⟨⟨rfl, rfl⟩, trivial⟩, trivial, Nat.zero_le _, fun _ h => by omega⟩, ?_⟩
  intro k ⟨hk, hz⟩
  refine ⟨fun h4 => ?_, fun h4 => ?_⟩
  · simp at h4
    have lb := b5 _ (List.getElem_mem h4)
    have rb := rw32_get h4
    refine ⟨Nat, { inv := fun j => j ≤ (row0 b).length ∧ ∀ c, c < j → (div one (gat (rw32 b k) c)).2 = 0, slots := [(7, fun j => i64 j)], rows := [(6, 60, 3, fun j => j, fun j => flat ((List.range j).map fun c => (div one (gat (rw32 b k) c)).1))], mu := fun j => (row0 b).length - j }, 0, ⟨⟨rfl, trivial⟩, ⟨⟨rfl, rfl⟩, trivial⟩, (by repeat' first | exact trivial | rfl | apply And.intro), Nat.zero_le _, fun _ h => by omega⟩, ?_⟩
    intro j ⟨hj, hjz⟩
    refine ⟨k, rfl, h4, by decide, _, idx h4, rfl, ?_⟩
    refine ⟨fun h5 => ?_, fun h5 => ?_⟩
    · simp at h5
      refine ⟨_, r_one, rfl, ?_⟩
      refine ⟨k, rfl, h4, by decide, _, idx h4, rfl, ?_⟩
      refine ⟨j, rfl, h5, by decide, _, idx h5, rfl, ?_⟩
      refine ⟨_, (show Ret Try.prog 47 [cx one, cx b[k][j]] [] (resC (div one (gat (rw32 b k) j))) by rw [rb, gat_get h5]; exact r_div _ _), rfl, ?_⟩
      refine ⟨fun h6 => ?_, fun h6 => ?_⟩
      · simp only [bne_iff_ne] at h6
        show SV.tup [.p (.sl false 0 []), .p (i64 16)] = resBs _
        rw [grid_bad h4 (c := j) (by omega) h6]; rfl
      have h6 : (div one (gat (rw32 b k) j)).2 = 0 := by simpa only [bne_eq_false_iff_eq] using h6
      refine ⟨⟨by show j + 1 ≤ _; omega, by show (j + 1) * 24 ≤ _; omega⟩, ?_⟩
      refine ⟨j + 1, by show _ < _; simp; omega, ⟨rfl, rfl⟩, ⟨by show PV.v (.int _ _) = _; rw [succ_w (by omega)], trivial⟩, ⟨⟨rfl, ?_⟩, trivial⟩, (by repeat' first | exact trivial | rfl | apply And.intro), by omega, ?_⟩
      · show _ ++ _ = flat _
        rw [List.range_succ, List.map_append, List.map_singleton, flat_snoc]; rfl
      · intro c hc
        by_cases e : c = j
        · subst e; exact h6
        · exact hjz c (by omega)
    · simp at h5
      have : j = (row0 b).length := by omega
      subst this
      refine ⟨false, ?_⟩
      refine ⟨⟨by show k + 1 ≤ _; omega, by show (k + 1) * 24 ≤ _; omega⟩, ?_⟩
      refine ⟨k + 1, by show _ < _; simp; omega, ⟨rfl, rfl⟩, ⟨by show PV.v (.int _ _) = _; rw [succ_w (by omega)], trivial⟩, ⟨⟨rfl, ?_⟩, trivial⟩, (by repeat' first | exact trivial | rfl | apply And.intro), h4, ?_⟩
      · show flat ((List.range k).map fun i => (List.range (row0 b).length).map fun c => (div one (gat (rw32 b i) c)).1) ++ [PV.sl false (row0 b).length (flat ((List.range (row0 b).length).map fun c => (div one (gat (rw32 b k) c)).1))] = flat ((List.range (k + 1)).map fun i => (List.range (row0 b).length).map fun c => (div one (gat (rw32 b i) c)).1)
        rw [List.range_succ, List.map_append, List.map_singleton, flat_snoc]
        show _ = _ ++ [PV.sl false ((List.range (row0 b).length).map fun c => (div one (gat (rw32 b k) c)).1).length _]
        rw [List.length_map, List.length_range]
      · intro i hi c hc
        by_cases e : i = k
        · subst e; exact hjz c hc
        · exact hz i (by omega) c hc
  · simp at h4
    have : k = b.length := by omega
    subst this
    show SV.tup [.p (.sl false b.length (flat ((List.range b.length).map fun i => (List.range (row0 b).length).map fun c => (div one (gat (rw32 b i) c)).1))), .p (i64 0)] = resBs _
    rw [grid_ok hz]
    simp
end Go.Pv
