/- Contracts of the reference's functions for tables of gains. -/
import Derived.Test.YteihdjifhnkhpaaGe
namespace Go.Pv
open Go.Vc
open Go.Proofs
set_option maxRecDepth 10000

theorem r_both26 (g h : List Cx) : Ret Try.prog 19 [sl g, sl h] [] (.p (i64 (both26 g h))) := by
  refine ret (fn := Try.f19) (by kernel_rfl) (by kernel_rfl) rfl ?_
  refine ⟨[], _, r_check26 g, rfl, ?_⟩
  refine ⟨fun h1 => ?_, fun h1 => ?_⟩
  · simp at h1
    refine ⟨[], _, r_check26 g, rfl, ?_⟩
    rw [both26, if_pos h1]; rfl
  simp at h1
  refine ⟨[], _, r_check26 h, rfl, ?_⟩
  refine ⟨fun h2 => ?_, fun h2 => ?_⟩
  · simp at h2
    refine ⟨[], _, r_check26 h, rfl, ?_⟩
    rw [both26, if_neg (by simp [h1]), if_pos h2]; rfl
  simp at h2
  refine ⟨fun h3 => ?_, fun h3 => ?_⟩
  · simp at h3
    rw [both26, if_neg (by simp [h1]), if_neg (by simp [h2]), if_pos (by omega)]; rfl
  · simp at h3
    rw [both26, if_neg (by simp [h1]), if_neg (by simp [h2]), if_neg (by omega)]; rfl

theorem eqPL_cxE (a b : Cx) : eqPL (Enc.cs a) (Enc.cs b) = decide (a = b) := eqPL_cx a b

theorem r_same25 (xs ys : List Cx) (hn : xs.length ≤ 1000000) : Ret Try.prog 31 [sl xs, sl ys] [] (.p (bl (decide (xs = ys)))) := by
  refine ret (fn := Try.f31) (by kernel_rfl) (by kernel_rfl) rfl ?_
  refine ⟨fun h1 => ?_, fun h1 => ?_⟩
  · show SV.p (bl _) = _
    simp at h1
    have : xs ≠ ys := by rintro rfl; exact h1 rfl
    simp [this]
  · simp at h1
    refine ⟨Nat, { inv := fun k => k ≤ xs.length ∧ xs.take k = ys.take k, slots := [(5, fun k => i64 k)], mu := fun k => xs.length - k }, 0, ⟨⟨rfl, trivial⟩, trivial, trivial, Nat.zero_le _, by simp⟩, ?_⟩
    intro k ⟨hk, hall⟩
    refine ⟨fun h2 => ?_, fun h2 => ?_⟩
    · simp at h2
      have h2' : k < ys.length := by omega
      refine ⟨k, rfl, h2, by decide, _, idx h2, rfl, ?_⟩
      refine ⟨k, rfl, h2', by decide, _, idx h2', rfl, ?_⟩
      have e := eqPL_cxE xs[k] ys[k]
      refine ⟨fun h3 => ?_, fun h3 => ?_⟩
      · show SV.p (bl _) = _
        have h3 : (!eqPL (Enc.cs xs[k]) (Enc.cs ys[k])) = true := h3
        rw [e] at h3
        simp at h3
        have : xs ≠ ys := by rintro rfl; exact h3 rfl
        simp [this]
      · have h3 : (!eqPL (Enc.cs xs[k]) (Enc.cs ys[k])) = false := h3
        rw [e] at h3
        simp at h3
        refine ⟨k + 1, by show _ < _; simp; omega, ⟨rfl, rfl⟩, ⟨?_, trivial⟩, trivial, trivial, h2, ?_⟩
        · show PV.v (.int _ _) = _
          rw [succ_w (by omega)]
        · rw [List.take_succ_eq_append_getElem h2, List.take_succ_eq_append_getElem h2', hall, h3]
    · simp at h2
      have e1 : k = xs.length := by omega
      have e2 : k = ys.length := by omega
      rw [e1, List.take_length, ← e1, e2, List.take_length] at hall
      show SV.p (bl _) = _
      simp [hall]


theorem r_tmul (g h : List Cx) : Ret Try.prog 26 [sl g, sl h] [] (resCs (tmul g h)) := by
  refine ret (fn := Try.f26) (by kernel_rfl) (by kernel_rfl) rfl ?_
  refine ⟨[], _, r_both26 g h, rfl, ?_⟩
  refine ⟨fun h1 => ?_, fun h1 => ?_⟩
  · simp at h1
    refine ⟨[], _, r_both26 g h, rfl, ?_⟩
    rw [tmul, if_pos h1]; rfl
  simp at h1
  obtain ⟨b1, b2, b3⟩ := both26_0 h1
  obtain ⟨c1, c2, c3⟩ := ck26_0 b1
  rw [tmul, if_neg (by simp [h1])]
  refine ⟨Nat, { inv := fun k => k ≤ g.length ∧ (perr mul (gat g) (gat h) k = 0), slots := [(7, fun k => i64 k)], rows := [(6, 36, 3, fun k => k, fun k => flat ((List.range k).map fun k => (mul (gat g k) (gat h k)).1))], mu := fun k => g.length - k }, 0, ⟨⟨rfl, trivial⟩, ⟨⟨rfl, rfl⟩, trivial⟩, (by repeat' first | exact trivial | rfl | apply And.intro), Nat.zero_le _, rfl⟩, ?_⟩
  intro k ⟨hk, hz⟩
  refine ⟨fun h2 => ?_, fun h2 => ?_⟩
  · simp at h2
    have h2' : k < h.length := by omega
    refine ⟨k, rfl, h2, by decide, _, idx h2, rfl, ?_⟩
    refine ⟨k, rfl, h2', by decide, _, idx h2', rfl, ?_⟩
    refine ⟨_, r_mul g[k] h[k], rfl, ?_⟩
    have e1 := gat_get h2
    have e2 := gat_get h2'
    refine ⟨fun h3 => ?_, fun h3 => ?_⟩
    · simp at h3
      rw [prods_bad h2 hz (by rw [e1, e2]; exact h3) (mul_err (gat_valid b1 h2).1 (gat_valid b2 h2').1)]
      rfl
    · simp at h3
      refine ⟨⟨by show k + 1 ≤ _; omega, by show (k + 1) * 24 ≤ _; omega⟩, ?_⟩
      refine ⟨k + 1, by show _ < _; simp; omega, ⟨rfl, rfl⟩, ⟨by show PV.v (.int _ _) = _; rw [succ_w (by omega)], trivial⟩, ⟨⟨rfl, ?_⟩, trivial⟩, (by repeat' first | exact trivial | rfl | apply And.intro), h2, ?_⟩
      · show _ ++ _ = flat _
        rw [List.range_succ, List.map_append, List.map_singleton, flat_snoc, e1, e2]; rfl
      · rw [perr, if_neg (by simp [hz]), e1, e2]; exact h3
  · simp at h2
    have : k = g.length := by omega
    subst this
    show SV.tup [.p (.sl false g.length (flat ((List.range g.length).map fun k => (mul (gat g k) (gat h k)).1))), .p (i64 0)] = resCs _
    rw [prods, if_pos hz]
    simp

theorem r_tinv (g : List Cx) : Ret Try.prog 28 [sl g] [] (resCs (tinv g)) := by
  refine ret (fn := Try.f28) (by kernel_rfl) (by kernel_rfl) rfl ?_
  refine ⟨[], _, r_check26 g, rfl, ?_⟩
  refine ⟨fun h1 => ?_, fun h1 => ?_⟩
  · simp at h1
    refine ⟨[], _, r_check26 g, rfl, ?_⟩
    rw [tinv, if_pos h1]; rfl
  simp at h1
  obtain ⟨c1, c2, c3⟩ := ck26_0 h1
  rw [tinv, if_neg (by simp [h1])]
  refine ⟨Nat, { inv := fun k => k ≤ g.length ∧ (perr div (fun _ => one) (gat g) k = 0), slots := [(5, fun k => i64 k)], rows := [(4, 36, 3, fun k => k, fun k => flat ((List.range k).map fun k => (div one (gat g k)).1))], mu := fun k => g.length - k }, 0, ⟨⟨rfl, trivial⟩, ⟨⟨rfl, rfl⟩, trivial⟩, (by repeat' first | exact trivial | rfl | apply And.intro), Nat.zero_le _, rfl⟩, ?_⟩
  intro k ⟨hk, hz⟩
  refine ⟨fun h2 => ?_, fun h2 => ?_⟩
  · simp at h2
    refine ⟨_, r_one, rfl, ?_⟩
    refine ⟨k, rfl, h2, by decide, _, idx h2, rfl, ?_⟩
    refine ⟨_, r_div one g[k], rfl, ?_⟩
    have e1 := gat_get h2
    refine ⟨fun h3 => ?_, fun h3 => ?_⟩
    · simp at h3
      rw [prods_bad h2 hz (by rw [e1]; exact h3) (div_err (by decide +kernel) (gat_valid h1 h2).1 (gat_valid h1 h2).2)]
      rfl
    · simp at h3
      refine ⟨⟨by show k + 1 ≤ _; omega, by show (k + 1) * 24 ≤ _; omega⟩, ?_⟩
      refine ⟨k + 1, by show _ < _; simp; omega, ⟨rfl, rfl⟩, ⟨by show PV.v (.int _ _) = _; rw [succ_w (by omega)], trivial⟩, ⟨⟨rfl, ?_⟩, trivial⟩, (by repeat' first | exact trivial | rfl | apply And.intro), h2, ?_⟩
      · show _ ++ _ = flat _
        rw [List.range_succ, List.map_append, List.map_singleton, flat_snoc, e1]; rfl
      · rw [perr, if_neg (by simp [hz]), e1]; exact h3
  · simp at h2
    have : k = g.length := by omega
    subst this
    show SV.tup [.p (.sl false g.length (flat ((List.range g.length).map fun k => (div one (gat g k)).1))), .p (i64 0)] = resCs _
    rw [prods, if_pos hz]
    simp

theorem r_refer (g : List Cx) (s : Int) : Ret Try.prog 30 [sl g, i64 s] [] (resCs (trefer g s)) := by
  refine ret (fn := Try.f30) (by kernel_rfl) (by kernel_rfl) rfl ?_
  refine ⟨[], _, r_check26 g, rfl, ?_⟩
  refine ⟨fun h1 => ?_, fun h1 => ?_⟩
  · simp at h1
    refine ⟨[], _, r_check26 g, rfl, ?_⟩
    rw [trefer, if_pos h1]; rfl
  simp at h1
  obtain ⟨c1, c2, c3⟩ := ck26_0 h1
  have no : (s < 0 ∨ s ≥ g.length) → SV.tup [.p (.sl false 0 []), .p (i64 2)] = resCs (trefer g s) := fun h => by rw [trefer, if_neg (by simp [h1]), if_pos h]; rfl
  refine ⟨fun h2 => ?_, fun h2 => ?_⟩
  rotate_left
  · simp at h2
    exact no (.inl h2)
  refine ⟨fun h3 => ?_, fun h3 => ?_⟩
  · simp at h3
    exact no (.inr h3)
  simp at h2 h3
  obtain ⟨s, rfl⟩ : ∃ n : Nat, s = n := ⟨s.toNat, by omega⟩
  have hs : s < g.length := by omega
  have es : at_ g s = g[s] := at_get hs
  have vs := (c3 g[s] (List.getElem_mem hs)).1
  rw [trefer, if_neg (by simp [h1]), if_neg (by omega)]
  refine ⟨Nat, { inv := fun k => k ≤ g.length ∧ (perr tconj (gat g) (fun _ => at_ g s) k = 0), slots := [(7, fun k => i64 k)], rows := [(6, 36, 3, fun k => k, fun k => flat ((List.range k).map fun k => (tconj (gat g k) (at_ g s)).1))], mu := fun k => g.length - k }, 0, ⟨⟨rfl, trivial⟩, ⟨⟨rfl, rfl⟩, trivial⟩, (by repeat' first | exact trivial | rfl | apply And.intro), Nat.zero_le _, rfl⟩, ?_⟩
  intro k ⟨hk, hz⟩
  refine ⟨fun h4 => ?_, fun h4 => ?_⟩
  · simp at h4
    refine ⟨k, rfl, h4, by decide, _, idx h4, rfl, ?_⟩
    refine ⟨s, rfl, hs, by decide, _, idx hs, rfl, ?_⟩
    refine ⟨_, r_apart g[s] vs, rfl, ?_⟩
    refine ⟨_, r_mul g[k] (conj g[s]), rfl, ?_⟩
    have e1 := gat_get h4
    have e2 : mul g[k] (conj g[s]) = tconj (gat g k) (at_ g s) := by rw [tconj, es, if_pos vs, e1]
    refine ⟨fun h5 => ?_, fun h5 => ?_⟩
    · simp at h5
      rw [prods_bad h4 hz (by rw [← e2]; exact h5) (tconj_err (gat_valid h1 h4).1 (by rw [es]; exact vs))]
      rfl
    · simp at h5
      refine ⟨⟨by show k + 1 ≤ _; omega, by show (k + 1) * 24 ≤ _; omega⟩, ?_⟩
      refine ⟨k + 1, by show _ < _; simp; omega, ⟨rfl, rfl⟩, ⟨by show PV.v (.int _ _) = _; rw [succ_w (by omega)], trivial⟩, ⟨⟨rfl, ?_⟩, trivial⟩, (by repeat' first | exact trivial | rfl | apply And.intro), h4, ?_⟩
      · show _ ++ _ = flat _
        rw [List.range_succ, List.map_append, List.map_singleton, flat_snoc, ← e2]; rfl
      · rw [perr, if_neg (by simp [hz]), ← e2]; exact h5
  · simp at h4
    have : k = g.length := by omega
    subst this
    show SV.tup [.p (.sl false g.length (flat ((List.range g.length).map fun k => (tconj (gat g k) (at_ g s)).1))), .p (i64 0)] = resCs _
    rw [prods, if_pos hz]
    simp

theorem r_alike (g h : List Cx) : Ret Try.prog 29 [sl g, sl h] [] (resB (alike g h)) := by
  refine ret (fn := Try.f29) (by kernel_rfl) (by kernel_rfl) rfl ?_
  refine ⟨[], _, r_both26 g h, rfl, ?_⟩
  refine ⟨fun h1 => ?_, fun h1 => ?_⟩
  · simp at h1
    refine ⟨[], _, r_both26 g h, rfl, ?_⟩
    rw [alike, if_pos h1]; rfl
  simp at h1
  obtain ⟨b1, b2, b3⟩ := both26_0 h1
  obtain ⟨c1, c2, c3⟩ := ck26_0 b1
  obtain ⟨d1, d2, d3⟩ := ck26_0 b2
  have eg0 : gat g 0 = g[0] := gat_get c2
  have eh0 : gat h 0 = h[0] := gat_get d2
  refine ⟨0, rfl, c2, by decide, _, idx c2, rfl, ?_⟩
  refine ⟨[], _, r_norm g[0], rfl, ?_⟩
  refine ⟨0, rfl, d2, by decide, _, idx d2, rfl, ?_⟩
  refine ⟨[], _, r_norm h[0], rfl, ?_⟩
  refine ⟨fun h2 => ?_, fun h2 => ?_⟩
  rotate_left
  · simp at h2
    rw [alike, if_neg (by simp [h1]), if_pos (by rw [eg0]; exact h2)]; rfl
  simp at h2
  refine ⟨fun h3 => ?_, fun h3 => ?_⟩
  · simp at h3
    rw [alike, if_neg (by simp [h1]), if_neg (by rw [eg0]; simp [h2]), if_pos (by rw [eh0]; exact h3)]; rfl
  simp at h3
  refine ⟨Nat, { inv := fun k => k ≤ g.length ∧ aerr g h k = 0, slots := [(11, fun k => i64 k), (10, fun k => bl (decide ((nrm g[0]).1 = (nrm h[0]).1) && asame g h k))], mu := fun k => g.length - k }, 0, ⟨⟨rfl, ?_, trivial⟩, trivial, (by repeat' first | exact trivial | rfl | apply And.intro), Nat.zero_le _, rfl⟩, ?_⟩
  · show PV.v (.bool (eqPL [i64 _, i64 _] [i64 _, i64 _])) = _
    rw [eqPL_fr']; simp [asame]
  intro k ⟨hk, hz⟩
  refine ⟨fun h4 => ?_, fun h4 => ?_⟩
  · simp at h4
    have h4' : k < h.length := by omega
    have eg : gat g k = g[k] := gat_get h4
    have eh : gat h k = h[k] := gat_get h4'
    have eE : alE g h k = if (mul g[k] h[0]).2 ≠ 0 then (mul g[k] h[0]).2 else (mul g[0] h[k]).2 := by rw [alE, eg, eh0, eg0, eh]
    have eS : alS g h k = decide ((mul g[k] h[0]).1 = (mul g[0] h[k]).1) := by rw [alS, eg, eh0, eg0, eh]
    have bad : alE g h k ≠ 0 → SV.tup [.p (bl false), .p (i64 16)] = resB (alike g h) := fun hne => by
      rw [alike, if_neg (by simp [h1]), if_neg (by rw [eg0]; simp [h2]), if_neg (by rw [eh0]; simp [h3]), if_pos (by rw [aerr_bad h4 hz hne]; exact hne)]
    refine ⟨k, rfl, h4, by decide, _, idx h4, rfl, ?_⟩
    refine ⟨0, rfl, d2, by decide, _, idx d2, rfl, ?_⟩
    refine ⟨_, r_mul g[k] h[0], rfl, ?_⟩
    refine ⟨0, rfl, c2, by decide, _, idx c2, rfl, ?_⟩
    refine ⟨k, rfl, h4', by decide, _, idx h4', rfl, ?_⟩
    refine ⟨_, r_mul g[0] h[k], rfl, ?_⟩
    refine ⟨fun h5 => ?_, fun h5 => ?_⟩
    rotate_left
    · simp at h5
      exact bad (by rw [eE, if_pos h5]; exact h5)
    simp at h5
    refine ⟨fun h6 => ?_, fun h6 => ?_⟩
    · simp at h6
      exact bad (by rw [eE, if_neg (by simp [h5])]; exact h6)
    simp at h6
    have e0 : alE g h k = 0 := by rw [eE, if_neg (by simp [h5])]; exact h6
    have hz' : aerr g h (k + 1) = 0 := by rw [aerr, if_neg (by simp [hz])]; exact e0
    refine ⟨fun h7 => ?_, fun h7 => ?_⟩
    · refine ⟨k + 1, by show _ < _; simp; omega, ⟨rfl, rfl⟩, ⟨?_, ?_, trivial⟩, trivial, (by repeat' first | exact trivial | rfl | apply And.intro), h4, hz'⟩
      · show PV.v (.int _ _) = _
        rw [succ_w (by omega)]
      · show PV.v (.bool (eqPL [i64 _, i64 _, i64 _] [i64 _, i64 _, i64 _])) = bl (_ && (asame g h k && alS g h k))
        rw [eqPL_cx, ← Bool.and_assoc, h7, eS]; simp
    · refine ⟨k + 1, by show _ < _; simp; omega, ⟨rfl, rfl⟩, ⟨?_, ?_, trivial⟩, trivial, (by repeat' first | exact trivial | rfl | apply And.intro), h4, hz'⟩
      · show PV.v (.int _ _) = _
        rw [succ_w (by omega)]
      · show PV.v (.bool false) = bl (_ && (asame g h k && alS g h k))
        rw [← Bool.and_assoc, h7]; simp
  · simp at h4
    have : k = g.length := by omega
    subst this
    rw [alike, if_neg (by simp [h1]), if_neg (by rw [eg0]; simp [h2]), if_neg (by rw [eh0]; simp [h3]), if_neg (by simp [hz]), eg0, eh0]
    rfl


theorem gainTables (g h : List Cx) (s : Int) (hg : ∀ c ∈ g, Enc.ok c) (hh : ∀ c ∈ h, Enc.ok c) : Ret Try.prog 7 [sl g, sl h, i64 s] [] (.p (bl true)) := by
  refine ret (fn := Try.f7) (by kernel_rfl) (by kernel_rfl) rfl ?_
  refine ⟨fun h1 => ?_, fun h1 => ?_⟩
  rotate_left
  · rfl
  refine ⟨fun h2 => ?_, fun h2 => ?_⟩
  · rfl
  simp at h1 h2
  refine ⟨[], _, g_mul g h hg hh, rfl, ?_⟩
  refine ⟨[], _, r_tmul g h, rfl, ?_⟩
  refine ⟨[], _, g_inv g hg, rfl, ?_⟩
  refine ⟨[], _, r_tinv g, rfl, ?_⟩
  refine ⟨[], _, g_alike g h hg hh, rfl, ?_⟩
  refine ⟨[], _, r_alike g h, rfl, ?_⟩
  refine ⟨[], _, g_refer g s hg, rfl, ?_⟩
  refine ⟨[], _, r_refer g s, rfl, ?_⟩
  have l1 : (tmul g h).1.length ≤ 1000000 := by rw [tmul]; split; simp; exact Nat.le_trans (prods_length _ _ _ _) (by omega)
  have l2 : (tinv g).1.length ≤ 1000000 := by rw [tinv]; split; simp; exact Nat.le_trans (prods_length _ _ _ _) (by omega)
  have l3 : (trefer g s).1.length ≤ 1000000 := by rw [trefer]; split; simp; split; simp; exact Nat.le_trans (prods_length _ _ _ _) (by omega)
  refine ⟨[], _, r_same25 (tmul g h).1 (tmul g h).1 l1, rfl, ?_⟩
  refine ⟨fun h3 => ?_, fun h3 => ?_⟩
  rotate_left
  · simp at h3
  refine ⟨fun h4 => ?_, fun h4 => ?_⟩
  rotate_left
  · simp at h4
  refine ⟨[], _, r_same25 (tinv g).1 (tinv g).1 l2, rfl, ?_⟩
  refine ⟨fun h5 => ?_, fun h5 => ?_⟩
  rotate_left
  · simp at h5
  refine ⟨fun h6 => ?_, fun h6 => ?_⟩
  rotate_left
  · simp at h6
  refine ⟨fun h7 => ?_, fun h7 => ?_⟩
  rotate_left
  · simp at h7
  refine ⟨fun h8 => ?_, fun h8 => ?_⟩
  rotate_left
  · simp at h8
  refine ⟨[], _, r_same25 (trefer g s).1 (trefer g s).1 l3, rfl, ?_⟩
  refine ⟨fun h9 => ?_, fun h9 => ?_⟩
  rotate_left
  · simp at h9
  show SV.p (bl _) = _
  simp
end Go.Pv
