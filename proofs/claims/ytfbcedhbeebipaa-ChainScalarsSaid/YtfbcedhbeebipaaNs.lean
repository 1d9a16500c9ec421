/- The law ChainScalars, of the code. -/
import Derived.Test.YtfbcedhbeebipaaNp
namespace Go.Pv
open Go.Vc
open Go.Proofs
set_option maxRecDepth 10000

theorem tgain_enc {t : Stg} {n m : Int} (ht : Enc.ok t) (h : t.good n m) (hn : n ≤ 8) (e : t.kind = 4) : Enc.ok (tgain t) := by
  obtain ⟨l, _, _, _, _, o⟩ := good_own4 h e
  refine ⟨⟨by show (0 : Int) ≤ 1; decide, by show (1 : Int) ≤ 255; decide⟩, ?_, nil_enc, nil_enc, nil_enc, nil_enc⟩
  refine map_enc (by unfold maxLen; omega) fun q hq => ?_
  rw [quart3 (o q hq)]
  have := o q hq
  exact ok_valid (rot_valid4 (by omega)).1

set_option maxHeartbeats 8000000 in
theorem chainScalars (s t : Stg) (n m : Int) (cs : List Cube) (hs : Enc.ok s) (ht : Enc.ok t) (hc : ∀ c ∈ cs, Enc.ok c) : Ret Try.prog 4 [stg s, stg t, i64 n, i64 m, sl cs] [] (.p (bl true)) := by
  have hst : ∀ x ∈ [s, t], Enc.ok x := by simpa using ⟨hs, ht⟩
  have hts : ∀ x ∈ [t, s], Enc.ok x := by simpa using ⟨ht, hs⟩
  refine ret (fn := Try.f4) (by kernel_rfl) (by kernel_rfl) rfl ?_
  refine ⟨[], _, w_alive, rfl, ?_⟩
  refine ⟨[], _, r_check34 [s, t] n m hst, rfl, ?_⟩
  refine ⟨fun h1 => ?_, fun h1 => ?_⟩
  rotate_left
  · rfl
  simp at h1
  refine ⟨[], _, r_cubes34 cs n m hc, rfl, ?_⟩
  refine ⟨fun h2 => ?_, fun h2 => ?_⟩
  rotate_left
  · rfl
  simp at h2
  refine ⟨fun h3 => ?_, fun h3 => ?_⟩
  rotate_left
  · rfl
  refine ⟨fun h4 => ?_, fun h4 => ?_⟩
  rotate_left
  · rfl
  refine ⟨fun h5 => ?_, fun h5 => ?_⟩
  rotate_left
  · rfl
  refine ⟨fun h6 => ?_, fun h6 => ?_⟩
  rotate_left
  · rfl
  simp at h3 h4 h5 h6
  refine ⟨fun h => absurd h (by first | decide | simp), fun _ => ?_⟩
  have sa : s.scal := ⟨h3, h4⟩
  have ta : t.scal := ⟨h5, h6⟩
  refine ⟨[], _, k_compose [s, t] n m hst, rfl, ?_⟩
  refine ⟨[], _, (show Ret Try.prog 12 [sl [t, s], i64 n, i64 m] [] (resSt (chcomp [s, t] n m)) by rw [scal_comp h1 sa ta]; exact k_compose [t, s] n m hts), rfl, ?_⟩
  refine ⟨[], _, k_act [s, t] n m cs hst hc, rfl, ?_⟩
  refine ⟨[], _, k_act [t, s] n m cs hts hc, rfl, ?_⟩
  refine ⟨fun _ => ?_, fun h => absurd h (by simp)⟩
  refine ⟨[], _, same1 chcomp_small, rfl, ?_⟩
  refine ⟨fun _ => ?_, fun h => absurd h (by first | decide | simp)⟩
  refine ⟨fun h8 => ?_, fun h8 => ?_⟩
  · simp at h8
    refine ⟨fun h9 => ?_, fun h9 => ?_⟩
    · simp at h9
      refine ⟨[], _, sameC (scal_act h1 sa ta h8 h9) chact_small.1 chact_small.2, rfl, ?_⟩
      refine ⟨fun h => absurd h (by first | decide | simp), fun _ => ?_⟩
      refine ⟨fun h10 => ?_, fun h10 => ?_⟩
      · rfl
      simp at h10
      have kt : t.kind = 4 := h10
      have gt := (ck34_two h1).2.1
      have ht1 := (ck34_two h1).2.2.2.1
      have kk := (ck34_two h1).2.2.2.2
      obtain ⟨tl, _, _, _, _, to⟩ := good_own4 gt kt
      refine ⟨Nat, { inv := fun k => k ≤ t.turns.length ∧ (True), slots := [(21, fun k => i64 k)], cells := [(9, 1, 23, 3, fun k => k, fun k => flat ((t.turns.take k).map fun q => rotN (quart q) one))], mu := fun k => t.turns.length - k }, 0, ⟨⟨rfl, trivial⟩, ⟨⟨rfl, rfl⟩, trivial⟩, (by repeat' first | exact trivial | rfl | apply And.intro), Nat.zero_le _, trivial⟩, ?_⟩
      intro k ⟨hk, _⟩
      refine ⟨fun h11 => ?_, fun h11 => ?_⟩
      · simp at h11
        have q := ht.2.2.2.2.1.2 _ (List.getElem_mem h11)
        have rt : Ret Try.prog 23 [cx one, i64 t.turns[k]] [] (resC (rotN (quart t.turns[k]) one, 0)) := by have := r_turn one t.turns[k] q; rw [turn, if_pos oneC_valid] at this; exact this
        refine ⟨_, r_one, rfl, ?_⟩
        refine ⟨k, rfl, h11, by decide, _, idx h11, rfl, ?_⟩
        refine ⟨_, rt, rfl, ?_⟩
        refine ⟨⟨by show k + 1 ≤ _; omega, by show (k + 1) * 24 ≤ _; omega⟩, ?_⟩
        refine ⟨k + 1, by show _ < _; simp; omega, ⟨rfl, rfl⟩, ⟨by show PV.v (.int _ _) = _; rw [succ_w (by omega)], trivial⟩, ⟨⟨rfl, ?_⟩, trivial⟩, (by repeat' first | exact trivial | rfl | apply And.intro), h11, trivial⟩
        exact take_map_snoc h11
      simp at h11
      have : k = t.turns.length := by omega
      subst this
      have et : [u8 1, .sl false t.turns.length (flat ((t.turns.take t.turns.length).map fun q => rotN (quart q) one)), .sl false 0 [], .sl false 0 [], .sl false 0 [], .sl false 0 []] = Enc.cs (tgain t) := by
        rw [List.take_length]
        show _ = [u8 1, PV.sl false (t.turns.map _).length _, _, _, _, _]
        rw [List.length_map]; rfl
      have hgt : Enc.ok (tgain t) := tgain_enc ht gt kk.2.1 kt
      obtain ⟨m1, m2, m3⟩ := tgain_mat ht1 kt
      refine ⟨[], _, k_act [t] n m cs (by simpa using ht) hc, rfl, ?_⟩
      refine ⟨false, ?_⟩
      have hg1 : ∀ s ∈ [tgain t], Enc.ok s := by simpa using hgt
      refine ⟨[], _, (show Ret Try.prog 17 [.sl false 1 [u8 1, .sl false t.turns.length (flat ((t.turns.take t.turns.length).map fun q => rotN (quart q) one)), .sl false 0 [], .sl false 0 [], .sl false 0 [], .sl false 0 []], i64 n, i64 m, sl cs] [] (resCu (chact [t] n m cs)) by rw [et, ← tgain_act ht1 kt h2]; exact k_act [tgain t] n m cs hg1 hc), rfl, ?_⟩
      refine ⟨[], _, (show Ret Try.prog 14 [stg t, i64 n, i64 m, i64 0, i64 0] [] (resJ (sat t 0 0, 0)) by rw [← m1]; exact k_matrix t n m 0 0 ht), rfl, ?_⟩
      refine ⟨Nat.le_refl _, ?_⟩
      refine ⟨[], _, (show Ret Try.prog 14 [.agg [u8 1, .sl false t.turns.length (flat ((t.turns.take t.turns.length).map fun q => rotN (quart q) one)), .sl false 0 [], .sl false 0 [], .sl false 0 [], .sl false 0 []], i64 n, i64 m, i64 0, i64 0] [] (resJ (sat t 0 0, 0)) by rw [et, ← m2]; exact k_matrix (tgain t) n m 0 0 hgt), rfl, ?_⟩
      refine ⟨Nat.le_refl _, ?_⟩
      refine ⟨fun _ => ?_, fun h => absurd h (by first | decide | simp)⟩
      refine ⟨fun _ => ?_, fun h => absurd h (by simp)⟩
      refine ⟨[], _, sameC rfl chact_small.1 chact_small.2, rfl, ?_⟩
      refine ⟨fun _ => ?_, fun h => absurd h (by first | decide | simp)⟩
      refine ⟨fun _ => ?_, fun h => absurd h (by first | decide | simp)⟩
      refine ⟨fun _ => ?_, fun h => absurd h (by first | decide | simp)⟩
      refine ⟨_, rfl, rfl, ?_⟩
      refine ⟨_, rfl, rfl, ?_⟩
      refine ⟨fun _ => ?_, fun h => ?_⟩
      · refine ⟨_, rfl, rfl, ?_⟩
        refine ⟨[], _, (show Ret Try.prog 25 [jn (sat t 0 0)] [] (.p (bl true)) by have := jr_valid (sat t 0 0); rw [decide_eq_true m3] at this; exact this), rfl, ?_⟩
        rfl
      · have h : eqPL (Enc.cs (sat t 0 0)) (Enc.cs (sat t 0 0)) = false := h
        rw [eqPL_jnN] at h
        simp at h
    · skip
      refine ⟨fun h10 => ?_, fun h10 => ?_⟩
      · rfl
      simp at h10
      have kt : t.kind = 4 := h10
      have gt := (ck34_two h1).2.1
      have ht1 := (ck34_two h1).2.2.2.1
      have kk := (ck34_two h1).2.2.2.2
      obtain ⟨tl, _, _, _, _, to⟩ := good_own4 gt kt
      refine ⟨Nat, { inv := fun k => k ≤ t.turns.length ∧ (True), slots := [(21, fun k => i64 k)], cells := [(9, 1, 23, 3, fun k => k, fun k => flat ((t.turns.take k).map fun q => rotN (quart q) one))], mu := fun k => t.turns.length - k }, 0, ⟨⟨rfl, trivial⟩, ⟨⟨rfl, rfl⟩, trivial⟩, (by repeat' first | exact trivial | rfl | apply And.intro), Nat.zero_le _, trivial⟩, ?_⟩
      intro k ⟨hk, _⟩
      refine ⟨fun h11 => ?_, fun h11 => ?_⟩
      · simp at h11
        have q := ht.2.2.2.2.1.2 _ (List.getElem_mem h11)
        have rt : Ret Try.prog 23 [cx one, i64 t.turns[k]] [] (resC (rotN (quart t.turns[k]) one, 0)) := by have := r_turn one t.turns[k] q; rw [turn, if_pos oneC_valid] at this; exact this
        refine ⟨_, r_one, rfl, ?_⟩
        refine ⟨k, rfl, h11, by decide, _, idx h11, rfl, ?_⟩
        refine ⟨_, rt, rfl, ?_⟩
        refine ⟨⟨by show k + 1 ≤ _; omega, by show (k + 1) * 24 ≤ _; omega⟩, ?_⟩
        refine ⟨k + 1, by show _ < _; simp; omega, ⟨rfl, rfl⟩, ⟨by show PV.v (.int _ _) = _; rw [succ_w (by omega)], trivial⟩, ⟨⟨rfl, ?_⟩, trivial⟩, (by repeat' first | exact trivial | rfl | apply And.intro), h11, trivial⟩
        exact take_map_snoc h11
      simp at h11
      have : k = t.turns.length := by omega
      subst this
      have et : [u8 1, .sl false t.turns.length (flat ((t.turns.take t.turns.length).map fun q => rotN (quart q) one)), .sl false 0 [], .sl false 0 [], .sl false 0 [], .sl false 0 []] = Enc.cs (tgain t) := by
        rw [List.take_length]
        show _ = [u8 1, PV.sl false (t.turns.map _).length _, _, _, _, _]
        rw [List.length_map]; rfl
      have hgt : Enc.ok (tgain t) := tgain_enc ht gt kk.2.1 kt
      obtain ⟨m1, m2, m3⟩ := tgain_mat ht1 kt
      refine ⟨[], _, k_act [t] n m cs (by simpa using ht) hc, rfl, ?_⟩
      refine ⟨false, ?_⟩
      have hg1 : ∀ s ∈ [tgain t], Enc.ok s := by simpa using hgt
      refine ⟨[], _, (show Ret Try.prog 17 [.sl false 1 [u8 1, .sl false t.turns.length (flat ((t.turns.take t.turns.length).map fun q => rotN (quart q) one)), .sl false 0 [], .sl false 0 [], .sl false 0 [], .sl false 0 []], i64 n, i64 m, sl cs] [] (resCu (chact [t] n m cs)) by rw [et, ← tgain_act ht1 kt h2]; exact k_act [tgain t] n m cs hg1 hc), rfl, ?_⟩
      refine ⟨[], _, (show Ret Try.prog 14 [stg t, i64 n, i64 m, i64 0, i64 0] [] (resJ (sat t 0 0, 0)) by rw [← m1]; exact k_matrix t n m 0 0 ht), rfl, ?_⟩
      refine ⟨Nat.le_refl _, ?_⟩
      refine ⟨[], _, (show Ret Try.prog 14 [.agg [u8 1, .sl false t.turns.length (flat ((t.turns.take t.turns.length).map fun q => rotN (quart q) one)), .sl false 0 [], .sl false 0 [], .sl false 0 [], .sl false 0 []], i64 n, i64 m, i64 0, i64 0] [] (resJ (sat t 0 0, 0)) by rw [et, ← m2]; exact k_matrix (tgain t) n m 0 0 hgt), rfl, ?_⟩
      refine ⟨Nat.le_refl _, ?_⟩
      refine ⟨fun _ => ?_, fun h => absurd h (by first | decide | simp)⟩
      refine ⟨fun _ => ?_, fun h => absurd h (by simp)⟩
      refine ⟨[], _, sameC rfl chact_small.1 chact_small.2, rfl, ?_⟩
      refine ⟨fun _ => ?_, fun h => absurd h (by first | decide | simp)⟩
      refine ⟨fun _ => ?_, fun h => absurd h (by first | decide | simp)⟩
      refine ⟨fun _ => ?_, fun h => absurd h (by first | decide | simp)⟩
      refine ⟨_, rfl, rfl, ?_⟩
      refine ⟨_, rfl, rfl, ?_⟩
      refine ⟨fun _ => ?_, fun h => ?_⟩
      · refine ⟨_, rfl, rfl, ?_⟩
        refine ⟨[], _, (show Ret Try.prog 25 [jn (sat t 0 0)] [] (.p (bl true)) by have := jr_valid (sat t 0 0); rw [decide_eq_true m3] at this; exact this), rfl, ?_⟩
        rfl
      · have h : eqPL (Enc.cs (sat t 0 0)) (Enc.cs (sat t 0 0)) = false := h
        rw [eqPL_jnN] at h
        simp at h
  · skip
    refine ⟨fun h10 => ?_, fun h10 => ?_⟩
    · rfl
    simp at h10
    have kt : t.kind = 4 := h10
    have gt := (ck34_two h1).2.1
    have ht1 := (ck34_two h1).2.2.2.1
    have kk := (ck34_two h1).2.2.2.2
    obtain ⟨tl, _, _, _, _, to⟩ := good_own4 gt kt
    refine ⟨Nat, { inv := fun k => k ≤ t.turns.length ∧ (True), slots := [(21, fun k => i64 k)], cells := [(9, 1, 23, 3, fun k => k, fun k => flat ((t.turns.take k).map fun q => rotN (quart q) one))], mu := fun k => t.turns.length - k }, 0, ⟨⟨rfl, trivial⟩, ⟨⟨rfl, rfl⟩, trivial⟩, (by repeat' first | exact trivial | rfl | apply And.intro), Nat.zero_le _, trivial⟩, ?_⟩
    intro k ⟨hk, _⟩
    refine ⟨fun h11 => ?_, fun h11 => ?_⟩
    · simp at h11
      have q := ht.2.2.2.2.1.2 _ (List.getElem_mem h11)
      have rt : Ret Try.prog 23 [cx one, i64 t.turns[k]] [] (resC (rotN (quart t.turns[k]) one, 0)) := by have := r_turn one t.turns[k] q; rw [turn, if_pos oneC_valid] at this; exact this
      refine ⟨_, r_one, rfl, ?_⟩
      refine ⟨k, rfl, h11, by decide, _, idx h11, rfl, ?_⟩
      refine ⟨_, rt, rfl, ?_⟩
      refine ⟨⟨by show k + 1 ≤ _; omega, by show (k + 1) * 24 ≤ _; omega⟩, ?_⟩
      refine ⟨k + 1, by show _ < _; simp; omega, ⟨rfl, rfl⟩, ⟨by show PV.v (.int _ _) = _; rw [succ_w (by omega)], trivial⟩, ⟨⟨rfl, ?_⟩, trivial⟩, (by repeat' first | exact trivial | rfl | apply And.intro), h11, trivial⟩
      exact take_map_snoc h11
    simp at h11
    have : k = t.turns.length := by omega
    subst this
    have et : [u8 1, .sl false t.turns.length (flat ((t.turns.take t.turns.length).map fun q => rotN (quart q) one)), .sl false 0 [], .sl false 0 [], .sl false 0 [], .sl false 0 []] = Enc.cs (tgain t) := by
      rw [List.take_length]
      show _ = [u8 1, PV.sl false (t.turns.map _).length _, _, _, _, _]
      rw [List.length_map]; rfl
    have hgt : Enc.ok (tgain t) := tgain_enc ht gt kk.2.1 kt
    obtain ⟨m1, m2, m3⟩ := tgain_mat ht1 kt
    refine ⟨[], _, k_act [t] n m cs (by simpa using ht) hc, rfl, ?_⟩
    refine ⟨false, ?_⟩
    have hg1 : ∀ s ∈ [tgain t], Enc.ok s := by simpa using hgt
    refine ⟨[], _, (show Ret Try.prog 17 [.sl false 1 [u8 1, .sl false t.turns.length (flat ((t.turns.take t.turns.length).map fun q => rotN (quart q) one)), .sl false 0 [], .sl false 0 [], .sl false 0 [], .sl false 0 []], i64 n, i64 m, sl cs] [] (resCu (chact [t] n m cs)) by rw [et, ← tgain_act ht1 kt h2]; exact k_act [tgain t] n m cs hg1 hc), rfl, ?_⟩
    refine ⟨[], _, (show Ret Try.prog 14 [stg t, i64 n, i64 m, i64 0, i64 0] [] (resJ (sat t 0 0, 0)) by rw [← m1]; exact k_matrix t n m 0 0 ht), rfl, ?_⟩
    refine ⟨Nat.le_refl _, ?_⟩
    refine ⟨[], _, (show Ret Try.prog 14 [.agg [u8 1, .sl false t.turns.length (flat ((t.turns.take t.turns.length).map fun q => rotN (quart q) one)), .sl false 0 [], .sl false 0 [], .sl false 0 [], .sl false 0 []], i64 n, i64 m, i64 0, i64 0] [] (resJ (sat t 0 0, 0)) by rw [et, ← m2]; exact k_matrix (tgain t) n m 0 0 hgt), rfl, ?_⟩
    refine ⟨Nat.le_refl _, ?_⟩
    refine ⟨fun _ => ?_, fun h => absurd h (by first | decide | simp)⟩
    refine ⟨fun _ => ?_, fun h => absurd h (by simp)⟩
    refine ⟨[], _, sameC rfl chact_small.1 chact_small.2, rfl, ?_⟩
    refine ⟨fun _ => ?_, fun h => absurd h (by first | decide | simp)⟩
    refine ⟨fun _ => ?_, fun h => absurd h (by first | decide | simp)⟩
    refine ⟨fun _ => ?_, fun h => absurd h (by first | decide | simp)⟩
    refine ⟨_, rfl, rfl, ?_⟩
    refine ⟨_, rfl, rfl, ?_⟩
    refine ⟨fun _ => ?_, fun h => ?_⟩
    · refine ⟨_, rfl, rfl, ?_⟩
      refine ⟨[], _, (show Ret Try.prog 25 [jn (sat t 0 0)] [] (.p (bl true)) by have := jr_valid (sat t 0 0); rw [decide_eq_true m3] at this; exact this), rfl, ?_⟩
      rfl
    · have h : eqPL (Enc.cs (sat t 0 0)) (Enc.cs (sat t 0 0)) = false := h
      rw [eqPL_jnN] at h
      simp at h
end Go.Pv
