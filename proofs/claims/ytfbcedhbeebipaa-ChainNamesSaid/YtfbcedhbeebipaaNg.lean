/- Contracts of the reference's chains: Check, Times, of, Matrix, Cube, Cubes. -/
import Derived.Test.YtfbcedhbeebipaaNf
import Derived.Test.YtfbcedhbeebipaaPlChainCm
namespace Go.Pv
open Go.Vc
open Go.Proofs
set_option maxRecDepth 10000

set_option maxHeartbeats 4000000 in
theorem r_turn (a : Cx) (q : Int) (hq : I64 q) : Ret Try.prog 23 [cx a, i64 q] [] (resC (turn a q)) := by
  refine ret (fn := Try.f23) (by kernel_rfl) (by kernel_rfl) rfl ?_
  refine ⟨[], _, r_check a, rfl, ?_⟩
  refine ⟨fun h1 => ?_, fun h1 => ?_⟩
  · have hv : ¬ a.valid := by intro h; unfold chk at h1; rw [if_pos h] at h1; simp at h1
    rw [turn, if_neg hv]; rfl
  · have hv : a.valid := by
      by_cases h : a.valid
      · exact h
      · unfold chk at h1; rw [if_neg h] at h1; simp at h1
    obtain ⟨qw, q4⟩ := quart_w hq
    refine ⟨Nat, { inv := fun k => k ≤ quart q, slots := [(6, fun k => i64 k)], boxes := [(0, fun k => Enc.cs (rotN k a))], mu := fun k => quart q - k }, 0, ⟨⟨rfl, trivial⟩, trivial, (by repeat' first | exact trivial | rfl | apply And.intro), Nat.zero_le _⟩, ?_⟩
    intro k hk
    have hf := rotN_fits k ⟨hv.2.2.1, hv.2.2.2.1⟩
    refine ⟨by decide, by decide, ?_⟩
    refine ⟨fun h2 => ?_, fun h2 => ?_⟩
    · have h2 : decide ((k : Int) < (IntKind.i64.wrap (q.tmod 4 + 4)).tmod 4) = true := h2
      rw [qw] at h2
      simp at h2
      have e : IntKind.i64.wrap (0 - (rotN k a).im) = -(rotN k a).im := by unfold fits at hf; rw [wrap_id (by omega) (by omega)]; omega
      have e2 : Enc.cs (rotN (k + 1) a) = [i64 (IntKind.i64.wrap (0 - (rotN k a).im)), i64 (rotN k a).re, i64 (rotN k a).den] := by rw [e, ← rot_rotN]; rfl
      refine ⟨k + 1, by show _ < _; simp; omega, ⟨rfl, rfl⟩, ⟨by show PV.v (.int _ _) = _; rw [succ_w (by omega)], trivial⟩, trivial, ?_, h2⟩
      refine ⟨?_, rfl, trivial⟩
      show _ = mapP (Enc.cs (rotN (k + 1) a))
      rw [e2]; rfl
    · have h2 : decide ((k : Int) < (IntKind.i64.wrap (q.tmod 4 + 4)).tmod 4) = false := h2
      rw [qw] at h2
      simp at h2
      have : k = quart q := by simp only at hk; omega
      subst this
      rw [turn, if_pos hv]; rfl

theorem r_check34 (l : List Stg) (n m : Int) (hl : ∀ s ∈ l, Enc.ok s) : Ret Try.prog 21 [sl l, i64 n, i64 m] [] (.p (i64 (ck34 l n m))) := by
  refine ret (fn := Try.f21) (by kernel_rfl) (by kernel_rfl) rfl ?_
  refine ⟨fun h1 => ?_, fun h1 => ?_⟩
  rotate_left
  · simp at h1
    rw [ck34, if_pos (by omega)]; rfl
  simp at h1
  refine ⟨fun h2 => ?_, fun h2 => ?_⟩
  rotate_left
  · simp at h2
    rw [ck34, if_pos (by omega)]; rfl
  simp at h2
  refine ⟨fun h3 => ?_, fun h3 => ?_⟩
  rotate_left
  · simp at h3
    rw [ck34, if_pos (by omega)]; rfl
  simp at h3
  refine ⟨fun h4 => ?_, fun h4 => ?_⟩
  · simp at h4
    rw [ck34, if_pos (by omega)]; rfl
  simp at h4
  refine ⟨fun h5 => ?_, fun h5 => ?_⟩
  · simp at h5
    rw [ck34, if_neg (by omega), if_pos (by omega)]; rfl
  simp at h5
  refine ⟨Nat, { inv := fun k => k ≤ l.length ∧ (∀ s ∈ l.take k, s.good n m), slots := [(7, fun k => i64 k)],  mu := fun k => l.length - k }, 0, ⟨⟨rfl, trivial⟩, trivial, (by repeat' first | exact trivial | rfl | apply And.intro), Nat.zero_le _, by simp⟩, ?_⟩
  intro k ⟨hk, hall⟩
  refine ⟨fun h6 => ?_, fun h6 => ?_⟩
  · simp at h6
    refine ⟨k, rfl, h6, by decide, _, idx h6, rfl, ?_⟩
    refine ⟨[], _, r_stage l[k] n m (hl _ (List.getElem_mem h6)), rfl, ?_⟩
    refine ⟨fun h7 => ?_, fun h7 => ?_⟩
    · simp at h7
      show SV.p (i64 8) = _
      rw [ck34_8 (by omega) (by omega) (List.getElem_mem h6) h7]
    · simp at h7
      refine ⟨k + 1, by show _ < _; simp; omega, ⟨rfl, rfl⟩, ⟨by show PV.v (.int _ _) = _; rw [succ_w (by omega)], trivial⟩, trivial, (by repeat' first | exact trivial | rfl | apply And.intro), h6, ?_⟩
      intro s hs
      rw [List.take_succ_eq_append_getElem h6, List.mem_append] at hs
      rcases hs with hs | hs
      · exact hall s hs
      · simp at hs; subst hs; exact h7
  · simp at h6
    have : k = l.length := by omega
    subst this
    rw [List.take_length] at hall
    show SV.p (i64 0) = _
    rw [ck34_ok (by omega) (by omega) hall]

theorem r_times (a : Cx) : Ret Try.prog 33 [cx a] [] (.p (jn (diag a))) := by
  refine ret (fn := Try.f33) (by kernel_rfl) (by kernel_rfl) rfl ?_
  refine ⟨Nat.le_refl _, ?_⟩
  exact ⟨_, rfl, rfl, rfl⟩

theorem r_of (s : Stg) (n m : Int) (hs : Enc.ok s) (hg : s.good n m) {i c : Nat} (hi : (i : Int) < n) (hc : (c : Int) < m) : Ret Try.prog 49 [stg s, i64 i, i64 c] [] (.p (jn (sat s i c))) := by
  have hk := hg.1
  obtain ⟨kd, g, b, ms, t, f⟩ := s
  obtain rfl | rfl | rfl | rfl | rfl : kd = 1 ∨ kd = 2 ∨ kd = 3 ∨ kd = 4 ∨ kd = 5 := by simp at hk; omega
  · obtain ⟨l, _, _, _, _, ho⟩ := good_own1 hg rfl
    have h : i < g.length := by simp at l; omega
    show Ret Try.prog _ _ _ (.p (jn (diag (gat g i))))
    rw [gat_get h]
    refine ret (fn := Try.f49) (by kernel_rfl) (by kernel_rfl) rfl ?_
    refine ⟨fun _ => ?_, fun h => absurd h (by first | decide | simp)⟩
    refine ⟨i, rfl, h, by decide, _, idx h, rfl, ?_⟩
    refine ⟨[], _, r_times g[i], rfl, ?_⟩
    refine ⟨Nat.le_refl _, ?_⟩
    exact ⟨_, rfl, rfl, rfl⟩
  · obtain ⟨l, _, _, _, _, ho⟩ := good_own2 hg rfl
    have h : i < b.length := by simp at l; omega
    have hlc : c < b[i].length := by have := (ho _ (List.getElem_mem h)).1; omega
    show Ret Try.prog _ _ _ (.p (jn (diag (gat (el [] b i) c))))
    rw [el_get h, gat_get hlc]
    refine ret (fn := Try.f49) (by kernel_rfl) (by kernel_rfl) rfl ?_
    refine ⟨fun h => absurd h (by first | decide | simp), fun _ => ?_⟩
    refine ⟨fun _ => ?_, fun h => absurd h (by first | decide | simp)⟩
    refine ⟨i, rfl, h, by decide, _, idx h, rfl, ?_⟩
    refine ⟨c, rfl, hlc, by decide, _, idx hlc, rfl, ?_⟩
    refine ⟨[], _, r_times b[i][c], rfl, ?_⟩
    refine ⟨Nat.le_refl _, ?_⟩
    exact ⟨_, rfl, rfl, rfl⟩
  · obtain ⟨l, _, _, _, _, ho⟩ := good_own3 hg rfl
    have h : i < ms.length := by simp at l; omega
    show Ret Try.prog _ _ _ (.p (jn (el j0 ms i)))
    rw [el_get h]
    refine ret (fn := Try.f49) (by kernel_rfl) (by kernel_rfl) rfl ?_
    refine ⟨fun h => absurd h (by first | decide | simp), fun _ => ?_⟩
    refine ⟨fun h => absurd h (by first | decide | simp), fun _ => ?_⟩
    refine ⟨fun _ => ?_, fun h => absurd h (by first | decide | simp)⟩
    refine ⟨i, rfl, h, by decide, _, idx h, rfl, ?_⟩
    refine ⟨Nat.le_refl _, ?_⟩
    exact ⟨_, rfl, rfl, rfl⟩
  · obtain ⟨l, _, _, _, _, ho⟩ := good_own4 hg rfl
    have h : i < t.length := by simp at l; omega
    show Ret Try.prog _ _ _ (.p (jn (diag (rotN (quart (el 0 t i)) one))))
    rw [el_get h]
    have q := hs.2.2.2.2.1.2 _ (List.getElem_mem h)
    have rt : Ret Try.prog 23 [cx one, i64 t[i]] [] (resC (rotN (quart t[i]) one, 0)) := by have := r_turn one t[i] q; rw [turn, if_pos oneC_valid] at this; exact this
    refine ret (fn := Try.f49) (by kernel_rfl) (by kernel_rfl) rfl ?_
    refine ⟨fun h => absurd h (by first | decide | simp), fun _ => ?_⟩
    refine ⟨fun h => absurd h (by first | decide | simp), fun _ => ?_⟩
    refine ⟨fun h => absurd h (by first | decide | simp), fun _ => ?_⟩
    refine ⟨fun _ => ?_, fun h => absurd h (by first | decide | simp)⟩
    refine ⟨_, r_one, rfl, ?_⟩
    refine ⟨i, rfl, h, by decide, _, idx h, rfl, ?_⟩
    refine ⟨_, rt, rfl, ?_⟩
    refine ⟨[], _, r_times (rotN (quart t[i]) one), rfl, ?_⟩
    refine ⟨Nat.le_refl _, ?_⟩
    exact ⟨_, rfl, rfl, rfl⟩
  · obtain ⟨l, _, _, _, _, ho⟩ := good_own5 hg rfl
    have h : i < f.length := by simp at l; omega
    have hlc : c < f[i].length := by have := (ho _ (List.getElem_mem h)).1; omega
    show Ret Try.prog _ _ _ (.p (jn (el j0 (el [] f i) c)))
    rw [el_get h, el_get hlc]
    refine ret (fn := Try.f49) (by kernel_rfl) (by kernel_rfl) rfl ?_
    refine ⟨fun h => absurd h (by first | decide | simp), fun _ => ?_⟩
    refine ⟨fun h => absurd h (by first | decide | simp), fun _ => ?_⟩
    refine ⟨fun h => absurd h (by first | decide | simp), fun _ => ?_⟩
    refine ⟨fun h => absurd h (by first | decide | simp), fun _ => ?_⟩
    refine ⟨i, rfl, h, by decide, _, idx h, rfl, ?_⟩
    refine ⟨c, rfl, hlc, by decide, _, idx hlc, rfl, ?_⟩
    refine ⟨Nat.le_refl _, ?_⟩
    exact ⟨_, rfl, rfl, rfl⟩

theorem r_matrix34 (s : Stg) (n m i c : Int) (hs : Enc.ok s) : Ret Try.prog 29 [stg s, i64 n, i64 m, i64 i, i64 c] [] (resJ (chmat s n m i c)) := by
  refine ret (fn := Try.f29) (by kernel_rfl) (by kernel_rfl) rfl ?_
  refine ⟨[], _, r_check34 [s] n m (by simp [hs]), rfl, ?_⟩
  refine ⟨fun h1 => ?_, fun h1 => ?_⟩
  · simp at h1
    refine ⟨Nat.le_refl _, ?_⟩
    rw [chmat, if_pos h1]
    exact ⟨_, rfl, rfl, rfl⟩
  simp at h1
  obtain ⟨k1, k2, k3⟩ := ck34_0 h1
  have bad : (i < 0 ∨ n ≤ i ∨ c < 0 ∨ m ≤ c) → chmat s n m i c = (j0, 2) := fun h => by rw [chmat, if_neg (by simp [h1]), if_pos h]
  refine ⟨fun h2 => ?_, fun h2 => ?_⟩
  rotate_left
  · simp at h2
    refine ⟨Nat.le_refl _, ?_⟩
    rw [bad (by omega)]
    exact ⟨_, rfl, rfl, rfl⟩
  simp at h2
  refine ⟨fun h3 => ?_, fun h3 => ?_⟩
  rotate_left
  · simp at h3
    refine ⟨Nat.le_refl _, ?_⟩
    rw [bad (by omega)]
    exact ⟨_, rfl, rfl, rfl⟩
  simp at h3
  refine ⟨fun h4 => ?_, fun h4 => ?_⟩
  rotate_left
  · simp at h4
    refine ⟨Nat.le_refl _, ?_⟩
    rw [bad (by omega)]
    exact ⟨_, rfl, rfl, rfl⟩
  simp at h4
  refine ⟨fun h5 => ?_, fun h5 => ?_⟩
  · simp at h5
    refine ⟨Nat.le_refl _, ?_⟩
    rw [bad (by omega)]
    exact ⟨_, rfl, rfl, rfl⟩
  simp at h5
  obtain ⟨i, rfl⟩ := Int.eq_ofNat_of_zero_le (show 0 ≤ i by omega)
  obtain ⟨c, rfl⟩ := Int.eq_ofNat_of_zero_le (show 0 ≤ c by omega)
  refine ⟨[], _, r_of s n m hs (k3 s (by simp)) (i := i) (c := c) (by omega) (by omega), rfl, ?_⟩
  refine ⟨Nat.le_refl _, ?_⟩
  rw [chmat, if_neg (by simp [h1]), if_neg (by omega)]
  exact ⟨_, rfl, rfl, rfl⟩

theorem r_cube34 (c : Cube) (n m : Int) (hc : Enc.ok c) : Ret Try.prog 46 [cu c, i64 n, i64 m] [] (.p (bl (decide (c.good n m)))) := by
  have bad : ¬ c.good n m → SV.p (bl false) = SV.p (bl (decide (c.good n m))) := fun h => by rw [decide_eq_false h]
  have hl := ml hc.2.2.1
  refine ret (fn := Try.f46) (by kernel_rfl) (by kernel_rfl) rfl ?_
  refine ⟨fun h1 => ?_, fun h1 => ?_⟩
  rotate_left
  · simp at h1
    exact bad fun h => by have := h.1; omega
  simp at h1
  refine ⟨fun h2 => ?_, fun h2 => ?_⟩
  rotate_left
  · simp at h2
    exact bad fun h => by have := h.2.1; omega
  simp at h2
  refine ⟨fun h3 => ?_, fun h3 => ?_⟩
  rotate_left
  · simp at h3
    exact bad fun h => by have := h.2.2.1; omega
  simp at h3
  refine ⟨fun h4 => ?_, fun h4 => ?_⟩
  · simp at h4
    exact bad fun h => h4 h.2.2.2.1
  simp at h4
  refine ⟨Nat, { inv := fun k => k ≤ c.v.length ∧ (∀ a ∈ c.v.take k, a.valid), slots := [(7, fun k => i64 k)],  mu := fun k => c.v.length - k }, 0, ⟨⟨rfl, trivial⟩, trivial, (by repeat' first | exact trivial | rfl | apply And.intro), Nat.zero_le _, by simp⟩, ?_⟩
  intro k ⟨hk, hall⟩
  refine ⟨fun h5 => ?_, fun h5 => ?_⟩
  · have h5 : decide ((k : Int) < m) = true := h5
    simp at h5
    have h5 : k < c.v.length := by omega
    have hok := hc.2.2.2 _ (List.getElem_mem h5)
    have bad1 : ¬ c.v[k].valid → SV.p (bl false) = SV.p (bl (decide (c.good n m))) := fun h => bad fun q => h (q.2.2.2.2 _ (List.getElem_mem h5))
    refine ⟨k, rfl, h5, by decide, _, idx h5, rfl, ?_⟩
    refine ⟨[], _, jr_valid c.v[k], rfl, ?_⟩
    refine ⟨fun h6 => ?_, fun h6 => ?_⟩
    · simp at h6
      exact bad1 h6
    · simp at h6
      refine ⟨k + 1, by show _ < _; simp; omega, ⟨rfl, rfl⟩, ⟨by show PV.v (.int _ _) = _; rw [succ_w3 (by omega)], trivial⟩, trivial, (by repeat' first | exact trivial | rfl | apply And.intro), h5, ?_⟩
      intro a ha
      rw [List.take_succ_eq_append_getElem h5, List.mem_append] at ha
      rcases ha with ha | ha
      · exact hall a ha
      · simp at ha; subst ha; exact h6
  · have h5 : decide ((k : Int) < m) = false := h5
    simp at h5
    have : k = c.v.length := by omega
    subst this
    rw [List.take_length] at hall
    show SV.p (bl true) = _
    rw [decide_eq_true (show c.good n m from ⟨by omega, by omega, by omega, by omega, hall⟩)]

theorem r_cubes34 (cs : List Cube) (n m : Int) (hc : ∀ c ∈ cs, Enc.ok c) : Ret Try.prog 22 [sl cs, i64 n, i64 m] [] (.p (i64 (cck cs n m))) := by
  refine ret (fn := Try.f22) (by kernel_rfl) (by kernel_rfl) rfl ?_
  refine ⟨fun h1 => ?_, fun h1 => ?_⟩
  · simp at h1
    rw [cck, if_pos (by omega)]; rfl
  simp at h1
  refine ⟨Nat, { inv := fun k => k ≤ cs.length ∧ (∀ c ∈ cs.take k, c.good n m), slots := [(7, fun k => i64 k)],  mu := fun k => cs.length - k }, 0, ⟨⟨rfl, trivial⟩, trivial, (by repeat' first | exact trivial | rfl | apply And.intro), Nat.zero_le _, by simp⟩, ?_⟩
  intro k ⟨hk, hall⟩
  refine ⟨fun h2 => ?_, fun h2 => ?_⟩
  · simp at h2
    refine ⟨k, rfl, h2, by decide, _, idx h2, rfl, ?_⟩
    refine ⟨[], _, r_cube34 cs[k] n m (hc _ (List.getElem_mem h2)), rfl, ?_⟩
    refine ⟨fun h3 => ?_, fun h3 => ?_⟩
    · simp at h3
      rw [cck_8 (by omega) (List.getElem_mem h2) h3]; rfl
    · simp at h3
      refine ⟨k + 1, by show _ < _; simp; omega, ⟨rfl, rfl⟩, ⟨by show PV.v (.int _ _) = _; rw [succ_w (by omega)], trivial⟩, trivial, (by repeat' first | exact trivial | rfl | apply And.intro), h2, ?_⟩
      intro a ha
      rw [List.take_succ_eq_append_getElem h2, List.mem_append] at ha
      rcases ha with ha | ha
      · exact hall a ha
      · simp at ha; subst ha; exact h3
  · simp at h2
    have : k = cs.length := by omega
    subst this
    rw [List.take_length] at hall
    rw [cck, if_neg (by omega), if_pos hall]; rfl
end Go.Pv
