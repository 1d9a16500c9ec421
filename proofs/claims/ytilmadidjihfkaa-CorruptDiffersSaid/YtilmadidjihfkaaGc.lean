/- Contracts of the gains' functions: acting, as a whole. -/
import Derived.Test.YtilmadidjihfkaaGb
namespace Go.Pv
open Go.Vc
open Go.Proofs
set_option maxRecDepth 10000

/-- What Act's two rounds of products come to. -/
theorem act_rounds {g : List Cx} {l : List Vis} (hg : ck26 g = 0) (hl : all26 l g.length = 0) :
    (perr mul (fun k => at_ g (l.getD k ⟨0, 0, c0, 0⟩).i) (fun k => (l.getD k ⟨0, 0, c0, 0⟩).v) l.length ≠ 0 → act26 g l = ([], 16) ∧ perr mul (fun k => at_ g (l.getD k ⟨0, 0, c0, 0⟩).i) (fun k => (l.getD k ⟨0, 0, c0, 0⟩).v) l.length = 16) ∧
    (perr mul (fun k => at_ g (l.getD k ⟨0, 0, c0, 0⟩).i) (fun k => (l.getD k ⟨0, 0, c0, 0⟩).v) l.length = 0 →
      ∀ f : Nat → Cx, (∀ k, k < l.length → f k = (mul (at_ g (l.getD k ⟨0, 0, c0, 0⟩).i) (l.getD k ⟨0, 0, c0, 0⟩).v).1) →
      (perr tconj f (fun k => at_ g (l.getD k ⟨0, 0, c0, 0⟩).j) l.length ≠ 0 → act26 g l = ([], 16) ∧ perr tconj f (fun k => at_ g (l.getD k ⟨0, 0, c0, 0⟩).j) l.length = 16) ∧
      (perr tconj f (fun k => at_ g (l.getD k ⟨0, 0, c0, 0⟩).j) l.length = 0 → act26 g l = (l.map (fun v => v.set (act1 g v).1), 0) ∧ ∀ k, (hk : k < l.length) → (tconj (f k) (at_ g (l.getD k ⟨0, 0, c0, 0⟩).j)).1 = (act1 g l[k]).1)) := by
  obtain ⟨g1, g2, g3⟩ := ck26_0 hg
  obtain ⟨l1, l2⟩ := all26_0 hl
  have get : ∀ k, (hk : k < l.length) → l.getD k ⟨0, 0, c0, 0⟩ = l[k] := fun k hk => by simp [List.getD, hk]
  have vi : ∀ k, (hk : k < l.length) → (at_ g l[k].i).valid ∧ (at_ g l[k].j).valid ∧ l[k].v.valid := fun k hk => by
    have hgd := l2 l[k] (List.getElem_mem hk)
    obtain ⟨a1, a2, a3, a4, a5⟩ := hgd
    exact ⟨(g3 _ (at_mem a1 (by omega))).1, (g3 _ (at_mem (by omega) a3)).1, a5⟩
  have bad : ∀ k, (hk : k < l.length) → (act1 g l[k]).2 ≠ 0 → act26 g l = ([], 16) := fun k hk h => by
    rw [act26, if_neg (by omega), if_neg (by omega), if_neg]
    rw [List.all_eq_true]
    intro h'
    exact h (by simpa using h' l[k] (List.getElem_mem hk))
  constructor
  · intro h
    have h16 : perr mul (fun k => at_ g (l.getD k ⟨0, 0, c0, 0⟩).i) (fun k => (l.getD k ⟨0, 0, c0, 0⟩).v) l.length = 16 := by
      rcases perr_16 (m := mul) (u := fun k => at_ g (l.getD k ⟨0, 0, c0, 0⟩).i) (v := fun k => (l.getD k ⟨0, 0, c0, 0⟩).v) (n := l.length) (fun k hk => by
        simp only [get k hk]
        exact mul_err (vi k hk).1 (vi k hk).2.2) with h0 | h0
      · exact absurd h0 h
      · exact h0
    refine ⟨?_, h16⟩
    rw [Ne, perr_0] at h
    obtain ⟨k, h⟩ := Classical.not_forall.1 h
    obtain ⟨hk, h⟩ := Classical.not_imp.1 h
    rw [get k hk] at h
    exact bad k hk (by rw [act1, if_pos h]; simp)
  · intro h0 f hf
    rw [perr_0] at h0
    have hf' : ∀ k, (hk : k < l.length) → f k = (mul (at_ g l[k].i) l[k].v).1 ∧ (mul (at_ g l[k].i) l[k].v).2 = 0 ∧ (f k).valid := fun k hk => by
      have e1 := hf k hk
      have e2 := h0 k hk
      rw [get k hk] at e1 e2
      exact ⟨e1, e2, by rw [e1]; exact (mul_ok (vi k hk).1 (vi k hk).2.2 e2).2⟩
    have tc : ∀ k, (hk : k < l.length) → tconj (f k) (at_ g (l.getD k ⟨0, 0, c0, 0⟩).j) = mul (mul (at_ g l[k].i) l[k].v).1 (conj (at_ g l[k].j)) := fun k hk => by
      rw [get k hk, tconj, if_pos (vi k hk).2.1, (hf' k hk).1]
    constructor
    · intro h
      have h16 : perr tconj f (fun k => at_ g (l.getD k ⟨0, 0, c0, 0⟩).j) l.length = 16 := by
        rcases perr_16 (m := tconj) (u := f) (v := fun k => at_ g (l.getD k ⟨0, 0, c0, 0⟩).j) (n := l.length) (fun k hk => by
          simp only [tc k hk]
          rw [← (hf' k hk).1]
          exact mul_err (hf' k hk).2.2 (conj_valid (vi k hk).2.1)) with h1 | h1
        · exact absurd h1 h
        · exact h1
      refine ⟨?_, h16⟩
      rw [Ne, perr_0] at h
      obtain ⟨k, h⟩ := Classical.not_forall.1 h
      obtain ⟨hk, h⟩ := Classical.not_imp.1 h
      simp only [tc k hk] at h
      exact bad k hk (by rw [act1, if_neg (by rw [(hf' k hk).2.1]; simp), if_pos h]; simp)
    · intro h
      rw [perr_0] at h
      have h2 : ∀ k, (hk : k < l.length) → act1 g l[k] = mul (mul (at_ g l[k].i) l[k].v).1 (conj (at_ g l[k].j)) := fun k hk => by
        have := h k hk
        simp only [tc k hk] at this
        rw [act1, if_neg (by rw [(hf' k hk).2.1]; simp), if_neg (by rw [this]; simp)]
      refine ⟨?_, fun k hk => by rw [tc k hk, h2 k hk]⟩
      rw [act26, if_neg (by omega), if_neg (by omega), if_pos]
      rw [List.all_eq_true]
      intro v hv
      obtain ⟨k, hk, rfl⟩ := List.mem_iff_getElem.1 hv
      have := h k hk
      simp only [tc k hk] at this
      rw [h2 k hk]
      simpa using this

theorem g_act (g : List Cx) (l : List Vis) (hg : ∀ c ∈ g, Enc.ok c) (hl : ∀ v ∈ l, Enc.ok v) : Ret Try.prog 66 [sl g, sl l] [] (resV (act26 g l)) := by
  refine ret (fn := Try.f66) (by kernel_rfl) (by kernel_rfl) rfl ?_
  refine ⟨[], _, g_check g hg, rfl, ?_⟩
  refine ⟨fun h1 => ?_, fun h1 => ?_⟩
  · simp at h1
    rw [act26, if_pos h1]; rfl
  simp at h1
  obtain ⟨g1, g2, g3⟩ := ck26_0 h1
  refine ⟨fun h2 => ?_, fun h2 => ?_⟩
  · simp at h2
    rw [act26, if_neg (by omega), if_pos (by rw [all26, if_pos (by omega)]; decide), all26, if_pos (by omega)]; rfl
  simp at h2
  refine ⟨Nat, { inv := fun k => k ≤ l.length ∧ (∀ v ∈ l.take k, v.good g.length), slots := [(25, fun k => i64 k)],  mu := fun k => l.length - k }, 0, ⟨⟨rfl, trivial⟩, trivial, (by repeat' first | exact trivial | rfl | apply And.intro), Nat.zero_le _, by simp⟩, ?_⟩
  intro k ⟨hk, hall⟩
  refine ⟨fun h3 => ?_, fun h3 => ?_⟩
  · simp at h3
    refine ⟨k, rfl, h3, by decide, _, idx h3, rfl, ?_⟩
    refine ⟨[], _, g_valid l[k] g.length (hl _ (List.getElem_mem h3)), rfl, ?_⟩
    refine ⟨fun h4 => ?_, fun h4 => ?_⟩
    · simp at h4
      have := all26_8 (by omega) h3 h4
      rw [act26, if_neg (by omega), if_pos (by omega), this]; rfl
    · simp at h4
      refine ⟨k + 1, by show _ < _; simp; omega, ⟨rfl, rfl⟩, ⟨by show PV.v (.int _ _) = _; rw [succ_w (by omega)], trivial⟩, trivial, (by repeat' first | exact trivial | rfl | apply And.intro), h3, ?_⟩
      intro v hv
      rw [List.take_succ_eq_append_getElem h3, List.mem_append] at hv
      rcases hv with hv | hv
      · exact hall v hv
      · simp at hv; subst hv; exact h4
  simp at h3
  have : k = l.length := by omega
  subst this
  rw [List.take_length] at hall
  have ha : all26 l g.length = 0 := by
    rw [all26, if_neg (by omega), if_pos]
    rw [List.all_eq_true]
    intro v hv
    simpa using hall v hv
  have get : ∀ k, (hk : k < l.length) → l.getD k ⟨0, 0, c0, 0⟩ = l[k] := fun k hk => by simp [List.getD, hk]
  have vi : ∀ k, (hk : k < l.length) → (at_ g l[k].i).valid ∧ (at_ g l[k].j).valid ∧ l[k].v.valid := fun k hk => by
    have hgd := hall l[k] (List.getElem_mem hk)
    obtain ⟨a1, a2, a3, a4, a5⟩ := hgd
    exact ⟨(g3 _ (at_mem a1 (by omega))).1, (g3 _ (at_mem (by omega) a3)).1, a5⟩
  obtain ⟨r1, r2⟩ := act_rounds h1 ha
  refine ⟨[], _, g_prodsA1 l.length (by omega) [sl g] [sl l] (fun k => at_ g (l.getD k ⟨0, 0, c0, 0⟩).i) (fun k => (l.getD k ⟨0, 0, c0, 0⟩).v) mul (fun k hk => by simp only [get k hk]; exact g_act1 g l k hk (hall _ (List.getElem_mem hk))) (fun k hk => by simp only [get k hk]; exact c_mul _ _ (ok_valid (vi k hk).1) (ok_valid (vi k hk).2.2)), rfl, ?_⟩
  by_cases hp : perr mul (fun k => at_ g (l.getD k ⟨0, 0, c0, 0⟩).i) (fun k => (l.getD k ⟨0, 0, c0, 0⟩).v) l.length = 0
  rotate_left
  · obtain ⟨q1, q2⟩ := r1 hp
    have e : prods mul (fun k => at_ g (l.getD k ⟨0, 0, c0, 0⟩).i) (fun k => (l.getD k ⟨0, 0, c0, 0⟩).v) l.length = ([], 16) := by rw [prods, if_neg hp, q2]
    refine ⟨fun h5 => ?_, fun h5 => ?_⟩
    · show SV.tup [.p (.sl false 0 []), .p (i64 (prods _ _ _ _).2)] = resV _
      rw [q1, e]; rfl
    · rw [e] at h5; simp at h5
  have e : prods mul (fun k => at_ g (l.getD k ⟨0, 0, c0, 0⟩).i) (fun k => (l.getD k ⟨0, 0, c0, 0⟩).v) l.length = ((List.range l.length).map fun k => (mul (at_ g (l.getD k ⟨0, 0, c0, 0⟩).i) (l.getD k ⟨0, 0, c0, 0⟩).v).1, 0) := by rw [prods, if_pos hp]
  generalize hpr : prods mul (fun k => at_ g (l.getD k ⟨0, 0, c0, 0⟩).i) (fun k => (l.getD k ⟨0, 0, c0, 0⟩).v) l.length = pr at e
  refine ⟨fun h5 => ?_, fun h5 => ?_⟩
  · rw [e] at h5; simp at h5
  have hfl : pr.1.length = l.length := by rw [e]; simp
  have hfk : ∀ k, (hk : k < l.length) → pr.1[k]'(by omega) = (mul (at_ g l[k].i) l[k].v).1 := fun k hk => by
    subst e; simp [hk]
  have hf2 : ∀ k, k < l.length → pr.1.getD k c0 = (mul (at_ g (l.getD k ⟨0, 0, c0, 0⟩).i) (l.getD k ⟨0, 0, c0, 0⟩).v).1 := fun k hk => by
    rw [get k hk, ← hfk k hk]; simp [List.getD, hfl, hk]
  have hfv : ∀ k, (hk : k < l.length) → (pr.1.getD k c0).valid := fun k hk => by
    have h0 := (perr_0.1 hp) k hk
    rw [hf2 k hk]
    simp only [get k hk] at h0 ⊢
    exact (mul_ok (vi k hk).1 (vi k hk).2.2 h0).2
  obtain ⟨s1, s2⟩ := r2 hp (fun k => pr.1.getD k c0) hf2
  refine ⟨[], _, g_prodsA2 l.length (by omega) [sl pr.1] [sl g] [sl l] (fun k => pr.1.getD k c0) (fun k => at_ g (l.getD k ⟨0, 0, c0, 0⟩).j) tconj (fun k hk => by have h0 : pr.1.getD k c0 = pr.1[k]'(by omega) := (by simp [List.getD, hfl, hk]); simp only [h0, get k hk]; exact g_act2 pr.1 g l k hk (by omega) (hall _ (List.getElem_mem hk))) (fun k hk => by simp only [get k hk]; exact g_timesConj _ _ (ok_valid (hfv k hk)) (ok_valid (vi k hk).2.1)), rfl, ?_⟩
  by_cases hq : perr tconj (fun k => pr.1.getD k c0) (fun k => at_ g (l.getD k ⟨0, 0, c0, 0⟩).j) l.length = 0
  rotate_left
  · obtain ⟨q1, q2⟩ := s1 hq
    have e2 : prods tconj (fun k => pr.1.getD k c0) (fun k => at_ g (l.getD k ⟨0, 0, c0, 0⟩).j) l.length = ([], 16) := by rw [prods, if_neg hq, q2]
    refine ⟨fun h6 => ?_, fun h6 => ?_⟩
    · show SV.tup [.p (.sl false 0 []), .p (i64 (prods _ _ _ _).2)] = resV _
      rw [q1, e2]; rfl
    · rw [e2] at h6; simp at h6
  obtain ⟨t1, t2⟩ := s2 hq
  have e2 : prods tconj (fun k => pr.1.getD k c0) (fun k => at_ g (l.getD k ⟨0, 0, c0, 0⟩).j) l.length = ((List.range l.length).map fun k => (tconj (pr.1.getD k c0) (at_ g (l.getD k ⟨0, 0, c0, 0⟩).j)).1, 0) := by rw [prods, if_pos hq]
  generalize hps : prods tconj (fun k => pr.1.getD k c0) (fun k => at_ g (l.getD k ⟨0, 0, c0, 0⟩).j) l.length = ps at e2
  refine ⟨fun h6 => ?_, fun h6 => ?_⟩
  · rw [e2] at h6; simp at h6
  have hpl : ps.1.length = l.length := by rw [e2]; simp
  have hpk : ∀ k, (hk : k < l.length) → ps.1[k]'(by omega) = (act1 g l[k]).1 := fun k hk => by
    subst e2; simp only [List.getElem_map, List.getElem_range]; exact t2 k hk
  refine ⟨l.length, l.length, rfl, rfl, Nat.le_refl _, ⟨by show l.length + 0 ≤ _; omega, by show (l.length + 0) * 48 ≤ _; omega⟩, ?_⟩
  refine ⟨Nat, { inv := fun k => k ≤ l.length, slots := [(60, fun k => i64 k)], boxes := [(3, fun k => flat (((l.take k).map fun v => v.set (act1 g v).1) ++ List.replicate (l.length - k) ⟨0, 0, c0, 0⟩))], mu := fun k => l.length - k }, 0, ⟨⟨rfl, trivial⟩, trivial, ?_, Nat.zero_le _⟩, ?_⟩
  · refine ⟨trivial, trivial, trivial, ⟨rfl, ?_⟩, trivial⟩
    exact (reps_flat (⟨0, 0, c0, 0⟩ : Vis) l.length)
  intro k hk
  refine ⟨fun h7 => ?_, fun h7 => ?_⟩
  · simp at h7
    refine ⟨k, rfl, h7, by decide, _, idx h7, rfl, ?_⟩
    have h7' : k < ps.1.length := by omega
    refine ⟨k, rfl, h7', by decide, _, idx h7', rfl, ?_⟩
    have hset : spl (flat (((l.take k).map fun v => v.set (act1 g v).1) ++ List.replicate (l.length - k) ⟨0, 0, c0, 0⟩)) (k * 6) (Enc.cs (l[k].set (act1 g l[k]).1)) = flat (((l.take (k + 1)).map fun v => v.set (act1 g v).1) ++ List.replicate (l.length - (k + 1)) ⟨0, 0, c0, 0⟩) := by
      have := flat_put (xs := ((l.take k).map fun v => v.set (act1 g v).1) ++ List.replicate (l.length - k) (⟨0, 0, c0, 0⟩ : Vis)) (i := k) (by simp; omega) (l[k].set (act1 g l[k]).1)
      rw [show (k * 6 : Nat) = k * Enc.sz Vis from rfl, this, fill_set _ _ _ _ _ (by simp; omega) h7, List.take_succ_eq_append_getElem h7, List.map_append, List.map_singleton]
    refine ⟨k, rfl, h7, ?_⟩
    refine ⟨by show k * 6 + 6 ≤ (flat (((l.take k).map fun v => v.set (act1 g v).1) ++ List.replicate (l.length - k) (⟨0, 0, c0, 0⟩ : Vis))).length; rw [flat_length]; simp; show _ ≤ _ * 6; omega, ?_⟩
    refine ⟨k + 1, by show _ < _; simp; omega, ⟨rfl, rfl⟩, ⟨by show PV.v (.int _ _) = _; rw [succ_w (by omega)], trivial⟩, trivial, ⟨trivial, trivial, trivial, ⟨rfl, ?_⟩, trivial⟩, h7⟩
    have hx := hpk k h7
    rw [← hx] at hset
    exact hset
  simp at h7
  have : k = l.length := by omega
  subst this
  show SV.tup [.p (.sl false l.length (flat (((l.take l.length).map fun v => v.set (act1 g v).1) ++ List.replicate (l.length - l.length) ⟨0, 0, c0, 0⟩))), .p (i64 0)] = resV _
  rw [t1]
  simp
end Go.Pv
