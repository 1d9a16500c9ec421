/- No gains change closures. -/
import Derived.Test.YteihdjifhnkhpaaPlAmp
namespace Go.Pv
open Go.Vc

def zpr (l : List Z) : Z := l.foldr zmul (1, 0)
theorem zpr_cons (z : Z) (l : List Z) : zpr (z :: l) = zmul z (zpr l) := rfl
theorem zprod_zpr (l : List Cx) : zprod l = zpr (l.map zn) := by
  induction l with
  | nil => rfl
  | cons v r ih => rw [zprod_cons, List.map_cons, zpr_cons, ih]
theorem zpr_perm {l m : List Z} (h : l.Perm m) : zpr l = zpr m := by
  induction h with
  | nil => rfl
  | cons x _ ih => rw [zpr_cons, zpr_cons, ih]
  | swap x y l =>
    rw [zpr_cons, zpr_cons, zpr_cons, zpr_cons, ← zmul_assoc, zmul_comm y, zmul_assoc]
  | trans _ _ h1 h2 => rw [h1, h2]
theorem zmul4 (a b c d : Z) : zmul (zmul a b) (zmul c d) = zmul (zmul a c) (zmul b d) := by
  rw [zmul_assoc, zmul_assoc, ← zmul_assoc b, zmul_comm b c, zmul_assoc c]
theorem zpr_mul {α : Type} (l : List α) (f h : α → Z) : zpr (l.map fun x => zmul (f x) (h x)) = zmul (zpr (l.map f)) (zpr (l.map h)) := by
  induction l with
  | nil => rfl
  | cons x r ih => rw [List.map_cons, List.map_cons, List.map_cons, zpr_cons, zpr_cons, zpr_cons, ih, zmul4]
theorem zpr_conj {α : Type} (l : List α) (f : α → Z) : zpr (l.map fun x => zconj (f x)) = zconj (zpr (l.map f)) := by
  induction l with
  | nil => rfl
  | cons x r ih => rw [List.map_cons, List.map_cons, zpr_cons, zpr_cons, ih, zmul_conj]
theorem zpr_par {α : Type} {l : List α} {f h : α → Z} (H : ∀ x ∈ l, par (f x) (h x)) : par (zpr (l.map f)) (zpr (l.map h)) := by
  induction l with
  | nil => exact par_refl _
  | cons x r ih =>
    rw [List.map_cons, List.map_cons, zpr_cons, zpr_cons]
    exact par_mul (H x (by simp)) (ih fun y hy => H y (by simp [hy]))

def nz (z : Z) : Int := z.1 * z.1 + z.2 * z.2
theorem nz_mul (a b : Z) : nz (zmul a b) = nz a * nz b := by unfold nz zmul; grind
theorem nz_zpr {l : List Z} (h : ∀ z ∈ l, 0 < nz z) : 0 < nz (zpr l) := by
  induction l with
  | nil => decide
  | cons x r ih =>
    rw [zpr_cons, nz_mul]
    exact Int.mul_pos (h x (by simp)) (ih fun y hy => h y (by simp [hy]))

theorem par_real {a p : Z} (h : 0 < nz p) : par (zmul a (zmul p (zconj p))) a := by
  refine ⟨1, nz p, by decide, h, ?_, ?_⟩
  · unfold zmul zconj nz; grind
  · unfold zmul zconj nz; grind

theorem pairs_a {c : List Int} (h1 : 3 ≤ c.length) (h2 : c.length ≤ 8) : (pairs c).map Pr.a = c ∧ (pairs c).map Pr.b = c.drop 1 ++ c.take 1 := by
  match c, h1, h2 with
  | [a, b, c], _, _ => simp [pairs, List.range, List.range.loop]
  | [a, b, c, d], _, _ => simp [pairs, List.range, List.range.loop]
  | [a, b, c, d, e], _, _ => simp [pairs, List.range, List.range.loop]
  | [a, b, c, d, e, f], _, _ => simp [pairs, List.range, List.range.loop]
  | [a, b, c, d, e, f, g], _, _ => simp [pairs, List.range, List.range.loop]
  | [a, b, c, d, e, f, g, h], _, _ => simp [pairs, List.range, List.range.loop]
  | _ :: _ :: _ :: _ :: _ :: _ :: _ :: _ :: _ :: _, _, h => simp at h

/-- How a visibility of two stations changes. -/
structure Ch (g : List Cx) (i j : Int) (c c' : Cx) : Prop where
  v : c'.valid
  z : c'.zero ↔ c.zero
  p : par (zn c') (zmul (zn c) (zmul (zn (at_ g i)) (zconj (zn (at_ g j)))))
  n : ns c' * (ds c * (ds (at_ g i) * ds (at_ g j))) = ds c' * (ns c * (ns (at_ g i) * ns (at_ g j)))

theorem ch_conj {g : List Cx} {i j : Int} {c c' : Cx} (h : Ch g i j c c') : Ch g j i (conj c) (conj c') := by
  refine ⟨conj_valid h.v, by rw [conj_zero, conj_zero]; exact h.z, ?_, ?_⟩
  · have := par_conj h.p
    rw [← zmul_conj, ← zmul_conj] at this
    have e : zconj (zconj (zn (at_ g j))) = zn (at_ g j) := by unfold zconj; simp
    rw [e, zmul_comm (zconj (zn (at_ g i)))] at this
    exact this
  · rw [ns_conj, ns_conj, ds_conj, ds_conj, Int.mul_comm (ds (at_ g j)), Int.mul_comm (ns (at_ g j))]
    exact h.n

theorem act1_ch {g : List Cx} (hg : ∀ c ∈ g, okG c) (h8 : g.length = 8) {v : Vis} (hv : v.good 8) (h : (act1 g v).2 = 0) : Ch g v.i v.j v.v (act1 g v).1 := by
  obtain ⟨v1, v2, v3, v4, v5⟩ := hv
  obtain ⟨gi, zi⟩ := hg _ (at_mem (g := g) (i := v.i) v1 (by omega))
  obtain ⟨gj, zj⟩ := hg _ (at_mem (g := g) (i := v.j) (by omega) (by omega))
  unfold act1 at h ⊢
  split at h
  · simp at h
  · rename_i h1
    rw [if_neg h1]
    have h1 : (mul (at_ g v.i) v.v).2 = 0 := by simpa using h1
    split at h
    · simp at h
    · rename_i h2
      rw [if_neg h2]
      have o1 := (mul_ok gi v5 h1).2
      have o2 := (mul_ok o1 (conj_valid gj) h).2
      refine ⟨o2, ?_, ?_, ?_⟩
      · rw [mul_zero_iff o1 (conj_valid gj) h, mul_zero_iff gi v5 h1, conj_zero]
        constructor
        · rintro ((h | h) | h)
          · exact absurd h zi
          · exact h
          · exact absurd h zj
        · exact fun h => .inl (.inr h)
      · have p1 := mul_par o1 (conj_valid gj) h
        have p2 := mul_par gi v5 h1
        refine par_trans p1 (par_trans (par_mul p2 (par_refl _)) ?_)
        rw [show zn (conj (at_ g v.j)) = zconj (zn (at_ g v.j)) from rfl, zmul_comm (zn (at_ g v.i)), zmul_assoc]
        exact par_refl _
      · have n1 := mul_ns o1 (conj_valid gj) h
        have n2 := mul_ns gi v5 h1
        rw [ns_conj, ds_conj] at n1
        have w := ds_pos o1
        generalize mul (mul (at_ g v.i) v.v).1 (conj (at_ g v.j)) = y at *
        generalize (mul (at_ g v.i) v.v).1 = x at *
        generalize ns y.1 = ny at *
        generalize ds y.1 = dy at *
        generalize ns x = nx at *
        generalize ds x = dx at *
        generalize ns (at_ g v.i) = a1 at *
        generalize ds (at_ g v.i) = a2 at *
        generalize ns (at_ g v.j) = b1 at *
        generalize ds (at_ g v.j) = b2 at *
        generalize ns v.v = c1 at *
        generalize ds v.v = c2 at *
        apply Int.eq_of_mul_eq_mul_right (a := dx) (by omega)
        have t1 : ny * (c2 * (a2 * b2)) * dx = (ny * (dx * b2)) * (a2 * c2) := by grind
        have t2 : dy * (nx * b1) * (a2 * c2) = dy * b1 * (nx * (a2 * c2)) := by grind
        rw [t1, n1, t2, n2]; grind

theorem got_act {g : List Cx} (hg : ∀ c ∈ g, okG c) (h8 : g.length = 8) {l : List Vis} (hl : ∀ v ∈ l, v.good 8) (h : ∀ v ∈ l, (act1 g v).2 = 0) (i j : Int) :
    (got i j l = none ∧ got i j (l.map fun v => v.set (act1 g v).1) = none) ∨ ∃ c c', got i j l = some c ∧ got i j (l.map fun v => v.set (act1 g v).1) = some c' ∧ Ch g i j c c' := by
  induction l with
  | nil => exact .inl ⟨rfl, rfl⟩
  | cons v r ih =>
    have c := act1_ch hg h8 (hl v (by simp)) (h v (by simp))
    rw [List.map_cons]
    unfold got
    by_cases h1 : v.i = i ∧ v.j = j
    · rw [if_pos h1, if_pos (show (v.set (act1 g v).1).i = i ∧ (v.set (act1 g v).1).j = j from h1)]
      obtain ⟨rfl, rfl⟩ := h1
      exact .inr ⟨_, _, rfl, rfl, c⟩
    · rw [if_neg h1, if_neg (show ¬ ((v.set (act1 g v).1).i = i ∧ (v.set (act1 g v).1).j = j) from h1)]
      by_cases h2 : v.i = j ∧ v.j = i
      · rw [if_pos h2, if_pos (show (v.set (act1 g v).1).i = j ∧ (v.set (act1 g v).1).j = i from h2)]
        obtain ⟨rfl, rfl⟩ := h2
        exact .inr ⟨_, _, rfl, rfl, ch_conj c⟩
      · rw [if_neg h2, if_neg (show ¬ ((v.set (act1 g v).1).i = j ∧ (v.set (act1 g v).1).j = i) from h2)]
        exact ih (fun u hu => hl u (by simp [hu])) fun u hu => h u (by simp [hu])


theorem act26_ok {g : List Cx} {l : List Vis} (h : (act26 g l).2 = 0) : ck26 g = 0 ∧ (act26 g l).1 = (l.map fun v => v.set (act1 g v).1) ∧ ∀ v ∈ l, (act1 g v).2 = 0 := by
  unfold act26 at h ⊢
  split at h
  · rename_i h'; exact absurd h h'
  · rename_i h1
    rw [if_neg h1]
    split at h
    · rename_i h'; exact absurd h h'
    · rename_i h2
      rw [if_neg h2]
      split at h
      · rename_i h3
        rw [if_pos h3]
        rw [List.all_eq_true] at h3
        exact ⟨by simpa using h1, rfl, fun v hv => by simpa using h3 v hv⟩
      · simp at h

theorem act26_err {g : List Cx} {l : List Vis} (h0 : ck27 l = 0) (hg : ck26 g = 0) (h8 : g.length = 8) : (act26 g l).2 = 0 ∨ (act26 g l).2 = 16 := by
  unfold act26
  rw [if_neg (by simp [hg]), if_neg]
  · split
    · exact .inl rfl
    · exact .inr rfl
  · obtain ⟨h1, h2, _⟩ := ck27_0 h0
    rw [h8]
    unfold all26
    rw [if_neg (by omega), if_pos]
    · simp
    · rw [List.all_eq_true]
      intro v hv
      simpa using h2 v hv

/-- What a table makes of valid visibilities is valid. -/
theorem act_ck27 {g : List Cx} {l : List Vis} (h0 : ck27 l = 0) (hg : ∀ c ∈ g, okG c) (h8 : g.length = 8) (h : ∀ v ∈ l, (act1 g v).2 = 0) : ck27 (l.map fun v => v.set (act1 g v).1) = 0 := by
  obtain ⟨h1, h2, h3⟩ := ck27_0 h0
  have e : all26 (l.map fun v => v.set (act1 g v).1) 8 = 0 := by
    unfold all26
    rw [if_neg (by rw [List.length_map]; omega), if_pos]
    rw [List.all_eq_true]
    intro v hv
    rw [List.mem_map] at hv
    obtain ⟨u, hu, rfl⟩ := hv
    have hgood := h2 u hu
    have := (act1_ch hg h8 hgood (h u hu)).v
    exact decide_eq_true ⟨hgood.1, hgood.2.1, hgood.2.2.1, hgood.2.2.2.1, this⟩
  unfold ck27
  rw [if_neg (by simp [e]), if_pos]
  rw [List.map_map]
  exact h3

section
variable {g : List Cx} {l m : List Vis}

/-- A table's action, step by step. -/
structure Acts (g : List Cx) (l m : List Vis) : Prop where
  h0 : ck27 l = 0
  h1 : ck27 m = 0
  hg : ∀ c ∈ g, okG c
  h8 : g.length = 8
  st : ∀ i j, (got i j l = none ∧ got i j m = none) ∨ ∃ c c', got i j l = some c ∧ got i j m = some c' ∧ Ch g i j c c'

theorem acts_along (H : Acts g l m) (st : List Pr) : (along27 m st).2 = (along27 l st).2 := by
  unfold along27
  have e1 : st.all (fun s => (got s.a s.b m).isSome) = st.all (fun s => (got s.a s.b l).isSome) := by
    congr 1
    funext s
    rcases H.st s.a s.b with ⟨h1, h2⟩ | ⟨c, c', h1, h2, _⟩
    · rw [h1, h2]
    · rw [h1, h2]; rfl
  have e2 : st.any (fun s => decide (gD m s).zero) = st.any (fun s => decide (gD l s).zero) := by
    congr 1
    funext s
    unfold gD
    rcases H.st s.a s.b with ⟨h1, h2⟩ | ⟨c, c', h1, h2, h3⟩
    · rw [h1, h2]
    · rw [h1, h2]
      show decide c'.zero = decide c.zero
      rw [Bool.eq_iff_iff]; simp [h3.z]
  rw [e1, e2]
  split
  · split <;> rfl
  · rfl

theorem acts_ch (H : Acts g l m) {s : Pr} (h : (got s.a s.b l).isSome = true) : Ch g s.a s.b (gD l s) (gD m s) := by
  unfold gD
  rcases H.st s.a s.b with ⟨h1, h2⟩ | ⟨c, c', h1, h2, h3⟩
  · rw [h1] at h; cases h
  · rw [h1, h2]; exact h3

/-- No gains change phases. -/
theorem acts_phase (H : Acts g l m) (c : List Int) : ((phase l c).2 = (phase m c).2 ∨ (phase l c).2 = 16 ∨ (phase m c).2 = 16) ∧ ((phase l c).2 = 0 → (phase m c).2 = 0 → (phase l c).1 = (phase m c).1) := by
  by_cases hc : circle c
  · have ha := acts_along H (pairs c)
    refine ⟨?_, fun h1 h2 => ?_⟩
    · rcases phase_cases H.h0 hc with ⟨h1, h2⟩ | ⟨h1, h2⟩
      · rcases phase_cases H.h1 hc with ⟨k1, k2⟩ | ⟨k1, k2⟩
        · rw [h2, k2]; exact .inl ha.symm
        · exact absurd (ha.symm.trans k1) h1
      · rcases phase_cases H.h1 hc with ⟨k1, k2⟩ | ⟨k1, k2⟩
        · exact absurd (ha.trans h1) k1
        · rcases h2 with h2 | h2
          · rw [h2]; exact .inr (.inl rfl)
          · rcases k2 with k2 | k2
            · rw [k2]; exact .inr (.inr rfl)
            · rw [h2.1, k2.1]; exact .inl rfl
    · obtain ⟨_, d1, g1, p1⟩ := phase_ok H.h0 hc h1
      obtain ⟨_, d2, g2, p2⟩ := phase_ok H.h1 hc h2
      have hal : (along27 l (pairs c)).2 = 0 := by
        rcases phase_cases H.h0 hc with ⟨q1, q2⟩ | ⟨q1, _⟩
        · rw [q2] at h1; exact absurd h1 q1
        · exact q1
      obtain ⟨_, hgood, _⟩ := ck27_0 H.h0
      obtain ⟨_, e2, _⟩ := along27_0 hgood hal
      have hp : par (zprod ((pairs c).map (gD m))) (zprod ((pairs c).map (gD l))) := by
        rw [zprod_zpr, zprod_zpr, List.map_map, List.map_map]
        refine par_trans (zpr_par (h := fun s => zmul (zn (gD l s)) (zmul (zn (at_ g s.a)) (zconj (zn (at_ g s.b))))) fun s hs => (acts_ch H (e2 s hs)).p) ?_
        rw [zpr_mul (pairs c) (fun s => zn (gD l s)), zpr_mul (pairs c) (fun s => zn (at_ g s.a)), zpr_conj]
        have eA : (pairs c).map (fun s => zn (at_ g s.a)) = c.map fun i => zn (at_ g i) := by
          rw [show (fun s : Pr => zn (at_ g s.a)) = (fun i => zn (at_ g i)) ∘ Pr.a from rfl, ← List.map_map, (pairs_a hc.1 hc.2.1).1]
        have eB : zpr ((pairs c).map (fun s => zn (at_ g s.b))) = zpr (c.map fun i => zn (at_ g i)) := by
          rw [show (fun s : Pr => zn (at_ g s.b)) = (fun i => zn (at_ g i)) ∘ Pr.b from rfl, ← List.map_map, (pairs_a hc.1 hc.2.1).2]
          exact zpr_perm ((rot_perm c 1).map _)
        rw [eA, eB]
        refine par_real (nz_zpr fun z hz => ?_)
        rw [List.mem_map] at hz
        obtain ⟨i, hi, rfl⟩ := hz
        have hb := hc.2.2.1 i hi
        exact ns_pos (H.hg _ (at_mem hb.1 (by have := H.h8; omega))).2
      exact cx_of_zn (par_unique (par_trans p1 (par_symm (par_trans p2 hp))) g1 g2) (d1.trans d2.symm)
  · have e1 : phase l c = (c0, 2) := by rw [phase, if_neg (by simp [H.h0]), if_pos hc]
    have e2 : phase m c = (c0, 2) := by rw [phase, if_neg (by simp [H.h1]), if_pos hc]
    rw [e1, e2]
    exact ⟨.inl rfl, fun _ _ => rfl⟩

/-- No gains change amplitudes. -/
theorem acts_amp (H : Acts g l m) (a b c d : Int) : ((amp l a b c d).2 = (amp m a b c d).2 ∨ (amp l a b c d).2 = 16 ∨ (amp m a b c d).2 = 16) ∧ ((amp l a b c d).2 = 0 → (amp m a b c d).2 = 0 → (amp l a b c d).1 = (amp m a b c d).1) := by
  have ha := acts_along H [⟨a, b⟩, ⟨c, d⟩, ⟨a, c⟩, ⟨b, d⟩]
  refine ⟨?_, fun h h' => ?_⟩
  · rcases amp_cases H.h0 a b c d with ⟨p1, p2⟩ | ⟨p1, p2, p3⟩ | ⟨p1, p2, p3⟩
    · rcases amp_cases H.h1 a b c d with ⟨q1, q2⟩ | ⟨q1, q2, q3⟩ | ⟨q1, q2, q3⟩
      · rw [p2, q2]; exact .inl rfl
      · exact absurd q1 p1
      · exact absurd q1 p1
    · rcases amp_cases H.h1 a b c d with ⟨q1, q2⟩ | ⟨q1, q2, q3⟩ | ⟨q1, q2, q3⟩
      · exact absurd p1 q1
      · rw [p3, q3]; exact .inl ha.symm
      · exact absurd (ha.symm.trans q2) p2
    · rcases amp_cases H.h1 a b c d with ⟨q1, q2⟩ | ⟨q1, q2, q3⟩ | ⟨q1, q2, q3⟩
      · exact absurd p1 q1
      · exact absurd (ha.trans p2) q2
      · rcases p3 with p3 | p3
        · rw [p3]; exact .inr (.inl rfl)
        · rcases q3 with q3 | q3
          · rw [q3]; exact .inr (.inr rfl)
          · rw [p3.1, q3.1]; exact .inl rfl
  · obtain ⟨k0, k1, k2, k3, k4⟩ := amp_ok H.h0 h
    obtain ⟨_, q1, q2, q3, q4⟩ := amp_ok H.h1 h'
    obtain ⟨_, hgood, _⟩ := ck27_0 H.h0
    obtain ⟨_, e2, e3⟩ := along27_0 hgood k0
    have ap : apart [a, b, c, d] := by
      rcases amp_cases H.h0 a b c d with ⟨p1, p2⟩ | ⟨p1, _⟩ | ⟨p1, _⟩
      · rw [p2] at h; simp at h
      · exact p1
      · exact p1
    have gv : ∀ i ∈ [a, b, c, d], 0 < ns (at_ g i) ∧ 0 < ds (at_ g i) := fun i hi => by
      have hb := ap.1 i hi
      have := H.hg _ (at_mem hb.1 (by have := H.h8; omega))
      exact ⟨ns_pos this.2, ds_pos this.1⟩
    have na := gv a (by simp)
    have nb := gv b (by simp)
    have nc := gv c (by simp)
    have nd := gv d (by simp)
    have x1 := (acts_ch H (e2 ⟨a, b⟩ (by simp))).n
    have x2 := (acts_ch H (e2 ⟨c, d⟩ (by simp))).n
    have x3 := (acts_ch H (e2 ⟨a, c⟩ (by simp))).n
    have x4 := (acts_ch H (e2 ⟨b, d⟩ (by simp))).n
    simp only at x1 x2 x3 x4
    have hA := e3 ⟨a, b⟩ (by simp)
    have hB := e3 ⟨c, d⟩ (by simp)
    have hC := e3 ⟨a, c⟩ (by simp)
    have hD := e3 ⟨b, d⟩ (by simp)
    have u1 := prod4_pos (ds_pos hA.1) (ds_pos hB.1) (ns_pos hC.2) (ns_pos hD.2)
    have u2 := prod4_pos (ns_pos hA.2) (ns_pos hB.2) (ds_pos hC.1) (ds_pos hD.1)
    have v1 := (acts_ch H (e2 ⟨a, b⟩ (by simp)))
    have v2 := (acts_ch H (e2 ⟨c, d⟩ (by simp)))
    have v3 := (acts_ch H (e2 ⟨a, c⟩ (by simp)))
    have v4 := (acts_ch H (e2 ⟨b, d⟩ (by simp)))
    have u3 := prod4_pos (ns_pos fun h => hA.2 (v1.z.1 h)) (ns_pos fun h => hB.2 (v2.z.1 h)) (ds_pos v3.v) (ds_pos v4.v)
    clear v1 v2 v3 v4 hA hB hC hD
    have hfin : (amp l a b c d).1.num * (amp m a b c d).1.den = (amp m a b c d).1.num * (amp l a b c d).1.den := by
      generalize (amp l a b c d).1.num = N at *
      generalize (amp l a b c d).1.den = D at *
      generalize (amp m a b c d).1.num = N' at *
      generalize (amp m a b c d).1.den = D' at *
      generalize ns (gD l ⟨a, b⟩) = np at *
      generalize ds (gD l ⟨a, b⟩) = dp at *
      generalize ns (gD l ⟨c, d⟩) = nq at *
      generalize ds (gD l ⟨c, d⟩) = dq at *
      generalize ns (gD l ⟨a, c⟩) = nr at *
      generalize ds (gD l ⟨a, c⟩) = dr at *
      generalize ns (gD l ⟨b, d⟩) = nt at *
      generalize ds (gD l ⟨b, d⟩) = dt at *
      generalize ns (gD m ⟨a, b⟩) = np' at *
      generalize ds (gD m ⟨a, b⟩) = dp' at *
      generalize ns (gD m ⟨c, d⟩) = nq' at *
      generalize ds (gD m ⟨c, d⟩) = dq' at *
      generalize ns (gD m ⟨a, c⟩) = nr' at *
      generalize ds (gD m ⟨a, c⟩) = dr' at *
      generalize ns (gD m ⟨b, d⟩) = nt' at *
      generalize ds (gD m ⟨b, d⟩) = dt' at *
      generalize ns (at_ g a) = ga at *
      generalize ds (at_ g a) = ha at *
      generalize ns (at_ g b) = gb at *
      generalize ds (at_ g b) = hb at *
      generalize ns (at_ g c) = gc at *
      generalize ds (at_ g c) = hc at *
      generalize ns (at_ g d) = gd at *
      generalize ds (at_ g d) = hd at *
      have cross : (np' * nq' * (dr' * dt')) * (dp * dq * (nr * nt)) = (dp' * dq' * (nr' * nt')) * (np * nq * (dr * dt)) := by
        have hk : (ha * hb * (hc * hd)) * (ga * gb * (gc * gd)) ≠ 0 := by
          have := Int.mul_pos (prod4_pos na.2 nb.2 nc.2 nd.2) (prod4_pos na.1 nb.1 nc.1 nd.1)
          omega
        apply Int.eq_of_mul_eq_mul_right hk
        have t1 : (np' * nq' * (dr' * dt')) * (dp * dq * (nr * nt)) * ((ha * hb * (hc * hd)) * (ga * gb * (gc * gd))) = (np' * (dp * (ha * hb))) * (nq' * (dq * (hc * hd))) * ((dr' * (nr * (ga * gc))) * (dt' * (nt * (gb * gd)))) := by ac_rfl
        rw [t1, x1, x2, ← x3, ← x4]
        ac_rfl
      have hk : (np' * nq' * (dr' * dt')) * (dp * dq * (nr * nt)) ≠ 0 := by
        have := Int.mul_pos u3 u1
        omega
      apply Int.eq_of_mul_eq_mul_right hk
      generalize np' * nq' * (dr' * dt') = A' at *
      generalize dp * dq * (nr * nt) = B at *
      generalize dp' * dq' * (nr' * nt') = B' at *
      generalize np * nq * (dr * dt) = A at *
      have t1 : N * D' * (A' * B) = (N * B) * (D' * A') := by ac_rfl
      rw [t1, k4, ← q4, cross]
      ac_rfl
    have := frac_unique k1 k2 q1 q2 k3 q3 hfin
    cases hx : (amp l a b c d).1
    cases hy : (amp m a b c d).1
    rw [hx, hy] at this
    simp only at this
    simp [this.1, this.2]
end

theorem acts_of {g : List Cx} {l : List Vis} (h0 : ck27 l = 0) (h8 : g.length = 8) (h : (act26 g l).2 = 0) : Acts g l (act26 g l).1 := by
  obtain ⟨k1, k2, k3⟩ := act26_ok h
  obtain ⟨_, hgood, _⟩ := ck27_0 h0
  have hg := (ck26_0 k1).2.2
  rw [k2]
  exact ⟨h0, act_ck27 h0 hg h8 k3, hg, h8, got_act hg h8 hgood k3⟩

end Go.Pv
