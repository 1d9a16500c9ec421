/- Directions of complex numbers: closure phases do not depend on the order of the steps. -/
import Derived.Test.YteihdjifhnkhpaaPlClo
namespace Go.Pv
open Go.Vc

/-- Whole complex numbers. -/
abbrev Z := Int × Int
def zmul (a b : Z) : Z := (a.1 * b.1 - a.2 * b.2, a.1 * b.2 + a.2 * b.1)
def zconj (a : Z) : Z := (a.1, -a.2)
def zn (c : Cx) : Z := (c.re, c.im)

theorem zmul_comm (a b : Z) : zmul a b = zmul b a := by
  unfold zmul; ext <;> grind
theorem zmul_assoc (a b c : Z) : zmul (zmul a b) c = zmul a (zmul b c) := by
  unfold zmul; ext <;> grind
theorem zmul_one (a : Z) : zmul a (1, 0) = a := by
  unfold zmul; ext <;> simp
theorem zmul_conj (a b : Z) : zmul (zconj a) (zconj b) = zconj (zmul a b) := by
  unfold zmul zconj; ext <;> grind

def zprod (l : List Cx) : Z := l.foldr (fun v z => zmul (zn v) z) (1, 0)

theorem zprod_cons (v : Cx) (l : List Cx) : zprod (v :: l) = zmul (zn v) (zprod l) := rfl

theorem zprod_perm {l m : List Cx} (h : l.Perm m) : zprod l = zprod m := by
  induction h with
  | nil => rfl
  | cons x _ ih => rw [zprod_cons, zprod_cons, ih]
  | swap x y l =>
    rw [zprod_cons, zprod_cons, zprod_cons, zprod_cons, ← zmul_assoc, zmul_comm (zn y), zmul_assoc]
  | trans _ _ h1 h2 => rw [h1, h2]

theorem zprod_conj (l : List Cx) : zprod (l.map conj) = zconj (zprod l) := by
  induction l with
  | nil => rfl
  | cons v r ih =>
    rw [List.map_cons, zprod_cons, zprod_cons, ih, show zn (conj v) = zconj (zn v) from rfl, zmul_conj]

/-- The same direction. -/
def par (a b : Z) : Prop := ∃ s t : Int, 0 < s ∧ 0 < t ∧ a.1 * s = b.1 * t ∧ a.2 * s = b.2 * t

theorem par_refl (a : Z) : par a a := ⟨1, 1, by decide, by decide, rfl, rfl⟩
theorem par_symm {a b : Z} : par a b → par b a := fun ⟨s, t, h1, h2, h3, h4⟩ => ⟨t, s, h2, h1, h3.symm, h4.symm⟩
theorem par_trans {a b c : Z} : par a b → par b c → par a c := fun ⟨s, t, h1, h2, h3, h4⟩ ⟨u, v, k1, k2, k3, k4⟩ =>
  ⟨s * u, t * v, Int.mul_pos h1 k1, Int.mul_pos h2 k2, by grind, by grind⟩
theorem par_mul {a b c d : Z} : par a b → par c d → par (zmul a c) (zmul b d) := fun ⟨s, t, h1, h2, h3, h4⟩ ⟨u, v, k1, k2, k3, k4⟩ =>
  ⟨s * u, t * v, Int.mul_pos h1 k1, Int.mul_pos h2 k2, by unfold zmul; grind, by unfold zmul; grind⟩
theorem par_conj {a b : Z} : par a b → par (zconj a) (zconj b) := fun ⟨s, t, h1, h2, h3, h4⟩ => ⟨s, t, h1, h2, h3, by unfold zconj; simp only; grind⟩

theorem par_unique {a b : Z} (h : par a b) (ha : Int.gcd a.1 a.2 = 1) (hb : Int.gcd b.1 b.2 = 1) : a = b := by
  obtain ⟨s, t, h1, h2, h3, h4⟩ := h
  have e : Int.gcd (a.1 * s) (a.2 * s) = Int.gcd (b.1 * t) (b.2 * t) := by rw [h3, h4]
  rw [Int.gcd_mul_right, Int.gcd_mul_right, ha, hb] at e
  have : s = t := by omega
  subst this
  have hs : s ≠ 0 := by omega
  exact Prod.ext (Int.eq_of_mul_eq_mul_right hs h3) (Int.eq_of_mul_eq_mul_right hs h4)

theorem ray_par {a : Cx} (ha : a.valid) (hz : ¬ a.zero) : par (zn (ray a).1) (zn a) := by
  obtain ⟨_, _, _, e, _⟩ := ray_ok ha hz
  have hg := nz_gcd hz
  rw [e]
  refine ⟨Int.gcd a.re a.im, 1, by omega, by decide, ?_, ?_⟩
  · show a.re / (Int.gcd a.re a.im : Int) * (Int.gcd a.re a.im : Int) = a.re * 1
    rw [Int.ediv_mul_cancel (Int.gcd_dvd_left ..), Int.mul_one]
  · show a.im / (Int.gcd a.re a.im : Int) * (Int.gcd a.re a.im : Int) = a.im * 1
    rw [Int.ediv_mul_cancel (Int.gcd_dvd_right ..), Int.mul_one]

theorem mul_par {a b : Cx} (ha : a.valid) (hb : b.valid) (h : (mul a b).2 = 0) : par (zn (mul a b).1) (zmul (zn a) (zn b)) := by
  rw [(mul_ok ha hb h).1]
  obtain ⟨g, hg, e1, e2, _⟩ := norm_spec (x := a.re * b.re - a.im * b.im) (y := a.re * b.im + a.im * b.re) (mul_pos' ha.1 hb.1)
  exact ⟨g, 1, by omega, by decide, by rw [Int.mul_one]; exact e1.symm, by rw [Int.mul_one]; exact e2.symm⟩

/-- A step's direction. -/
theorem turned_par {r v : Cx} (hr : r.valid) (hrz : ¬ r.zero) (hv : v.valid) (hz : ¬ v.zero) (h : (turned r v).2 = 0) : par (zn (turned r v).1) (zmul (zn r) (zn v)) := by
  rcases turned_err hr hrz hv hz with h' | h'
  · obtain ⟨h1, h2, _⟩ := h'
    obtain ⟨k1, k2, k3, _, _⟩ := ray_ok hv hz
    have hnz : ¬ (mul r (ray v).1).1.zero := by
      rw [mul_zero_iff hr k2 h1]
      rintro (h | h)
      · exact hrz h
      · exact k3 h
    rw [h2]
    exact par_trans (ray_par (mul_ok hr k2 h1).2 hnz) (par_trans (mul_par hr k2 h1) (par_mul (par_refl _) (ray_par hv hz)))
  · rw [h'.2] at h; simp at h

theorem fold_par : ∀ (vs : List Cx) {r : Cx}, r.valid → ¬ r.zero → (∀ v ∈ vs, v.valid ∧ ¬ v.zero) → (fold27 r vs).2 = 0 → par (zn (fold27 r vs).1) (zmul (zn r) (zprod vs))
  | [], r, _, _, _, _ => by
    show par (zn r) (zmul (zn r) (1, 0))
    rw [zmul_one]; exact par_refl _
  | v :: vs, r, hr, hrz, hv, h => by
    rw [fold27] at h ⊢
    have hv0 := hv v (by simp)
    split at h
    · rename_i h'; exact absurd h h'
    · rename_i h'
      rw [if_neg h']
      have h' : (turned r v).2 = 0 := by simpa using h'
      have ht := turned_par hr hrz hv0.1 hv0.2 h'
      rcases turned_err hr hrz hv0.1 hv0.2 with t | t
      · have ih := fold_par vs t.2.2.2.1 t.2.2.2.2.1 (fun v hv' => hv v (by simp [hv'])) h
        rw [zprod_cons, ← zmul_assoc]
        exact par_trans ih (par_mul ht (par_refl _))
      · rw [t.2] at h'; simp at h'

theorem fold_good : ∀ (vs : List Cx) {r : Cx}, r.valid → ¬ r.zero → r.den = 1 → Int.gcd r.re r.im = 1 → (∀ v ∈ vs, v.valid ∧ ¬ v.zero) →
    ((fold27 r vs).2 = 0 ∧ (fold27 r vs).1.valid ∧ (fold27 r vs).1.den = 1 ∧ Int.gcd (fold27 r vs).1.re (fold27 r vs).1.im = 1) ∨ fold27 r vs = (c0, 16)
  | [], r, hr, hrz, h1, h2, _ => .inl ⟨rfl, hr, h1, h2⟩
  | v :: vs, r, hr, hrz, h1, h2, hv => by
    have hv0 := hv v (by simp)
    rw [fold27]
    rcases turned_err hr hrz hv0.1 hv0.2 with t | t
    · rw [if_neg (by simp [t.2.2.1])]
      exact fold_good vs t.2.2.2.1 t.2.2.2.2.1 t.2.2.2.2.2.1 t.2.2.2.2.2.2 fun v hv' => hv v (by simp [hv'])
    · rw [t.2, if_pos (by simp)]; exact .inr rfl

/-- The same circle, begun elsewhere. -/
theorem pairs_rot {c : List Int} (h1 : 3 ≤ c.length) (h2 : c.length ≤ 8) {k : Nat} (hk : k < c.length) : pairs (c.drop k ++ c.take k) = (pairs c).drop k ++ (pairs c).take k := by
  match c, h1, h2, hk with
  | [a, b, c], _, _, hk =>
    obtain rfl | rfl | rfl : k = 0 ∨ k = 1 ∨ k = 2 := by simp at hk; omega
    all_goals simp [pairs, List.range, List.range.loop]
  | [a, b, c, d], _, _, hk =>
    obtain rfl | rfl | rfl | rfl : k = 0 ∨ k = 1 ∨ k = 2 ∨ k = 3 := by simp at hk; omega
    all_goals simp [pairs, List.range, List.range.loop]
  | [a, b, c, d, e], _, _, hk =>
    obtain rfl | rfl | rfl | rfl | rfl : k = 0 ∨ k = 1 ∨ k = 2 ∨ k = 3 ∨ k = 4 := by simp at hk; omega
    all_goals simp [pairs, List.range, List.range.loop]
  | [a, b, c, d, e, f], _, _, hk =>
    obtain rfl | rfl | rfl | rfl | rfl | rfl : k = 0 ∨ k = 1 ∨ k = 2 ∨ k = 3 ∨ k = 4 ∨ k = 5 := by simp at hk; omega
    all_goals simp [pairs, List.range, List.range.loop]
  | [a, b, c, d, e, f, g], _, _, hk =>
    obtain rfl | rfl | rfl | rfl | rfl | rfl | rfl : k = 0 ∨ k = 1 ∨ k = 2 ∨ k = 3 ∨ k = 4 ∨ k = 5 ∨ k = 6 := by simp at hk; omega
    all_goals simp [pairs, List.range, List.range.loop]
  | [a, b, c, d, e, f, g, h], _, _, hk =>
    obtain rfl | rfl | rfl | rfl | rfl | rfl | rfl | rfl : k = 0 ∨ k = 1 ∨ k = 2 ∨ k = 3 ∨ k = 4 ∨ k = 5 ∨ k = 6 ∨ k = 7 := by simp at hk; omega
    all_goals simp [pairs, List.range, List.range.loop]
  | _ :: _ :: _ :: _ :: _ :: _ :: _ :: _ :: _ :: _, _, h, _ => simp at h

def swap (s : Pr) : Pr := ⟨s.b, s.a⟩

theorem pairs_rev {c : List Int} (h1 : 3 ≤ c.length) (h2 : c.length ≤ 8) : pairs c.reverse = (((pairs c).map swap).reverse).drop 1 ++ (((pairs c).map swap).reverse).take 1 := by
  match c, h1, h2 with
  | [a, b, c], _, _ => simp [pairs, swap, List.range, List.range.loop]
  | [a, b, c, d], _, _ => simp [pairs, swap, List.range, List.range.loop]
  | [a, b, c, d, e], _, _ => simp [pairs, swap, List.range, List.range.loop]
  | [a, b, c, d, e, f], _, _ => simp [pairs, swap, List.range, List.range.loop]
  | [a, b, c, d, e, f, g], _, _ => simp [pairs, swap, List.range, List.range.loop]
  | [a, b, c, d, e, f, g, h], _, _ => simp [pairs, swap, List.range, List.range.loop]
  | _ :: _ :: _ :: _ :: _ :: _ :: _ :: _ :: _ :: _, _, h => simp at h

theorem rot_perm {α : Type} (l : List α) (k : Nat) : (l.drop k ++ l.take k).Perm l := by
  conv => rhs; rw [← List.take_append_drop k l]
  exact List.perm_append_comm

theorem conj_conj (a : Cx) : conj (conj a) = a := by
  unfold conj; simp

/-- The other way about. -/
theorem got_swap {l : List Vis} (hl : ∀ v ∈ l, v.good 8) (i j : Int) : got j i l = (got i j l).map conj := by
  induction l with
  | nil => rfl
  | cons v r ih =>
    have g := hl v (by simp)
    unfold got
    by_cases h1 : v.i = i ∧ v.j = j
    · have h2 : ¬ (v.i = j ∧ v.j = i) := fun h => by
        have := g.2.1
        omega
      rw [if_pos h1, if_neg h2, if_pos h1]; rfl
    · by_cases h2 : v.i = j ∧ v.j = i
      · rw [if_pos h2, if_neg h1, if_pos h2]; show some v.v = some (conj (conj v.v)); rw [conj_conj]
      · rw [if_neg h1, if_neg h2, if_neg h2, if_neg h1]
        exact ih fun u hu => hl u (by simp [hu])

theorem gD_swap {l : List Vis} (hl : ∀ v ∈ l, v.good 8) (s : Pr) : gD l (swap s) = conj (gD l s) := by
  unfold gD swap
  rw [got_swap hl]
  cases got s.a s.b l with
  | none => rfl
  | some c => rfl

theorem conj_zero (a : Cx) : (conj a).zero ↔ a.zero := by
  unfold conj Cx.zero; simp

theorem along_perm {l : List Vis} {s t : List Pr} (h : s.Perm t) : (along27 l s).2 = (along27 l t).2 := by
  unfold along27
  have e1 : s.all (fun s => (got s.a s.b l).isSome) = t.all (fun s => (got s.a s.b l).isSome) := by
    rw [Bool.eq_iff_iff, List.all_eq_true, List.all_eq_true]
    exact ⟨fun H x hx => H x (h.mem_iff.2 hx), fun H x hx => H x (h.mem_iff.1 hx)⟩
  have e2 : s.any (fun s => decide (gD l s).zero) = t.any (fun s => decide (gD l s).zero) := by
    rw [Bool.eq_iff_iff, List.any_eq_true, List.any_eq_true]
    exact ⟨fun ⟨x, hx, H⟩ => ⟨x, h.mem_iff.1 hx, H⟩, fun ⟨x, hx, H⟩ => ⟨x, h.mem_iff.2 hx, H⟩⟩
  rw [e1, e2]
  split
  · split <;> rfl
  · rfl

theorem along_swap {l : List Vis} (hl : ∀ v ∈ l, v.good 8) (s : List Pr) : (along27 l (s.map swap)).2 = (along27 l s).2 := by
  unfold along27
  have e1 : (s.map swap).all (fun s => (got s.a s.b l).isSome) = s.all (fun s => (got s.a s.b l).isSome) := by
    rw [List.all_map]
    congr 1
    funext x
    show (got x.b x.a l).isSome = _
    rw [got_swap hl]; simp
  have e2 : (s.map swap).any (fun s => decide (gD l s).zero) = s.any (fun s => decide (gD l s).zero) := by
    rw [List.any_map]
    congr 1
    funext x
    show decide (gD l (swap x)).zero = _
    rw [gD_swap hl, Bool.eq_iff_iff]
    simp [conj_zero]
  rw [e1, e2]
  split
  · split <;> rfl
  · rfl

theorem gcd_one_one : Int.gcd one.re one.im = 1 := by decide

theorem apart_perm {c d : List Int} (h : c.Perm d) : apart c ↔ apart d := by
  unfold apart
  exact ⟨fun ⟨a, b⟩ => ⟨fun s hs => a s (h.mem_iff.2 hs), h.nodup_iff.1 b⟩, fun ⟨a, b⟩ => ⟨fun s hs => a s (h.mem_iff.1 hs), h.nodup_iff.2 b⟩⟩

theorem circle_perm {c d : List Int} (h : c.Perm d) : circle c ↔ circle d := by
  unfold circle
  rw [apart_perm h, h.length_eq]

/-- What a phase is: an error that does not depend on the steps' order, or the direction of the product. -/
theorem phase_cases {l : List Vis} (h0 : ck27 l = 0) {c : List Int} (hc : circle c) :
    ((along27 l (pairs c)).2 ≠ 0 ∧ phase l c = (c0, (along27 l (pairs c)).2)) ∨ ((along27 l (pairs c)).2 = 0 ∧
      (phase l c = (c0, 16) ∨ ((phase l c).2 = 0 ∧ (phase l c).1.valid ∧ (phase l c).1.den = 1 ∧ Int.gcd (phase l c).1.re (phase l c).1.im = 1 ∧ par (zn (phase l c).1) (zprod ((pairs c).map (gD l)))))) := by
  obtain ⟨hlen, hgood, _⟩ := ck27_0 h0
  have e : phase l c = if (along27 l (pairs c)).2 ≠ 0 then (c0, (along27 l (pairs c)).2) else fold27 one (along27 l (pairs c)).1 := by
    rw [phase, if_neg (by simp [h0]), if_neg (by simp [hc])]
  by_cases h1 : (along27 l (pairs c)).2 = 0
  · refine .inr ⟨h1, ?_⟩
    obtain ⟨e1, e2, e3⟩ := along27_0 hgood h1
    rw [if_neg (by simp [h1]), e1] at e
    have hv : ∀ v ∈ (pairs c).map (gD l), v.valid ∧ ¬ v.zero := fun v hv => by
      rw [List.mem_map] at hv
      obtain ⟨s, hs, rfl⟩ := hv
      exact e3 s hs
    rcases fold_good _ one_valid one_nz rfl gcd_one_one hv with h | h
    · refine .inr ?_
      rw [e]
      refine ⟨h.1, h.2.1, h.2.2.1, h.2.2.2, ?_⟩
      have := fold_par _ one_valid one_nz hv h.1
      rwa [zmul_comm, show zn one = (1, 0) from rfl, zmul_one] at this
    · exact .inl (by rw [e, h])
  · exact .inl ⟨h1, by rw [e, if_pos h1]⟩

/-- Two ways along the same steps. -/
theorem phase_like {l : List Vis} (h0 : ck27 l = 0) {c d : List Int} (hc : circle c) (hd : circle d) (ha : (along27 l (pairs d)).2 = (along27 l (pairs c)).2) :
    ((phase l c).2 = (phase l d).2 ∨ (phase l c).2 = 16 ∨ (phase l d).2 = 16) := by
  rcases phase_cases h0 hc with ⟨h1, h2⟩ | ⟨h1, h2⟩
  · rcases phase_cases h0 hd with ⟨k1, k2⟩ | ⟨k1, k2⟩
    · rw [h2, k2]; exact .inl ha.symm
    · exact absurd (ha.symm.trans k1) h1
  · rcases phase_cases h0 hd with ⟨k1, k2⟩ | ⟨k1, k2⟩
    · exact absurd (ha.trans h1) k1
    · rcases h2 with h2 | h2
      · rw [h2]; exact .inr (.inl rfl)
      · rcases k2 with k2 | k2
        · rw [k2]; exact .inr (.inr rfl)
        · rw [h2.1, k2.1]; exact .inl rfl

theorem phase_ok {l : List Vis} (h0 : ck27 l = 0) {c : List Int} (hc : circle c) (h : (phase l c).2 = 0) : (phase l c).1.valid ∧ (phase l c).1.den = 1 ∧ Int.gcd (phase l c).1.re (phase l c).1.im = 1 ∧ par (zn (phase l c).1) (zprod ((pairs c).map (gD l))) := by
  rcases phase_cases h0 hc with ⟨h1, h2⟩ | ⟨h1, h2 | h2⟩
  · rw [h2] at h; exact absurd h h1
  · rw [h2] at h; simp at h
  · exact h2.2

theorem cx_of_zn {a b : Cx} (h : zn a = zn b) (h1 : a.den = b.den) : a = b := by
  cases a; cases b
  simp only [zn, Prod.mk.injEq] at h
  simp only at h1
  simp [h.1, h.2, h1]

/-- A circle that begins elsewhere. -/
theorem phase_rot {l : List Vis} (h0 : ck27 l = 0) {c : List Int} (hc : circle c) {k : Nat} (hk : k < c.length) :
    ((phase l c).2 = (phase l (c.drop k ++ c.take k)).2 ∨ (phase l c).2 = 16 ∨ (phase l (c.drop k ++ c.take k)).2 = 16) ∧ ((phase l c).2 = 0 → (phase l (c.drop k ++ c.take k)).2 = 0 → phase l c = phase l (c.drop k ++ c.take k)) := by
  have hd : circle (c.drop k ++ c.take k) := (circle_perm (rot_perm c k)).2 hc
  have hp : (pairs (c.drop k ++ c.take k)).Perm (pairs c) := by rw [pairs_rot hc.1 hc.2.1 hk]; exact rot_perm _ _
  refine ⟨phase_like h0 hc hd (along_perm hp), fun h1 h2 => ?_⟩
  obtain ⟨_, d1, g1, p1⟩ := phase_ok h0 hc h1
  obtain ⟨_, d2, g2, p2⟩ := phase_ok h0 hd h2
  have e := zprod_perm (hp.map (gD l))
  rw [e] at p2
  exact Prod.ext (cx_of_zn (par_unique (par_trans p1 (par_symm p2)) g1 g2) (d1.trans d2.symm)) (h1.trans h2.symm)

/-- The other way about. -/
theorem phase_rev {l : List Vis} (h0 : ck27 l = 0) {c : List Int} (hc : circle c) :
    ((phase l c).2 = (phase l c.reverse).2 ∨ (phase l c).2 = 16 ∨ (phase l c.reverse).2 = 16) ∧ ((phase l c).2 = 0 → (phase l c.reverse).2 = 0 → (phase l c.reverse).1 = conj (phase l c).1) := by
  have hd : circle c.reverse := (circle_perm (List.reverse_perm c)).2 hc
  obtain ⟨_, hgood, _⟩ := ck27_0 h0
  have hp : (pairs c.reverse).Perm ((pairs c).map swap) := by
    rw [pairs_rev hc.1 hc.2.1]
    exact (rot_perm _ _).trans (List.reverse_perm _)
  refine ⟨phase_like h0 hc hd (by rw [along_perm hp, along_swap hgood]), fun h1 h2 => ?_⟩
  obtain ⟨_, d1, g1, p1⟩ := phase_ok h0 hc h1
  obtain ⟨_, d2, g2, p2⟩ := phase_ok h0 hd h2
  have e := zprod_perm (hp.map (gD l))
  rw [e, List.map_map, show (gD l ∘ swap) = conj ∘ gD l from funext fun s => gD_swap hgood s, ← List.map_map, zprod_conj] at p2
  refine cx_of_zn (par_unique (par_trans p2 (par_symm (par_conj p1))) g2 ?_) (d2.trans d1.symm)
  show Int.gcd (phase l c).1.re (-(phase l c).1.im) = 1
  rw [Int.gcd_neg]; exact g1

end Go.Pv
