/- Tables referred to a station; tables act as a group: in plain Lean. -/
import Derived.Test.YteihdjifhnkhpaaPlRat
namespace Go.Pv
open Go.Vc

theorem prods_ok {m : Cx → Cx → Cx × Int} {u v : Nat → Cx} {n : Nat} (h : (prods m u v n).2 = 0) : (prods m u v n).1 = (List.range n).map (fun k => (m (u k) (v k)).1) ∧ ∀ k, k < n → (m (u k) (v k)).2 = 0 := by
  unfold prods at h ⊢
  split at h
  · rename_i e
    rw [if_pos e]
    exact ⟨rfl, perr_0.1 e⟩
  · rename_i e; exact absurd h e

theorem gat_map {n k : Nat} (f : Nat → Cx) (hk : k < n) : gat ((List.range n).map f) k = f k := by
  simp [gat, hk]

theorem tconj_v {a b : Cx} (ha : a.valid) (hb : b.valid) (h : (tconj a b).2 = 0) : vre (tconj a b).1 = vre a * vre b + vim a * vim b ∧ vim (tconj a b).1 = vim a * vre b - vre a * vim b ∧ (tconj a b).1.valid := by
  rw [tconj, if_pos hb] at h ⊢
  obtain ⟨h1, h2, h3⟩ := mul_v ha (conj_valid hb) h
  rw [h1, h2, (conj_v b).1, (conj_v b).2]
  exact ⟨by grind, by grind, h3⟩

theorem trefer_ok {g : List Cx} {s : Nat} (hg : ck26 g = 0) (hs : s < g.length) (h : (trefer g s).2 = 0) :
    (trefer g s).1.length = g.length ∧ ∀ k, k < g.length → gat (trefer g s).1 k = (tconj (gat g k) (gat g s)).1 ∧ (tconj (gat g k) (gat g s)).2 = 0 := by
  have e : trefer g s = prods tconj (gat g) (fun _ => gat g s) g.length := by
    rw [trefer, if_neg (by simp [hg]), if_neg (by omega), at_get hs, gat_get hs]
  rw [e] at h ⊢
  obtain ⟨h1, h2⟩ := prods_ok h
  rw [h1]
  exact ⟨by simp, fun k hk => ⟨by rw [gat_map _ hk], h2 k hk⟩⟩

theorem trefer_err {g : List Cx} {s : Nat} (hg : ck26 g = 0) (hs : s < g.length) : (trefer g s).2 = 0 ∨ (trefer g s).2 = 16 := by
  have e : trefer g s = prods tconj (gat g) (fun _ => gat g s) g.length := by
    rw [trefer, if_neg (by simp [hg]), if_neg (by omega), at_get hs, gat_get hs]
  rw [e]
  have := perr_16 (m := tconj) (u := gat g) (v := fun _ => gat g s) (n := g.length) fun k hk => tconj_err (gat_valid hg hk).1 (gat_valid hg hs).1
  unfold prods
  split
  · exact .inl rfl
  · rename_i hne
    exact this

theorem tconj_nz {a b : Cx} (ha : a.valid) (hb : b.valid) (za : ¬ a.zero) (zb : ¬ b.zero) (h : (tconj a b).2 = 0) : ¬ (tconj a b).1.zero := by
  rw [tconj, if_pos hb] at h ⊢
  rw [mul_zero_iff ha (conj_valid hb) h]
  rintro (h | h)
  · exact za h
  · exact zb ((conj_zero b).1 h)

theorem trefer_ck {g : List Cx} {s : Nat} (hg : ck26 g = 0) (hs : s < g.length) (h : (trefer g s).2 = 0) : ck26 (trefer g s).1 = 0 := by
  obtain ⟨hl, hk⟩ := trefer_ok hg hs h
  obtain ⟨c1, c2, _⟩ := ck26_0 hg
  refine ck26_ok (by omega) (by omega) fun c hc => ?_
  obtain ⟨k, hk', rfl⟩ := List.getElem_of_mem hc
  obtain ⟨e1, e2⟩ := hk k (by omega)
  rw [gat_get hk'] at e1
  rw [e1]
  obtain ⟨v1, z1⟩ := gat_valid hg (i := k) (by omega)
  obtain ⟨v2, z2⟩ := gat_valid hg hs
  exact ⟨(tconj_v v1 v2 e2).2.2, tconj_nz v1 v2 z1 z2 e2⟩

theorem trefer_own {g : List Cx} {s : Nat} (hg : ck26 g = 0) (hs : s < g.length) (h : (trefer g s).2 = 0) : (gat (trefer g s).1 s).im = 0 ∧ 0 < (gat (trefer g s).1 s).re := by
  obtain ⟨e1, e2⟩ := (trefer_ok hg hs h).2 s hs
  obtain ⟨v, z⟩ := gat_valid hg hs
  rw [e1]
  rw [tconj, if_pos v] at e2 ⊢
  obtain ⟨k1, _⟩ := mul_ok v (conj_valid v) e2
  rw [k1]
  have hd : 0 < (gat g s).den * (conj (gat g s)).den := mul_pos' v.1 v.1
  obtain ⟨G, hG, x1, x2, _⟩ := norm_spec (x := (gat g s).re * (conj (gat g s)).re - (gat g s).im * (conj (gat g s)).im) (y := (gat g s).re * (conj (gat g s)).im + (gat g s).im * (conj (gat g s)).re) hd
  generalize norm _ _ _ = c at *
  have hn := ns_pos_of z
  have y0 : c.im * (G : Int) = 0 := by rw [← x2]; simp only [conj]; grind
  have r0 : c.re * (G : Int) = (gat g s).re * (gat g s).re + (gat g s).im * (gat g s).im := by rw [← x1]; simp only [conj]; grind
  refine ⟨?_, ?_⟩
  · rcases Int.mul_eq_zero.1 y0 with h | h
    · exact h
    · omega
  · have : 0 < c.re * (G : Int) := by rw [r0]; exact hn
    exact Int.pos_of_mul_pos_left this (by omega)

theorem trefer_mul {g : List Cx} {s : Nat} (hg : ck26 g = 0) (hs : s < g.length) (h : (trefer g s).2 = 0) {k : Nat} (hk : k < g.length)
    (h1 : (mul (gat (trefer g s).1 k) (gat g s)).2 = 0) (h2 : (mul (gat (trefer g s).1 s) (gat g k)).2 = 0) : (mul (gat (trefer g s).1 k) (gat g s)).1 = (mul (gat (trefer g s).1 s) (gat g k)).1 := by
  obtain ⟨e1, e2⟩ := (trefer_ok hg hs h).2 k hk
  obtain ⟨e3, e4⟩ := (trefer_ok hg hs h).2 s hs
  obtain ⟨vk, _⟩ := gat_valid hg hk
  obtain ⟨vs, _⟩ := gat_valid hg hs
  rw [e1] at h1 ⊢
  rw [e3] at h2 ⊢
  obtain ⟨a1, a2, a3⟩ := tconj_v vk vs e2
  obtain ⟨b1, b2, b3⟩ := tconj_v vs vs e4
  obtain ⟨p1, p2, p3⟩ := mul_v a3 vs h1
  obtain ⟨q1, q2, q3⟩ := mul_v b3 vk h2
  refine v_inj p3 q3 ?_ ?_
  · rw [p1, q1, a1, a2, b1, b2]; grind
  · rw [p2, q2, a1, a2, b1, b2]; grind

theorem ray_same {a b : Cx} (ha : a.valid) (hb : b.valid) (za : ¬ a.zero) (zb : ¬ b.zero) (h : par (zn a) (zn b)) : ray a = ray b := by
  obtain ⟨a1, a2, a3, a4, a5⟩ := ray_ok ha za
  obtain ⟨b1, b2, b3, b4, b5⟩ := ray_ok hb zb
  have p := par_trans (ray_par ha za) (par_trans h (par_symm (ray_par hb zb)))
  have e := par_unique p a5 b5
  have e1 : (ray a).1 = (ray b).1 := cx_of_zn e (by rw [a4, b4])
  exact Prod.ext e1 (by rw [a1, b1])

/-- Referring twice changes no ray. -/
theorem trefer_ray {g : List Cx} {s : Nat} (hg : ck26 g = 0) (hs : s < g.length) (h : (trefer g s).2 = 0) (h2 : (trefer (trefer g s).1 s).2 = 0) {k : Nat} (hk : k < g.length) :
    ray (gat (trefer g s).1 k) = ray (gat (trefer (trefer g s).1 s).1 k) ∧ (ray (gat (trefer g s).1 k)).2 = 0 := by
  have hr := trefer_ck hg hs h
  have hl := (trefer_ok hg hs h).1
  have hk' : k < (trefer g s).1.length := by omega
  have hs' : s < (trefer g s).1.length := by omega
  have own := trefer_own hg hs h
  generalize trefer g s = r at *
  obtain ⟨e1, e2⟩ := (trefer_ok hr hs' h2).2 k hk'
  rw [e1]
  obtain ⟨vk, zk⟩ := gat_valid hr hk'
  obtain ⟨vs, zs⟩ := gat_valid hr hs'
  have v2 := (tconj_v vk vs e2).2.2
  have z2 := tconj_nz vk vs zk zs e2
  refine ⟨ray_same vk v2 zk z2 ?_, (ray_ok vk zk).1⟩
  rw [tconj, if_pos vs] at e2 ⊢
  have p := mul_par vk (conj_valid vs) e2
  refine par_symm (par_trans p ⟨1, (gat r.1 s).re, by decide, own.2, ?_, ?_⟩)
  · simp only [zmul, zn, conj, own.1]; grind
  · simp only [zmul, zn, conj, own.1]; grind
end Go.Pv
