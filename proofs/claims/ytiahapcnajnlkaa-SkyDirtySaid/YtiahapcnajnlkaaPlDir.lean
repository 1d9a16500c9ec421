/- Dirty images, in plain Lean. -/
import Derived.Test.YtiahapcnajnlkaaPlAdds
namespace Go.Pv
open Go.Vc

theorem bright_app (p : List Place) (l m : List Lamp) (x y : Int) : bright p (l ++ m) x y = bright p l x y + bright p m x y := by
  unfold bright turned
  rw [List.map_map, List.map_map, List.map_map]
  induction prs p.length with
  | nil => rfl
  | cons q r ih =>
    simp only [List.map_cons, List.sum_cons, ih]
    have e : (vis1 p (l ++ m) (-x) (-y) q).v.re = (vis1 p l (-x) (-y) q).v.re + (vis1 p m (-x) (-y) q).v.re := by
      simp only [vis1]
      rw [sre_app, sim_app, gt_add _ (sre p q.1 q.2 l, sim p q.1 q.2 l) (sre p q.1 q.2 m, sim p q.1 q.2 m)]
    simp only [Function.comp] at *
    omega

theorem image_length (p : List Place) (l : List Lamp) (n : Nat) : (image p l n).length = n := by simp [image]
theorem image_row {p : List Place} {l : List Lamp} {n y : Nat} (h : y < (image p l n).length) : (image p l n)[y] = irow p l n y := by simp [image, irow]
theorem irow_length (p : List Place) (l : List Lamp) (n y : Nat) : (irow p l n y).length = n := by simp [irow]
theorem irow_get {p : List Place} {l : List Lamp} {n y x : Nat} (h : x < (irow p l n y).length) : (irow p l n y)[x] = bright p l x y := by simp [irow]

theorem dirty_ok {p : List Place} {l : List Lamp} (hp : places p = 0) (hl : check l = 0) {n : Nat} (h1 : 1 ≤ n) (h8 : n ≤ 8) : dirty p l n = (image p l n, 0) := by
  rw [dirty, if_neg (by simp [both41, hp, hl]), if_pos (by omega)]
  simp

theorem bright_bound {p : List Place} {l : List Lamp} (hp : places p = 0) (hl : check l = 0) (x y : Int) : -448000 ≤ bright p l x y ∧ bright p l x y ≤ 448000 := by
  obtain ⟨hn8, _, _⟩ := places_0 hp
  have hle := prs_le hn8
  have := sum_bound (B := 16000) (by decide) (res_ (turned p l (-x) (-y))) (fun z hz => by unfold res_ at hz; rw [List.mem_map] at hz; obtain ⟨v, hv, rfl⟩ := hz; exact (turned_bound hl _ _ v hv).1)
  rw [bright_eq]
  have hl : (res_ (turned p l (-x) (-y))).length ≤ 28 := by unfold res_; rw [List.length_map, turned_length]; exact hle
  omega

theorem sre_one (p : List Place) (i j : Nat) (s : Lamp) : (sre p i j [s], sim p i j [s]) = gt (qs p i j s.x s.y) (s.f, 0) := by
  simp [sre, sim, seen1]

theorem vis1_one (p : List Place) (s : Lamp) (x y : Int) (q : Nat × Nat) : (vis1 p [s] (-x) (-y) q).v.re = (gt (qs p q.1 q.2 (-x) (-y) + qs p q.1 q.2 s.x s.y) (s.f, 0)).1 := by
  simp only [vis1]
  rw [sre_one, gt_gt]

theorem gt_f {q f : Int} (hf : 0 ≤ f) : -f ≤ (gt q (f, 0)).1 ∧ (gt q (f, 0)).1 ≤ f :=
  (gt_bound (b := f) (by simp only; omega) (by simp only; omega)).1

/-- A single source. -/
theorem bright_one {p : List Place} {s : Lamp} (hf : 0 ≤ s.f) (x y : Int) : (-(s.f * ((prs p.length).length : Int)) ≤ bright p [s] x y ∧ bright p [s] x y ≤ s.f * ((prs p.length).length : Int)) ∧ (x = s.x → y = s.y → bright p [s] x y = s.f * ((prs p.length).length : Int)) := by
  unfold bright turned
  rw [List.map_map]
  generalize prs p.length = l
  induction l with
  | nil => simp
  | cons q r ih =>
    simp only [List.map_cons, List.sum_cons, List.length_cons] at ih ⊢
    have e : ((fun v : Vis => v.v.re) ∘ vis1 p [s] (-x) (-y)) q = (gt (qs p q.1 q.2 (-x) (-y) + qs p q.1 q.2 s.x s.y) (s.f, 0)).1 := vis1_one p s x y q
    rw [e]
    have hb := gt_f (q := qs p q.1 q.2 (-x) (-y) + qs p q.1 q.2 s.x s.y) hf
    have hm : s.f * ((r.length + 1 : Nat) : Int) = s.f * (r.length : Int) + s.f := by simp [Int.mul_add]
    rw [hm]
    refine ⟨by omega, fun hx hy => ?_⟩
    have h3 := ih.2 hx hy
    have : qs p q.1 q.2 (-x) (-y) + qs p q.1 q.2 s.x s.y = 0 := by rw [qs_neg, hx, hy]; omega
    rw [this, gt_0]
    simp only
    omega

theorem most_eq {f : Int} (hf : 0 ≤ f ∧ f ≤ 1000) {n : Nat} (h2 : 2 ≤ n) (h8 : n ≤ 8) : IntKind.i64.wrap ((IntKind.i64.wrap (IntKind.i64.wrap (f * (n : Int)) * IntKind.i64.wrap ((n : Int) - 1))).tdiv 2) = f * ((prs n).length : Int) := by
  have hn : n = 2 ∨ n = 3 ∨ n = 4 ∨ n = 5 ∨ n = 6 ∨ n = 7 ∨ n = 8 := by omega
  have e : ∀ (c L : Nat), n = c → (prs n).length = L → c ≤ 8 → 2 ≤ c → L ≤ 28 → c * (c - 1) = 2 * L → IntKind.i64.wrap ((IntKind.i64.wrap (IntKind.i64.wrap (f * (n : Int)) * IntKind.i64.wrap ((n : Int) - 1))).tdiv 2) = f * ((prs n).length : Int) := by
    intro c L hc hL h8 h2 h28 hcl
    subst hc
    rw [hL]
    have b1 : 0 ≤ f * (n : Int) ∧ f * (n : Int) ≤ 8000 := ⟨Int.mul_nonneg hf.1 (by omega), by
      have := Int.mul_le_mul hf.2 (show (n : Int) ≤ 8 by omega) (by omega) (by omega)
      omega⟩
    have b2 : f * (n : Int) * ((n : Int) - 1) = 2 * (f * (L : Int)) := by
      have : (n : Int) * ((n : Int) - 1) = 2 * (L : Int) := by
        have := congrArg (fun z : Nat => (z : Int)) hcl
        simp only [Int.natCast_mul] at this
        have e1 : ((n - 1 : Nat) : Int) = (n : Int) - 1 := by omega
        rw [e1] at this
        exact this
      rw [Int.mul_assoc, this]; grind
    have b3 : 0 ≤ f * (L : Int) ∧ f * (L : Int) ≤ 28000 := ⟨Int.mul_nonneg hf.1 (by omega), by
      have := Int.mul_le_mul hf.2 (show (L : Int) ≤ 28 by omega) (by omega) (by omega)
      omega⟩
    rw [wrap_id (n := f * (n : Int)) (by omega) (by omega), wrap_id (n := (n : Int) - 1) (by omega) (by omega), b2, wrap_id (n := 2 * (f * (L : Int))) (by omega) (by omega), Int.mul_tdiv_cancel_left _ (by decide), wrap_id (by omega) (by omega)]
  have hL := prs_length n
  exact e n (prs n).length rfl rfl h8 h2 (prs_le h8) hL.symm
end Go.Pv
