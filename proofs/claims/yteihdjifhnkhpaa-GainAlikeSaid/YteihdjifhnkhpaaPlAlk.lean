/- Tables that act alike: in plain Lean. -/
import Derived.Test.YteihdjifhnkhpaaPlGroup
namespace Go.Pv
open Go.Vc

/-- The square of the absolute value. -/
def vns (c : Cx) : Rat := vre c * vre c + vim c * vim c

theorem nrm_v {a : Cx} (ha : a.valid) (h : (nrm a).2 = 0) : ((nrm a).1.num : Rat) = vns a * ((nrm a).1.den : Rat) ∧ ((nrm a).1.den : Rat) ≠ 0 := by
  obtain ⟨h1, h2, _⟩ := nrm_frac ha h
  have da := vden ha
  have hd := cast_ne h2
  have h3 : ((nrm a).1.num : Rat) * ((a.den : Rat) * a.den) = ((nrm a).1.den : Rat) * ((a.re : Rat) * a.re + (a.im : Rat) * a.im) := by
    have := congrArg (fun z : Int => (z : Rat)) h1
    simp only [ns, ds, Rat.intCast_mul, Rat.intCast_add] at this
    exact this
  refine ⟨?_, hd⟩
  unfold vns vre vim
  generalize ((nrm a).1.num : Rat) = n at *
  generalize ((nrm a).1.den : Rat) = d at *
  have e : ((a.re : Rat) / a.den * (a.re / a.den) + (a.im : Rat) / a.den * (a.im / a.den)) * ((a.den : Rat) * a.den) = (a.re : Rat) * a.re + (a.im : Rat) * a.im := by grind
  generalize (a.re : Rat) / a.den * (a.re / a.den) + (a.im : Rat) / a.den * (a.im / a.den) = s at *
  grind

theorem nrm_eq_iff {a b : Cx} (ha : a.valid) (hb : b.valid) (za : ¬ a.zero) (zb : ¬ b.zero) (h1 : (nrm a).2 = 0) (h2 : (nrm b).2 = 0) : (nrm a).1 = (nrm b).1 ↔ vns a = vns b := by
  obtain ⟨a1, a2⟩ := nrm_v ha h1
  obtain ⟨b1, b2⟩ := nrm_v hb h2
  constructor
  · intro e
    rw [e] at a1 a2
    rw [b1] at a1
    grind
  · intro e
    obtain ⟨x1, x2, x3, _⟩ := nrm_ns ha za h1
    obtain ⟨y1, y2, y3, _⟩ := nrm_ns hb zb h2
    have key : (nrm a).1.num * (nrm b).1.den = (nrm b).1.num * (nrm a).1.den := by
      rw [← Rat.intCast_inj, Rat.intCast_mul, Rat.intCast_mul, a1, b1, e]; grind
    obtain ⟨k1, k2⟩ := frac_unique x1 x2 y1 y2 x3 y3 key
    generalize (nrm a).1 = p at *
    generalize (nrm b).1 = q at *
    cases p; cases q; simp_all

theorem nrm_one {c : Cx} (hc : c.valid) (zc : ¬ c.zero) (h : (nrm c).2 = 0) : (nrm c).1 = ⟨1, 1⟩ ↔ vns c = 1 := by
  have ho : one.valid := by decide +kernel
  have zo : ¬ one.zero := by decide
  have hn : nrm one = (⟨1, 1⟩, 0) := by decide +kernel
  have e := nrm_eq_iff hc ho zc zo h (by rw [hn])
  rw [hn] at e
  have : vns one = 1 := by unfold vns; rw [one_v.1, one_v.2]; grind
  rw [this] at e
  exact e

theorem asame_iff {g h : List Cx} : ∀ n, asame g h n = true ↔ ∀ k, k < n → (mul (gat g k) (gat h 0)).1 = (mul (gat g 0) (gat h k)).1
  | 0 => ⟨fun _ k hk => by omega, fun _ => rfl⟩
  | n + 1 => by
    rw [asame, Bool.and_eq_true, asame_iff n, alS, decide_eq_true_eq]
    constructor
    · rintro ⟨h1, h2⟩ k hk
      by_cases e : k = n
      · subst e; exact h2
      · exact h1 k (by omega)
    · intro h
      exact ⟨fun k hk => h k (by omega), h n (by omega)⟩

theorem aerr_0 {g h : List Cx} : ∀ n, aerr g h n = 0 → ∀ k, k < n → (mul (gat g k) (gat h 0)).2 = 0 ∧ (mul (gat g 0) (gat h k)).2 = 0
  | 0, _, k, hk => by omega
  | n + 1, e, k, hk => by
    rw [aerr] at e
    split at e
    · rename_i h1; exact absurd e h1
    rename_i h1
    by_cases ek : k = n
    · subst ek
      unfold alE at e
      split at e
      · rename_i h2; exact absurd e h2
      · rename_i h2; exact ⟨by omega, e⟩
    · exact aerr_0 n (by omega) k (by omega)

theorem alike_0 {g h : List Cx} (e : (alike g h).2 = 0) : both26 g h = 0 ∧ (nrm (gat g 0)).2 = 0 ∧ (nrm (gat h 0)).2 = 0 ∧ aerr g h g.length = 0 ∧ (alike g h).1 = (decide ((nrm (gat g 0)).1 = (nrm (gat h 0)).1) && asame g h g.length) := by
  unfold alike at e ⊢
  split at e
  · rename_i h1; exact absurd e h1
  rename_i h1
  split at e
  · cases e
  rename_i h2
  split at e
  · cases e
  rename_i h3
  split at e
  · cases e
  rename_i h4
  rw [if_neg h1, if_neg h2, if_neg h3, if_neg h4]
  exact ⟨by omega, by omega, by omega, by omega, rfl⟩

/-- Tables that act alike make the same visibilities. -/
theorem alike_act {g h : List Cx} (e : (alike g h).2 = 0) (hs : (alike g h).1 = true) {l : List Vis} (hl : all26 l g.length = 0) (h1 : (act26 g l).2 = 0) (h2 : (act26 h l).2 = 0) : (act26 g l).1 = (act26 h l).1 := by
  obtain ⟨b, n1, n2, ae, as⟩ := alike_0 e
  rw [hs] at as
  have as := as.symm
  rw [Bool.and_eq_true, decide_eq_true_eq, asame_iff] at as
  obtain ⟨b1, b2, b3⟩ := both26_0 b
  obtain ⟨_, c2, _⟩ := ck26_0 b1
  obtain ⟨_, a1, a2⟩ := act26_ok h1
  obtain ⟨_, d1, d2⟩ := act26_ok h2
  obtain ⟨_, lg⟩ := all26_0 hl
  obtain ⟨vg, zg⟩ := gat_valid b1 c2
  obtain ⟨vh, zh⟩ := gat_valid b2 (i := 0) (by omega)
  have hn := (nrm_eq_iff vg vh zg zh n1 n2).1 as.1
  have nz := v_nz vg zg
  rw [a1, d1]
  refine List.map_congr_left fun v hv => ?_
  have gv := lg v hv
  have gv' := gv
  unfold Vis.good at gv'
  obtain ⟨x1, x2, x3⟩ := act1_v b1 gv (a2 v hv)
  obtain ⟨y1, y2, y3⟩ := act1_v b2 (by rw [← b3]; exact gv) (d2 v hv)
  have hi : v.i.toNat < g.length := by omega
  have hj : v.j.toNat < g.length := by omega
  have fact : ∀ k, k < g.length → (vre (gat g k) * vre (gat h 0) - vim (gat g k) * vim (gat h 0) = vre (gat g 0) * vre (gat h k) - vim (gat g 0) * vim (gat h k)) ∧ (vre (gat g k) * vim (gat h 0) + vim (gat g k) * vre (gat h 0) = vre (gat g 0) * vim (gat h k) + vim (gat g 0) * vre (gat h k)) := fun k hk => by
    obtain ⟨e1, e2⟩ := aerr_0 _ ae k hk
    obtain ⟨p1, p2, _⟩ := mul_v (gat_valid b1 hk).1 vh e1
    obtain ⟨q1, q2, _⟩ := mul_v vg (gat_valid b2 (by omega)).1 e2
    have := as.2 k hk
    exact ⟨by rw [← p1, ← q1, this], by rw [← p2, ← q2, this]⟩
  obtain ⟨i1, i2⟩ := fact _ hi
  obtain ⟨j1, j2⟩ := fact _ hj
  have hval : (act1 g v).1 = (act1 h v).1 := by
    simp only [at_gat] at *
    unfold vns at hn
    refine v_inj x3 y3 ?_ ?_
    · rw [x1, y1]
      generalize vre (gat g v.i.toNat) = a at *
      generalize vim (gat g v.i.toNat) = b at *
      generalize vre (gat g v.j.toNat) = c at *
      generalize vim (gat g v.j.toNat) = d at *
      generalize vre (gat h v.i.toNat) = a' at *
      generalize vim (gat h v.i.toNat) = b' at *
      generalize vre (gat h v.j.toNat) = c' at *
      generalize vim (gat h v.j.toNat) = d' at *
      generalize vre (gat g 0) = u at *
      generalize vim (gat g 0) = w at *
      generalize vre (gat h 0) = u' at *
      generalize vim (gat h 0) = w' at *
      generalize vre v.v = m at *
      generalize vim v.v = n at *
      clear x1 x2 y1 y2
      have r1 : (a * c + b * d) * (u' * u' + w' * w') = (a' * c' + b' * d') * (u * u + w * w) := by
        have : (a * c + b * d) * (u' * u' + w' * w') = (a * u' - b * w') * (c * u' - d * w') + (a * w' + b * u') * (c * w' + d * u') := by grind
        rw [this, i1, i2, j1, j2]; grind
      have r2 : (b * c - a * d) * (u' * u' + w' * w') = (b' * c' - a' * d') * (u * u + w * w) := by
        have : (b * c - a * d) * (u' * u' + w' * w') = (a * w' + b * u') * (c * u' - d * w') - (a * u' - b * w') * (c * w' + d * u') := by grind
        rw [this, i1, i2, j1, j2]; grind
      rw [← hn] at r1 r2
      have r1' : a * c + b * d = a' * c' + b' * d' := by grind
      have r2' : b * c - a * d = b' * c' - a' * d' := by grind
      clear r1 r2 i1 i2 j1 j2 hn nz
      grind
    · rw [x2, y2]
      generalize vre (gat g v.i.toNat) = a at *
      generalize vim (gat g v.i.toNat) = b at *
      generalize vre (gat g v.j.toNat) = c at *
      generalize vim (gat g v.j.toNat) = d at *
      generalize vre (gat h v.i.toNat) = a' at *
      generalize vim (gat h v.i.toNat) = b' at *
      generalize vre (gat h v.j.toNat) = c' at *
      generalize vim (gat h v.j.toNat) = d' at *
      generalize vre (gat g 0) = u at *
      generalize vim (gat g 0) = w at *
      generalize vre (gat h 0) = u' at *
      generalize vim (gat h 0) = w' at *
      generalize vre v.v = m at *
      generalize vim v.v = n at *
      clear x1 x2 y1 y2
      have r1 : (a * c + b * d) * (u' * u' + w' * w') = (a' * c' + b' * d') * (u * u + w * w) := by
        have : (a * c + b * d) * (u' * u' + w' * w') = (a * u' - b * w') * (c * u' - d * w') + (a * w' + b * u') * (c * w' + d * u') := by grind
        rw [this, i1, i2, j1, j2]; grind
      have r2 : (b * c - a * d) * (u' * u' + w' * w') = (b' * c' - a' * d') * (u * u + w * w) := by
        have : (b * c - a * d) * (u' * u' + w' * w') = (a * w' + b * u') * (c * u' - d * w') - (a * u' - b * w') * (c * w' + d * u') := by grind
        rw [this, i1, i2, j1, j2]; grind
      rw [← hn] at r1 r2
      have r1' : a * c + b * d = a' * c' + b' * d' := by grind
      have r2' : b * c - a * d = b' * c' - a' * d' := by grind
      clear r1 r2 i1 i2 j1 j2 hn nz
      grind
  rw [hval]

theorem ck_rep {c : Cx} (hc : c.valid) (zc : ¬ c.zero) {n : Nat} (h8 : n ≤ 8) (h0 : 0 < n) : ck26 (List.replicate n c) = 0 :=
  ck26_ok (by simpa using h8) (by simpa using h0) fun d hd => by
    rw [List.mem_replicate] at hd
    rw [hd.2]
    exact ⟨hc, zc⟩

theorem gat_rep {c : Cx} {n k : Nat} (h : k < n) : gat (List.replicate n c) k = c := by simp [gat, h]

/-- A table times one number. -/
theorem alike_times {g : List Cx} (hg : ck26 g = 0) {c : Cx} (hc : c.valid) (zc : ¬ c.zero) (hn : (nrm c).2 = 0) (h1 : (tmul g (List.replicate g.length c)).2 = 0) (h2 : (alike g (tmul g (List.replicate g.length c)).1).2 = 0) :
    (alike g (tmul g (List.replicate g.length c)).1).1 = decide ((nrm c).1 = ⟨1, 1⟩) := by
  obtain ⟨c1, c2, _⟩ := ck26_0 hg
  have hr := ck_rep hc zc c1 c2
  have b : both26 g (List.replicate g.length c) = 0 := by rw [both26, if_neg (by simp [hg]), if_neg (by simp [hr]), if_neg (by simp)]
  obtain ⟨tl, tk⟩ := tmul_ok b h1
  obtain ⟨b', n1, n2, ae, as⟩ := alike_0 h2
  obtain ⟨_, b2, _⟩ := both26_0 b'
  have hk : ∀ k, k < g.length → vre (gat (tmul g (List.replicate g.length c)).1 k) = vre (gat g k) * vre c - vim (gat g k) * vim c ∧ vim (gat (tmul g (List.replicate g.length c)).1 k) = vre (gat g k) * vim c + vim (gat g k) * vre c := fun k hk => by
    obtain ⟨e1, e2⟩ := tk k hk
    rw [gat_rep hk] at e1 e2
    obtain ⟨p1, p2, _⟩ := mul_v (gat_valid hg hk).1 hc e2
    rw [e1]
    exact ⟨p1, p2⟩
  generalize (tmul g (List.replicate g.length c)).1 = t at *
  have hall : asame g t g.length = true := by
    rw [asame_iff]
    intro k hk'
    obtain ⟨e1, e2⟩ := aerr_0 _ ae k hk'
    obtain ⟨p1, p2, p3⟩ := mul_v (gat_valid hg hk').1 (gat_valid b2 (i := 0) (by omega)).1 e1
    obtain ⟨q1, q2, q3⟩ := mul_v (gat_valid hg c2).1 (gat_valid b2 (by omega)).1 e2
    obtain ⟨k1, k2⟩ := hk k hk'
    obtain ⟨z1, z2⟩ := hk 0 c2
    refine v_inj p3 q3 ?_ ?_
    · rw [p1, q1, k1, k2, z1, z2]; grind
    · rw [p2, q2, k1, k2, z1, z2]; grind
  rw [as, hall, Bool.and_true]
  obtain ⟨vg, zg⟩ := gat_valid hg c2
  obtain ⟨vt, zt⟩ := gat_valid b2 (i := 0) (by omega)
  obtain ⟨z1, z2⟩ := hk 0 c2
  have nz := v_nz vg zg
  have e : vns (gat t 0) = vns (gat g 0) * vns c := by unfold vns; rw [z1, z2]; grind
  rw [decide_eq_decide, nrm_eq_iff vg vt zg zt n1 n2, nrm_one hc zc hn, e]
  unfold vns at *
  constructor
  · intro h; grind
  · intro h; rw [h]; grind
end Go.Pv
