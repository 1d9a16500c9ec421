/- The law JonesDets, of the code. -/
import Derived.Test.YtljahbpkhienkaaJf
namespace Go.Pv
open Go.Vc
open Go.Proofs
set_option maxRecDepth 10000
set_option maxHeartbeats 40000000

theorem det_key {a b : Jn} (h : (jmul a b).2 = 0) (h1 : (jdet a).2 = 0) (h2 : (jdet b).2 = 0) (h3 : (jdet (jmul a b).1).2 = 0) (h4 : (mul (jdet a).1 (jdet b).1).2 = 0) : (mul (jdet a).1 (jdet b).1).1 = (jdet (jmul a b).1).1 := by
  obtain ⟨_, _, _, m4⟩ := jmul_v h
  obtain ⟨_, v1, e1⟩ := jdet_v h1
  obtain ⟨_, v2, e2⟩ := jdet_v h2
  obtain ⟨_, v3, e3⟩ := jdet_v h3
  obtain ⟨p1, p2, p3⟩ := mul_v v1 v2 h4
  rw [m4, mdet_mm, ← e1, ← e2] at e3
  refine v_inj p3 v3 ?_ ?_
  · rw [p1]; exact (congrArg Prod.fst e3).symm
  · rw [p2]; exact (congrArg Prod.snd e3).symm

theorem adj_key {a b : Jn} (h : (jmul a b).2 = 0) (h1 : (jmul (jadj b).1 (jadj a).1).2 = 0) : (jadj (jmul a b).1).1 = (jmul (jadj b).1 (jadj a).1).1 := by
  obtain ⟨va, vb, vm, m4⟩ := jmul_v h
  obtain ⟨_, _, vn, n4⟩ := jmul_v h1
  obtain ⟨_, _, ea⟩ := jadj_v va
  obtain ⟨_, _, eb⟩ := jadj_v vb
  obtain ⟨_, vj, ej⟩ := jadj_v vm
  refine jv_inj vj vn ?_
  rw [ej, m4, n4, ea, eb, madj_mm]

theorem tr_key {a b : Jn} (h : (jmul a b).2 = 0) (h' : (jmul b a).2 = 0) (h1 : (jtr (jmul a b).1).2 = 0) (h2 : (jtr (jmul b a).1).2 = 0) : (jtr (jmul a b).1).1 = (jtr (jmul b a).1).1 := by
  obtain ⟨_, _, _, m4⟩ := jmul_v h
  obtain ⟨_, _, _, n4⟩ := jmul_v h'
  obtain ⟨_, v1, e1⟩ := jtr_v h1
  obtain ⟨_, v2, e2⟩ := jtr_v h2
  rw [m4] at e1
  rw [n4, mtr_mm, ← e1] at e2
  exact v_inj v1 v2 (congrArg Prod.fst e2).symm (congrArg Prod.snd e2).symm

theorem w4_valid : (w4 1 0 0 1).valid := by decide
theorem w4_v : jv (w4 1 0 0 1) = m1 := by
  apply Mx.ext' <;> simp only [jv, w4, vre, vim, m1] <;> grind

theorem inv_key {a : Jn} (h : (jinv a).2 = 0) : ((jmul a (jinv a).1).2 = 0 → (jmul a (jinv a).1).1 = w4 1 0 0 1) ∧ ((jmul (jinv a).1 a).2 = 0 → (jmul (jinv a).1 a).1 = w4 1 0 0 1) := by
  obtain ⟨_, _, e1, e2, _, _⟩ := jinv_v h
  constructor
  · intro h1
    obtain ⟨_, _, vm, m4⟩ := jmul_v h1
    exact jv_inj vm w4_valid (by rw [m4, e1, w4_v])
  · intro h1
    obtain ⟨_, _, vm, m4⟩ := jmul_v h1
    exact jv_inj vm w4_valid (by rw [m4, e2, w4_v])

theorem jient_errJ {a : Jn} (va : a.valid) {d : Cx} (vd : d.valid) (nz : ¬ d.zero) : (seq4 (jient a d)).2 = 0 ∨ (seq4 (jient a d)).2 = 16 := by
  unfold seq4
  split
  · rename_i h; rcases jient_err va vd nz 0 with e | e; exact absurd e h; rw [e]; exact .inr rfl
  split
  · rename_i h; rcases jient_err va vd nz 1 with e | e; exact absurd e h; rw [e]; exact .inr rfl
  split
  · rename_i h; rcases jient_err va vd nz 2 with e | e; exact absurd e h; rw [e]; exact .inr rfl
  split
  · rename_i h; rcases jient_err va vd nz 3 with e | e; exact absurd e h; rw [e]; exact .inr rfl
  exact .inl rfl

theorem zero_key {a : Jn} (va : a.valid) : (jinv a).2 = 18 ↔ ((jdet a).2 = 0 ∧ (jdet a).1.zero) := by
  have hde : (jdet a).2 = 0 ∨ (jdet a).2 = 16 := by
    rw [jdet, if_pos va]
    rcases two_err (join := sub) (fun h1 h2 => sub_err h1 h2) va.1 va.2.2.2 va.2.1 va.2.2.1 with h | h
    · exact .inl h
    · rw [h]; exact .inr rfl
  by_cases e : (jdet a).2 = 0
  · by_cases z : (jdet a).1.zero
    · have er : jreg a = (c0, 18) := by rw [jreg, if_neg (by simp [e]), if_pos z]
      have : (jinv a).2 = 18 := by rw [jinv, er]; rfl
      exact ⟨fun _ => ⟨e, z⟩, fun _ => this⟩
    · have er : jreg a = ((jdet a).1, 0) := by rw [jreg, if_neg (by simp [e]), if_neg z]
      obtain ⟨_, dv, _⟩ := jdet_v e
      have : (jinv a).2 ≠ 18 := by
        rw [jinv, er, if_neg (by simp)]
        rcases jient_errJ va dv z with h | h <;> rw [h] <;> decide
      exact ⟨fun h => absurd h this, fun h => absurd h.2 z⟩
  · have er : jreg a = (c0, (jdet a).2) := by rw [jreg, if_pos e]
    have h16 := hde.resolve_left e
    have : (jinv a).2 = 16 := by rw [jinv, er, h16]; rfl
    exact ⟨fun h => (by rw [this] at h; cases h), fun h => absurd h.1 e⟩

theorem jonesDets (a b : Jn) (ha : Enc.ok a) (hb : Enc.ok b) : Ret Try.prog 5 [jn a, jn b] [] (.p (bl true)) := by
  refine ret (fn := Try.f5) (by kernel_rfl) (by kernel_rfl) rfl ?_
  refine ⟨[], _, jl_alive, rfl, ?_⟩
  refine ⟨_, rfl, rfl, ?_⟩
  refine ⟨[], _, jr_valid a, rfl, ?_⟩
  refine ⟨fun h1 => ?_, fun h1 => ?_⟩
  rotate_left
  · rfl
  have va : a.valid := by simpa using h1
  refine ⟨_, rfl, rfl, ?_⟩
  refine ⟨[], _, jr_valid b, rfl, ?_⟩
  refine ⟨fun h2 => ?_, fun h2 => ?_⟩
  rotate_left
  · rfl
  have vb : b.valid := by simpa using h2
  refine ⟨fun h => absurd h (by first | decide | simp), fun _ => ?_⟩
  refine ⟨_, rfl, rfl, ?_⟩
  refine ⟨_, rfl, rfl, ?_⟩
  refine ⟨[], _, j_mul a b ha hb, rfl, ?_⟩
  refine ⟨Nat.le_refl _, ?_⟩
  refine ⟨_, rfl, rfl, ?_⟩
  refine ⟨_, rfl, rfl, ?_⟩
  refine ⟨[], _, j_mul b a hb ha, rfl, ?_⟩
  refine ⟨Nat.le_refl _, ?_⟩
  have aj : ∀ m : Jn, m.valid → Ret Try.prog 11 [jn m] [] (resJ ((jadj m).1, 0)) := fun m vm => by
    have := j_adj m (jn_ok vm)
    rw [show jadj m = ((jadj m).1, 0) by rw [jadj, if_pos vm]] at this
    exact this
  have vja := (jadj_v va).2.1
  have vjb := (jadj_v vb).2.1
  have eJ : ∀ m n : Jn, m = n → ¬ (!eqPL [i64 m.a.re, i64 m.a.im, i64 m.a.den, i64 m.b.re, i64 m.b.im, i64 m.b.den, i64 m.c.re, i64 m.c.im, i64 m.c.den, i64 m.d.re, i64 m.d.im, i64 m.d.den] [i64 n.a.re, i64 n.a.im, i64 n.a.den, i64 n.b.re, i64 n.b.im, i64 n.b.den, i64 n.c.re, i64 n.c.im, i64 n.c.den, i64 n.d.re, i64 n.d.im, i64 n.d.den]) = true := fun m n h => by rw [eqPL_jn]; simp [h]
  have eT : ∀ m n : Jn, m = n → eqPL [i64 m.a.re, i64 m.a.im, i64 m.a.den, i64 m.b.re, i64 m.b.im, i64 m.b.den, i64 m.c.re, i64 m.c.im, i64 m.c.den, i64 m.d.re, i64 m.d.im, i64 m.d.den] [i64 n.a.re, i64 n.a.im, i64 n.a.den, i64 n.b.re, i64 n.b.im, i64 n.b.den, i64 n.c.re, i64 n.c.im, i64 n.c.den, i64 n.d.re, i64 n.d.im, i64 n.d.den] = true := fun m n h => by rw [eqPL_jn]; simp [h]
  have eC : ∀ m n : Cx, m = n → ¬ (!eqPL [i64 m.re, i64 m.im, i64 m.den] [i64 n.re, i64 n.im, i64 n.den]) = true := fun m n h => by rw [eqPL_cx]; simp [h]
  refine ⟨fun h3 => ?_, fun h3 => ?_⟩
  focus
    have h3 : (jmul a b).2 = 0 := by simpa using h3
    obtain ⟨_, _, vp, _⟩ := jmul_v h3
    refine ⟨_, rfl, rfl, ?_⟩
    refine ⟨[], _, j_det a ha, rfl, ?_⟩
    refine ⟨_, rfl, rfl, ?_⟩
    refine ⟨[], _, j_det b hb, rfl, ?_⟩
    refine ⟨_, rfl, rfl, ?_⟩
    refine ⟨[], _, j_det (jmul a b).1 (jn_ok vp), rfl, ?_⟩
    refine ⟨fun h4 => ?_, fun h4 => ?_⟩
    focus
      refine ⟨fun h5 => ?_, fun h5 => ?_⟩
      focus
        refine ⟨fun h6 => ?_, fun h6 => ?_⟩
        focus
          have h4 : (jdet a).2 = 0 := by simpa using h4
          have h5 : (jdet b).2 = 0 := by simpa using h5
          have h6 : (jdet (jmul a b).1).2 = 0 := by simpa using h6
          refine ⟨[], _, c_mul (jdet a).1 (jdet b).1 (jn_of_valid (jdet_v h4).2.1) (jn_of_valid (jdet_v h5).2.1), rfl, ?_⟩
          refine ⟨fun h7 => ?_, fun h7 => ?_⟩
          focus
            refine ⟨fun q => absurd q (eC _ _ (det_key h3 h4 h5 h6 (by simpa using h7))), fun _ => ?_⟩
    all_goals
      refine ⟨_, rfl, rfl, ?_⟩
      refine ⟨[], _, aj a va, rfl, ?_⟩
      refine ⟨Nat.le_refl _, ?_⟩
      refine ⟨_, rfl, rfl, ?_⟩
      refine ⟨[], _, aj b vb, rfl, ?_⟩
      refine ⟨Nat.le_refl _, ?_⟩
      refine ⟨_, rfl, rfl, ?_⟩
      refine ⟨[], _, aj (jmul a b).1 vp, rfl, ?_⟩
      refine ⟨Nat.le_refl _, ?_⟩
      refine ⟨_, rfl, rfl, ?_⟩
      refine ⟨_, rfl, rfl, ?_⟩
      refine ⟨[], _, j_mul (jadj b).1 (jadj a).1 (jn_ok vjb) (jn_ok vja), rfl, ?_⟩
      refine ⟨Nat.le_refl _, ?_⟩
      refine ⟨fun _ => ?_, fun h => absurd h (by first | decide | simp)⟩
      refine ⟨fun _ => ?_, fun h => absurd h (by first | decide | simp)⟩
      refine ⟨fun _ => ?_, fun h => absurd h (by first | decide | simp)⟩
      refine ⟨fun h8 => ?_, fun h8 => ?_⟩
      focus
        refine ⟨_, rfl, rfl, ?_⟩
        refine ⟨_, rfl, rfl, ?_⟩
        refine ⟨fun q => absurd q (eJ _ _ (adj_key h3 (by simpa using h8))), fun _ => ?_⟩
      all_goals
        refine ⟨fun _ => ?_, fun q => absurd q (by simp [h3])⟩
        refine ⟨fun h9 => ?_, fun h9 => ?_⟩
        focus
          have h9 : (jmul b a).2 = 0 := by simpa using h9
          obtain ⟨_, _, vq, _⟩ := jmul_v h9
          refine ⟨_, rfl, rfl, ?_⟩
          refine ⟨[], _, j_tr (jmul a b).1 (jn_ok vp), rfl, ?_⟩
          refine ⟨_, rfl, rfl, ?_⟩
          refine ⟨[], _, j_tr (jmul b a).1 (jn_ok vq), rfl, ?_⟩
          refine ⟨fun h10 => ?_, fun h10 => ?_⟩
          focus
            refine ⟨fun h11 => ?_, fun h11 => ?_⟩
            focus
              refine ⟨fun q => absurd q (eC _ _ (tr_key h3 h9 (by simpa using h10) (by simpa using h11))), fun _ => ?_⟩
  rotate_right
  focus
    refine ⟨fun q => absurd q (by simpa using h3), fun _ => ?_⟩
  all_goals
    clear h3
    refine ⟨_, rfl, rfl, ?_⟩
    refine ⟨[], _, j_inv a ha, rfl, ?_⟩
    refine ⟨Nat.le_refl _, ?_⟩
    refine ⟨_, rfl, rfl, ?_⟩
    refine ⟨[], _, j_det a ha, rfl, ?_⟩
    refine ⟨fun h12 => ?_, fun h12 => ?_⟩
    focus
      have h12 : (jdet a).2 = 0 := by simpa using h12
      refine ⟨[], _, r_zero (jdet a).1, rfl, ?_⟩
      refine ⟨fun q => absurd q ?_, fun _ => ?_⟩
      focus
        show ¬ (!(((jinv a).2 == 18) == decide (jdet a).1.zero)) = true
        have := zero_key va
        by_cases z : (jdet a).1.zero
        · simp [z, this.2 ⟨h12, z⟩]
        · have n18 : (jinv a).2 ≠ 18 := fun h => z (this.1 h).2
          simp [z, n18]
    rotate_left
    focus
      have h12 : (jdet a).2 ≠ 0 := by simpa using h12
      refine ⟨fun q => absurd q ?_, fun _ => ?_⟩
      focus
        show ¬ (!(((jinv a).2 == 18) == false)) = true
        have n18 : (jinv a).2 ≠ 18 := fun h => h12 ((zero_key va).1 h).1
        simp [n18]
    all_goals
      refine ⟨fun h13 => ?_, fun h13 => ?_⟩
      rotate_left
      · rfl
      have h13 : (jinv a).2 = 0 := by simpa using h13
      obtain ⟨_, vi, _, _, _, _⟩ := jinv_v h13
      obtain ⟨k1, k2⟩ := inv_key h13
      refine ⟨_, rfl, rfl, ?_⟩
      refine ⟨_, rfl, rfl, ?_⟩
      refine ⟨[], _, j_mul a (jinv a).1 ha (jn_ok vi), rfl, ?_⟩
      refine ⟨Nat.le_refl _, ?_⟩
      refine ⟨_, rfl, rfl, ?_⟩
      refine ⟨_, rfl, rfl, ?_⟩
      refine ⟨[], _, j_mul (jinv a).1 a (jn_ok vi) ha, rfl, ?_⟩
      refine ⟨Nat.le_refl _, ?_⟩
      refine ⟨[], _, jl_whole 1 0 0 1, rfl, ?_⟩
      refine ⟨Nat.le_refl _, ?_⟩
      refine ⟨fun _ => ?_, fun h => absurd h (by first | decide | simp)⟩
      refine ⟨fun h14 => ?_, fun h14 => ?_⟩
      focus
        refine ⟨_, rfl, rfl, ?_⟩
        refine ⟨_, rfl, rfl, ?_⟩
        have g1 := k1 (by simpa using h14)
        refine ⟨fun _ => ?_, fun q => absurd q ?_⟩
        rotate_left
        · rw [show ((eqPL _ _) = false) = (true = false) from congrArg (· = false) (eT _ _ g1)]; decide
      all_goals
        refine ⟨fun h15 => ?_, fun h15 => ?_⟩
        rotate_left
        · rfl
        refine ⟨_, rfl, rfl, ?_⟩
        refine ⟨_, rfl, rfl, ?_⟩
        have g2 := k2 (by simpa using h15)
        exact congrArg (fun x => SV.p (bl x)) (eT _ _ g2)
end Go.Pv
