/- The law JonesLoops. -/
import Derived.Test.YtljahbpkhienkaaJo
import Derived.Test.YtljahbpkhienkaaJf
namespace Go.Pv
open Go.Vc
open Go.Proofs
set_option maxRecDepth 10000
set_option maxHeartbeats 4000000

theorem tr_eq {x y : Jn} (h : mtr (jv y) = mtr (jv x)) (h1 : (jtr x).2 = 0) (h2 : (jtr y).2 = 0) : (jtr x).1 = (jtr y).1 := by
  obtain ⟨_, v1, e1⟩ := jtr_v h1
  obtain ⟨_, v2, e2⟩ := jtr_v h2
  rw [h, ← e1] at e2
  exact v_inj v1 v2 (congrArg Prod.fst e2).symm (congrArg Prod.snd e2).symm

theorem det_eq {x y : Jn} (h : mdet (jv y) = mdet (jv x)) (h1 : (jdet x).2 = 0) (h2 : (jdet y).2 = 0) : (jdet x).1 = (jdet y).1 := by
  obtain ⟨_, v1, e1⟩ := jdet_v h1
  obtain ⟨_, v2, e2⟩ := jdet_v h2
  rw [h, ← e1] at e2
  exact v_inj v1 v2 (congrArg Prod.fst e2).symm (congrArg Prod.snd e2).symm

theorem mul_eq {x y t : Jn} (h : mm (jv y) (jv t) = mm (jv t) (jv x)) (h1 : (jmul y t).2 = 0) (h2 : (jmul t x).2 = 0) : (jmul y t).1 = (jmul t x).1 := by
  obtain ⟨_, _, v1, e1⟩ := jmul_v h1
  obtain ⟨_, _, v2, e2⟩ := jmul_v h2
  exact jv_inj v1 v2 (by rw [e1, e2, h])

theorem jonesLoops (t : List Jn) (l : List Pol) (a b c d : Int) (ht : ∀ m ∈ t, Enc.ok m) (hl : ∀ p ∈ l, Enc.ok p) : Ret Try.prog 8 [sl t, sl l, i64 a, i64 b, i64 c, i64 d] [] (.p (bl true)) := by
  refine ret (fn := Try.f8) (by kernel_rfl) (by kernel_rfl) rfl ?_
  refine ⟨[], _, jl_alive, rfl, ?_⟩
  refine ⟨[], _, jr_table t, rfl, ?_⟩
  refine ⟨fun h1 => ?_, fun h1 => ?_⟩
  rotate_left
  · rfl
  have h1 : jtab t = 0 := by simpa using h1
  refine ⟨fun h2 => ?_, fun h2 => ?_⟩
  rotate_left
  · rfl
  have h2 : t.length = 8 := by simp at h2; omega
  refine ⟨[], _, jr_check l, rfl, ?_⟩
  refine ⟨fun h3 => ?_, fun h3 => ?_⟩
  rotate_left
  · rfl
  have h3 : jck l = 0 := by simpa using h3
  refine ⟨[], _, r_apart27 [a, b, c, d] (by show 4 ≤ _; omega), rfl, ?_⟩
  refine ⟨fun h4 => ?_, fun h4 => ?_⟩
  rotate_left
  · rfl
  have h4 : apart [a, b, c, d] := by simpa using h4
  refine ⟨fun h => absurd h (by first | decide | simp), fun _ => ?_⟩
  refine ⟨[], _, j_act t l ht hl, rfl, ?_⟩
  refine ⟨[], _, j_loop l a b c d hl, rfl, ?_⟩
  refine ⟨Nat.le_refl _, ?_⟩
  refine ⟨fun h5 => ?_, fun h5 => ?_⟩
  rotate_left
  · rfl
  have h5 : (jact t l).2 = 0 := by simpa using h5
  refine ⟨fun h6 => ?_, fun h6 => ?_⟩
  · rfl
  have h6 : (jloop l a b c d).2 = 0 := by simpa using h6
  obtain ⟨la1, la2⟩ := loop_act h1 h2 h5 h6
  refine ⟨[], _, j_loop (jact t l).1 a b c d (jact_enc h5 hl), rfl, ?_⟩
  refine ⟨Nat.le_refl _, ?_⟩
  refine ⟨fun h7 => ?_, fun h7 => ?_⟩
  · have h7 : (jloop (jact t l).1 a b c d).2 = 16 := la1.resolve_left (by simpa using h7)
    refine ⟨fun _ => ?_, fun h => absurd h (by first | decide | simp)⟩
    show SV.p (bl ((jloop (jact t l).1 a b c d).2 == 16)) = _
    rw [h7]; rfl
  have h7 : (jloop (jact t l).1 a b c d).2 = 0 := by simpa using h7
  obtain ⟨vx, vy, k1, k2, k3⟩ := la2 h7
  have ktr := tr_eq k1
  have kdet := det_eq k2
  have ha := h4.1 a (by simp)
  obtain ⟨n, hn⟩ : ∃ n : Nat, a = n := ⟨a.toNat, by omega⟩
  have hnt : n < t.length := by omega
  have ejg : jg t a = t[n] := by rw [hn, jg_get hnt]
  have kmul := mul_eq k3
  rw [ejg] at kmul
  refine ⟨_, rfl, rfl, ?_⟩
  refine ⟨[], _, j_tr (jloop l a b c d).1 (jn_ok vx), rfl, ?_⟩
  refine ⟨_, rfl, rfl, ?_⟩
  refine ⟨[], _, j_tr (jloop (jact t l).1 a b c d).1 (jn_ok vy), rfl, ?_⟩
  refine ⟨_, rfl, rfl, ?_⟩
  refine ⟨[], _, j_det (jloop l a b c d).1 (jn_ok vx), rfl, ?_⟩
  refine ⟨_, rfl, rfl, ?_⟩
  refine ⟨[], _, j_det (jloop (jact t l).1 a b c d).1 (jn_ok vy), rfl, ?_⟩
  have eT : ∀ m n : Jn, m = n → eqPL [i64 m.a.re, i64 m.a.im, i64 m.a.den, i64 m.b.re, i64 m.b.im, i64 m.b.den, i64 m.c.re, i64 m.c.im, i64 m.c.den, i64 m.d.re, i64 m.d.im, i64 m.d.den] [i64 n.a.re, i64 n.a.im, i64 n.a.den, i64 n.b.re, i64 n.b.im, i64 n.b.den, i64 n.c.re, i64 n.c.im, i64 n.c.den, i64 n.d.re, i64 n.d.im, i64 n.d.den] = true := fun m n h => by rw [eqPL_jn]; simp [h]
  have eC : ∀ m n : Cx, m = n → ¬ (!eqPL [i64 m.re, i64 m.im, i64 m.den] [i64 n.re, i64 n.im, i64 n.den]) = true := fun m n h => by rw [eqPL_cx]; simp [h]
  refine ⟨fun g1 => ?_, fun g1 => ?_⟩
  focus
    refine ⟨fun g2 => ?_, fun g2 => ?_⟩
    focus
      have g1 : (jtr (jloop l a b c d).1).2 = 0 := by simpa using g1
      have g2 : (jtr (jloop (jact t l).1 a b c d).1).2 = 0 := by simpa using g2
      refine ⟨fun _ => ?_, fun q => absurd q (eC _ _ (ktr g1 g2))⟩
  all_goals
    refine ⟨fun g3 => ?_, fun g3 => ?_⟩
    focus
      refine ⟨fun g4 => ?_, fun g4 => ?_⟩
      focus
        have g3 : (jdet (jloop l a b c d).1).2 = 0 := by simpa using g3
        have g4 : (jdet (jloop (jact t l).1 a b c d).1).2 = 0 := by simpa using g4
        refine ⟨fun q => absurd q (eC _ _ (kdet g3 g4)), fun _ => ?_⟩
  all_goals
    refine ⟨_, rfl, rfl, ?_⟩
    refine ⟨n, hn, hnt, by decide, _, idx hnt, rfl, ?_⟩
    refine ⟨_, j_mul (jloop (jact t l).1 a b c d).1 t[n] (jn_ok vy) (ht _ (List.getElem_mem hnt)), rfl, ?_⟩
    refine ⟨n, hn, hnt, by decide, _, idx hnt, rfl, ?_⟩
    refine ⟨_, rfl, rfl, ?_⟩
    refine ⟨_, j_mul t[n] (jloop l a b c d).1 (ht _ (List.getElem_mem hnt)) (jn_ok vx), rfl, ?_⟩
    refine ⟨fun _ => ?_, fun h => absurd h (by first | decide | simp)⟩
    refine ⟨fun g5 => ?_, fun g5 => ?_⟩
    rotate_left
    · rfl
    have g5 : (jmul (jloop (jact t l).1 a b c d).1 t[n]).2 = 0 := by simpa using g5
    refine ⟨fun g6 => ?_, fun g6 => ?_⟩
    rotate_left
    · rfl
    have g6 : (jmul t[n] (jloop l a b c d).1).2 = 0 := by simpa using g6
    refine ⟨_, rfl, rfl, ?_⟩
    refine ⟨_, rfl, rfl, ?_⟩
    have e := eT _ _ (kmul g5 g6)
    show SV.p (bl (eqPL _ _)) = _
    exact congrArg (fun x => SV.p (bl x)) e
end Go.Pv
