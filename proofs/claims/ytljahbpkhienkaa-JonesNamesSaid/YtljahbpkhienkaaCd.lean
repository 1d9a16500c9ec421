/- The contract of the reference's division. -/
import Derived.Test.YtljahbpkhienkaaCr
namespace Go.Pv
open Go.Vc
open Go.Proofs
set_option maxRecDepth 10000

theorem quo_gt {x d : Int} (hd : 0 < d) : (x.natAbs : Int) > 1000000000 / d ↔ ¬ fits (x * d) := by
  have h1 : ((x * d).natAbs : Int) = x.natAbs * d := by
    rw [Int.natAbs_mul, Int.natCast_mul]
    congr 1
    omega
  have h2 : (x.natAbs : Int) > 1000000000 / d ↔ (x.natAbs : Int) * d > 1000000000 := by
    rw [gt_iff_lt, gt_iff_lt, Int.ediv_lt_iff_lt_mul hd]
  rw [h2, ← h1]
  unfold fits
  omega

set_option maxHeartbeats 2000000 in
theorem r_div (a b : Cx) : Ret Try.prog 47 [cx a, cx b] [] (resC (div a b)) := by
  refine ret (fn := Try.f47) (by kernel_rfl) (by kernel_rfl) rfl ?_
  refine ⟨[], _, r_both a b, rfl, ?_⟩
  refine ⟨fun h1 => ?_, fun h1 => ?_⟩
  · rw [both_ne] at h1
    rw [div, if_neg h1]; rfl
  · have hv : a.valid ∧ b.valid := by rwa [both_eq] at h1
    refine ⟨fun h20 => ?_, fun h20 => ?_⟩
    rotate_left
    · have h2 : ¬ b.zero := fun h => by simp at h20; exact h20 h.1
      obtain ⟨a1, a2, a3, a4⟩ := valid_fits hv.1
      obtain ⟨b1, b2, b3, b4⟩ := valid_fits hv.2
      have m1 := mul_bound a1 b1
      have m2 := mul_bound a2 b2
      have m3 := mul_bound a2 b1
      have m4 := mul_bound a1 b2
      have m5 := mul_bound b1 b1
      have m6 := mul_bound b2 b2
      have hdiv : div a b = make ((a.re * b.re + a.im * b.im) * b.den) ((a.im * b.re - a.re * b.im) * b.den) ((b.re * b.re + b.im * b.im) * a.den) := by rw [div, if_pos hv, if_neg h2]
      have hn : 0 < b.re * b.re + b.im * b.im := by
        have s1 : 0 ≤ b.re * b.re := by rw [← Int.natAbs_mul_self]; omega
        have s2 : 0 ≤ b.im * b.im := by rw [← Int.natAbs_mul_self]; omega
        rcases Int.lt_trichotomy (b.re * b.re + b.im * b.im) 0 with h | h | h
        · omega
        · have t1 : b.re * b.re = 0 := by omega
          have t2 : b.im * b.im = 0 := by omega
          exact absurd ⟨by rcases Int.mul_eq_zero.1 t1 with h | h <;> exact h, by rcases Int.mul_eq_zero.1 t2 with h | h <;> exact h⟩ h2
        · exact h
      have wp : IntKind.i64.wrap (IntKind.i64.wrap (a.re * b.re) + IntKind.i64.wrap (a.im * b.im)) = a.re * b.re + a.im * b.im := by rw [wrap_id (n := a.re * b.re) (by omega) (by omega), wrap_id (n := a.im * b.im) (by omega) (by omega), wrap_id (by omega) (by omega)]
      have wq : IntKind.i64.wrap (IntKind.i64.wrap (a.im * b.re) - IntKind.i64.wrap (a.re * b.im)) = a.im * b.re - a.re * b.im := by rw [wrap_id (n := a.im * b.re) (by omega) (by omega), wrap_id (n := a.re * b.im) (by omega) (by omega), wrap_id (by omega) (by omega)]
      have wn : IntKind.i64.wrap (IntKind.i64.wrap (b.re * b.re) + IntKind.i64.wrap (b.im * b.im)) = b.re * b.re + b.im * b.im := by rw [wrap_id (n := b.re * b.re) (by omega) (by omega), wrap_id (n := b.im * b.im) (by omega) (by omega), wrap_id (by omega) (by omega)]
      have hpb : -2000000000000000000 ≤ a.re * b.re + a.im * b.im ∧ a.re * b.re + a.im * b.im ≤ 2000000000000000000 := by omega
      have hqb : -2000000000000000000 ≤ a.im * b.re - a.re * b.im ∧ a.im * b.re - a.re * b.im ≤ 2000000000000000000 := by omega
      have hnb : b.re * b.re + b.im * b.im ≤ 2000000000000000000 := by omega
      clear m1 m2 m3 m4 m5 m6
      generalize hpe : a.re * b.re + a.im * b.im = p at *
      generalize hqe : a.im * b.re - a.re * b.im = q at *
      generalize hne : b.re * b.re + b.im * b.im = n at *
      have hdp : 0 < b.den := by omega
      have hep : 0 < a.den := by omega
      unfold fits at a3 b3
      obtain ⟨h1', h2', h3', h4', c1, c2, c3, f1, f2, f3, x1, x2, x3, y1, y2, d1, d2, d3, e1, e2⟩ := red_facts (p := p) (q := q) (n := n) (d := b.den) (e := a.den) hn hdp hep
      have hg1 := gcd_le p q 2000000000000000000 (by omega) (by omega)
      have l0 : True := trivial
      refine ⟨[], _, r_gcdE (a := p) (b := q) wp wq (by omega) (by omega), rfl, ?_⟩
      refine ⟨[], _, r_gcdE (a := ((Int.gcd p q : Nat) : Int)) (b := n) rfl wn (by omega) (by omega), rfl, ?_⟩
      have n1 : ((Int.gcd ((Int.gcd p q : Nat) : Int) n : Nat) : Int) ≠ 0 := by have : rg1 p q n = Int.gcd ((Int.gcd p q : Nat) : Int) n := rfl; omega
      have vre : ∀ z, z = p → IntKind.i64.wrap (z.tdiv ((Int.gcd ((Int.gcd p q : Nat) : Int) n : Nat) : Int)) = rre p q n := fun z hz => by subst hz; exact quo_w h1' x1 (by omega)
      have vim : ∀ z, z = q → IntKind.i64.wrap (z.tdiv ((Int.gcd ((Int.gcd p q : Nat) : Int) n : Nat) : Int)) = rim p q n := fun z hz => by subst hz; exact quo_w h1' x2 (by omega)
      have vden : ∀ z, z = n → IntKind.i64.wrap (z.tdiv ((Int.gcd ((Int.gcd p q : Nat) : Int) n : Nat) : Int)) = rden p q n := fun z hz => by subst hz; exact quo_w h1' x3 (by omega)
      have l1 : (rre p q n).natAbs ≤ 2000000000000000000 := Nat.le_trans (ediv_le h1' x1) (by omega)
      have l2 : (rim p q n).natAbs ≤ 2000000000000000000 := Nat.le_trans (ediv_le h1' x2) (by omega)
      have l3 : (rden p q n).natAbs ≤ 2000000000000000000 := Nat.le_trans (ediv_le h1' x3) (by omega)
      have l4 : (rtop b.den a.den).natAbs ≤ 1000000000 := Nat.le_trans (ediv_le h2' y1) (by omega)
      have l5 : (rbot b.den a.den).natAbs ≤ 1000000000 := Nat.le_trans (ediv_le h2' y2) (by omega)
      have l6 : (fre p q n b.den a.den).natAbs ≤ 2000000000000000000 := Nat.le_trans (ediv_le h3' d1) l1
      have l7 : (fim p q n b.den a.den).natAbs ≤ 2000000000000000000 := Nat.le_trans (ediv_le h3' d2) l2
      have l8 : (fbot p q n b.den a.den).natAbs ≤ 1000000000 := Nat.le_trans (ediv_le h3' d3) l5
      have l9 : (ftop p q n b.den a.den).natAbs ≤ 1000000000 := Nat.le_trans (ediv_le h4' e1) l4
      have l10 : (fden p q n b.den a.den).natAbs ≤ 2000000000000000000 := Nat.le_trans (ediv_le h4' e2) l3
      refine ⟨n1, n1, n1, ?_⟩
      refine ⟨[], _, r_gcd b.den a.den (by omega) (by omega), rfl, ?_⟩
      have n2 : ((Int.gcd b.den a.den : Nat) : Int) ≠ 0 := by have : rg2 b.den a.den = Int.gcd b.den a.den := rfl; omega
      have vtop : IntKind.i64.wrap (b.den.tdiv ((Int.gcd b.den a.den : Nat) : Int)) = rtop b.den a.den := quo_w h2' y1 (by omega)
      have vbot : IntKind.i64.wrap (a.den.tdiv ((Int.gcd b.den a.den : Nat) : Int)) = rbot b.den a.den := quo_w h2' y2 (by omega)
      refine ⟨n2, n2, ?_⟩
      refine ⟨[], _, r_gcdE (a := rtop b.den a.den) (b := rden p q n) vtop (vden _ wn) (by omega) (by omega), rfl, ?_⟩
      have n4 : ((Int.gcd (rtop b.den a.den) (rden p q n) : Nat) : Int) ≠ 0 := by have : rg4 p q n b.den a.den = Int.gcd (rtop b.den a.den) (rden p q n) := rfl; omega
      have utop : ∀ z, z = rtop b.den a.den → IntKind.i64.wrap (z.tdiv ((Int.gcd (rtop b.den a.den) (rden p q n) : Nat) : Int)) = ftop p q n b.den a.den := fun z hz => by subst hz; exact quo_w h4' e1 (by omega)
      have uden : ∀ z, z = rden p q n → IntKind.i64.wrap (z.tdiv ((Int.gcd (rtop b.den a.den) (rden p q n) : Nat) : Int)) = fden p q n b.den a.den := fun z hz => by subst hz; exact quo_w h4' e2 (by omega)
      refine ⟨n4, n4, ?_⟩
      have hg3 := gcd_le (rre p q n) (rim p q n) 2000000000000000000 l1 l2
      refine ⟨[], _, r_gcdE (a := rre p q n) (b := rim p q n) (vre _ wp) (vim _ wq) (by omega) (by omega), rfl, ?_⟩
      refine ⟨[], _, r_gcdE (a := ((Int.gcd (rre p q n) (rim p q n) : Nat) : Int)) (b := rbot b.den a.den) rfl vbot (by omega) (by omega), rfl, ?_⟩
      have n3 : ((Int.gcd ((Int.gcd (rre p q n) (rim p q n) : Nat) : Int) (rbot b.den a.den) : Nat) : Int) ≠ 0 := by have : rg3 p q n b.den a.den = Int.gcd ((Int.gcd (rre p q n) (rim p q n) : Nat) : Int) (rbot b.den a.den) := rfl; omega
      have ure : ∀ z, z = rre p q n → IntKind.i64.wrap (z.tdiv ((Int.gcd ((Int.gcd (rre p q n) (rim p q n) : Nat) : Int) (rbot b.den a.den) : Nat) : Int)) = fre p q n b.den a.den := fun z hz => by subst hz; exact quo_w h3' d1 (by omega)
      have uim : ∀ z, z = rim p q n → IntKind.i64.wrap (z.tdiv ((Int.gcd ((Int.gcd (rre p q n) (rim p q n) : Nat) : Int) (rbot b.den a.den) : Nat) : Int)) = fim p q n b.den a.den := fun z hz => by subst hz; exact quo_w h3' d2 (by omega)
      have ubot : ∀ z, z = rbot b.den a.den → IntKind.i64.wrap (z.tdiv ((Int.gcd ((Int.gcd (rre p q n) (rim p q n) : Nat) : Int) (rbot b.den a.den) : Nat) : Int)) = fbot p q n b.den a.den := fun z hz => by subst hz; exact quo_w h3' d3 (by omega)
      refine ⟨fun h3g => ?_, fun h3g => ?_⟩
      rotate_left
      · have : rg3 p q n b.den a.den = Int.gcd ((Int.gcd (rre p q n) (rim p q n) : Nat) : Int) (rbot b.den a.den) := rfl
        simp at h3g
        omega
      refine ⟨n3, n3, n3, ?_⟩
      have hnorm := red_norm (p := p) (q := q) hn hdp hep
      have rng : ¬ (fits (fre p q n b.den a.den * ftop p q n b.den a.den) ∧ fits (fim p q n b.den a.den * ftop p q n b.den a.den) ∧ fits (fden p q n b.den a.den * fbot p q n b.den a.den)) → div a b = (c0, 16) := by
        intro h
        rw [hdiv, make, hnorm, if_neg h]
      have ft : fits (ftop p q n b.den a.den) := by unfold fits; omega
      have fb : fits (fbot p q n b.den a.den) := by unfold fits; omega
      have td : ∀ z, z = rtop b.den a.den → IntKind.i64.wrap (z.tdiv ((Int.gcd (rtop b.den a.den) (rden p q n) : Nat) : Int)) ≠ 0 := fun z hz => by rw [utop z hz]; omega
      have bd : ∀ z, z = rbot b.den a.den → IntKind.i64.wrap (z.tdiv ((Int.gcd ((Int.gcd (rre p q n) (rim p q n) : Nat) : Int) (rbot b.den a.den) : Nat) : Int)) ≠ 0 := fun z hz => by rw [ubot z hz]; omega
      have qd : ∀ z y : Int, z = y → 0 < y → IntKind.i64.wrap ((1000000000 : Int).tdiv z) = 1000000000 / y := fun z y hz hy => by
        subst hz
        have h1 : (1000000000 : Int).tdiv z = 1000000000 / z := Int.tdiv_eq_ediv_of_nonneg (by omega)
        have h2 : 0 ≤ (1000000000 : Int) / z := Int.ediv_nonneg (by omega) (by omega)
        have h3 : (1000000000 : Int) / z ≤ 1000000000 := Int.ediv_le_self _ (by omega)
        rw [h1, wrap_id (by omega) (by omega)]
      have mx : ∀ z y : Int, z = y → y.natAbs ≤ 2000000000000000000 → (if IntKind.i64.wrap (0 - z) > z then IntKind.i64.wrap (0 - z) else z) = (y.natAbs : Int) := fun z y hz hy => by
        subst hz
        exact maxneg (by omega)
      refine ⟨td _ vtop, ?_⟩
      have e5 := mx _ _ (ure _ (vre _ wp)) l6
      have e6 := mx _ _ (uim _ (vim _ wq)) l7
      have e7 := qd _ _ (utop _ vtop) f2
      have e8 := qd _ _ (ubot _ vbot) f3
      have e9 := uden _ (vden _ wn)
      refine ⟨fun h5 => ?_, fun h5 => ?_⟩
      · rw [e5, e7] at h5
        simp only [decide_eq_false_iff_not, quo_gt f2, Classical.not_not] at h5
        refine ⟨td _ vtop, ?_⟩
        refine ⟨fun h6 => ?_, fun h6 => ?_⟩
        · rw [e6, e7] at h6
          simp only [decide_eq_false_iff_not, quo_gt f2, Classical.not_not] at h6
          refine ⟨bd _ vbot, ?_⟩
          refine ⟨fun h7 => ?_, fun h7 => ?_⟩
          · rw [e8, e9] at h7
            simp only [decide_eq_true_eq] at h7
            rw [rng fun h => (quo_gt f3).1 (by rw [show ((fden p q n b.den a.den).natAbs : Int) = fden p q n b.den a.den by omega]; exact h7) h.2.2]; rfl
          · rw [e8, e9] at h7
            simp only [decide_eq_false_iff_not] at h7
            have h7 : fits (fden p q n b.den a.den * fbot p q n b.den a.den) := by
              refine Classical.not_not.1 fun h => h7 ?_
              have := (quo_gt f3).2 h
              rwa [show ((fden p q n b.den a.den).natAbs : Int) = fden p q n b.den a.den by omega] at this
            have k4 := mul_pos' (a := fden p q n b.den a.den) (b := fbot p q n b.den a.den) (by omega) (by omega)
            have h5' := h5
            have h6' := h6
            have h7' := h7
            unfold fits at h5' h6' h7'
            refine ⟨[], resC (make (fre p q n b.den a.den * ftop p q n b.den a.den) (fim p q n b.den a.den * ftop p q n b.den a.den) (fden p q n b.den a.den * fbot p q n b.den a.den)), r_madeE ?_ ?_ ?_ ⟨by omega, by omega⟩ ⟨by omega, by omega⟩ ⟨by omega, by omega⟩ k4, rfl, ?_⟩
            · rw [ure _ (vre _ wp), utop _ vtop, wrap_id (by omega) (by omega)]
            · rw [uim _ (vim _ wq), utop _ vtop, wrap_id (by omega) (by omega)]
            · rw [uden _ (vden _ wn), ubot _ vbot, wrap_id (by omega) (by omega)]
            · show resC (make _ _ _) = resC (div a b)
              rw [hdiv, make, make, hnorm, norm_low k4 (red_low hn hdp hep)]
        · rw [e6, e7] at h6
          simp only [decide_eq_true_eq, quo_gt f2] at h6
          rw [rng fun h => h6 h.2.1]; rfl
      · rw [e5, e7] at h5
        simp only [decide_eq_true_eq, quo_gt f2] at h5
        rw [rng fun h => h5 h.1]; rfl
    · refine ⟨fun h21 => ?_, fun h21 => ?_⟩
      · simp at h20 h21
        rw [div, if_pos hv, if_pos ⟨h20, h21⟩]; rfl
      · have h2 : ¬ b.zero := fun h => by simp at h21; exact h21 h.2
        obtain ⟨a1, a2, a3, a4⟩ := valid_fits hv.1
        obtain ⟨b1, b2, b3, b4⟩ := valid_fits hv.2
        have m1 := mul_bound a1 b1
        have m2 := mul_bound a2 b2
        have m3 := mul_bound a2 b1
        have m4 := mul_bound a1 b2
        have m5 := mul_bound b1 b1
        have m6 := mul_bound b2 b2
        have hdiv : div a b = make ((a.re * b.re + a.im * b.im) * b.den) ((a.im * b.re - a.re * b.im) * b.den) ((b.re * b.re + b.im * b.im) * a.den) := by rw [div, if_pos hv, if_neg h2]
        have hn : 0 < b.re * b.re + b.im * b.im := by
          have s1 : 0 ≤ b.re * b.re := by rw [← Int.natAbs_mul_self]; omega
          have s2 : 0 ≤ b.im * b.im := by rw [← Int.natAbs_mul_self]; omega
          rcases Int.lt_trichotomy (b.re * b.re + b.im * b.im) 0 with h | h | h
          · omega
          · have t1 : b.re * b.re = 0 := by omega
            have t2 : b.im * b.im = 0 := by omega
            exact absurd ⟨by rcases Int.mul_eq_zero.1 t1 with h | h <;> exact h, by rcases Int.mul_eq_zero.1 t2 with h | h <;> exact h⟩ h2
          · exact h
        have wp : IntKind.i64.wrap (IntKind.i64.wrap (a.re * b.re) + IntKind.i64.wrap (a.im * b.im)) = a.re * b.re + a.im * b.im := by rw [wrap_id (n := a.re * b.re) (by omega) (by omega), wrap_id (n := a.im * b.im) (by omega) (by omega), wrap_id (by omega) (by omega)]
        have wq : IntKind.i64.wrap (IntKind.i64.wrap (a.im * b.re) - IntKind.i64.wrap (a.re * b.im)) = a.im * b.re - a.re * b.im := by rw [wrap_id (n := a.im * b.re) (by omega) (by omega), wrap_id (n := a.re * b.im) (by omega) (by omega), wrap_id (by omega) (by omega)]
        have wn : IntKind.i64.wrap (IntKind.i64.wrap (b.re * b.re) + IntKind.i64.wrap (b.im * b.im)) = b.re * b.re + b.im * b.im := by rw [wrap_id (n := b.re * b.re) (by omega) (by omega), wrap_id (n := b.im * b.im) (by omega) (by omega), wrap_id (by omega) (by omega)]
        have hpb : -2000000000000000000 ≤ a.re * b.re + a.im * b.im ∧ a.re * b.re + a.im * b.im ≤ 2000000000000000000 := by omega
        have hqb : -2000000000000000000 ≤ a.im * b.re - a.re * b.im ∧ a.im * b.re - a.re * b.im ≤ 2000000000000000000 := by omega
        have hnb : b.re * b.re + b.im * b.im ≤ 2000000000000000000 := by omega
        clear m1 m2 m3 m4 m5 m6
        generalize hpe : a.re * b.re + a.im * b.im = p at *
        generalize hqe : a.im * b.re - a.re * b.im = q at *
        generalize hne : b.re * b.re + b.im * b.im = n at *
        have hdp : 0 < b.den := by omega
        have hep : 0 < a.den := by omega
        unfold fits at a3 b3
        obtain ⟨h1', h2', h3', h4', c1, c2, c3, f1, f2, f3, x1, x2, x3, y1, y2, d1, d2, d3, e1, e2⟩ := red_facts (p := p) (q := q) (n := n) (d := b.den) (e := a.den) hn hdp hep
        have hg1 := gcd_le p q 2000000000000000000 (by omega) (by omega)
        have l0 : True := trivial
        refine ⟨[], _, r_gcdE (a := p) (b := q) wp wq (by omega) (by omega), rfl, ?_⟩
        refine ⟨[], _, r_gcdE (a := ((Int.gcd p q : Nat) : Int)) (b := n) rfl wn (by omega) (by omega), rfl, ?_⟩
        have n1 : ((Int.gcd ((Int.gcd p q : Nat) : Int) n : Nat) : Int) ≠ 0 := by have : rg1 p q n = Int.gcd ((Int.gcd p q : Nat) : Int) n := rfl; omega
        have vre : ∀ z, z = p → IntKind.i64.wrap (z.tdiv ((Int.gcd ((Int.gcd p q : Nat) : Int) n : Nat) : Int)) = rre p q n := fun z hz => by subst hz; exact quo_w h1' x1 (by omega)
        have vim : ∀ z, z = q → IntKind.i64.wrap (z.tdiv ((Int.gcd ((Int.gcd p q : Nat) : Int) n : Nat) : Int)) = rim p q n := fun z hz => by subst hz; exact quo_w h1' x2 (by omega)
        have vden : ∀ z, z = n → IntKind.i64.wrap (z.tdiv ((Int.gcd ((Int.gcd p q : Nat) : Int) n : Nat) : Int)) = rden p q n := fun z hz => by subst hz; exact quo_w h1' x3 (by omega)
        have l1 : (rre p q n).natAbs ≤ 2000000000000000000 := Nat.le_trans (ediv_le h1' x1) (by omega)
        have l2 : (rim p q n).natAbs ≤ 2000000000000000000 := Nat.le_trans (ediv_le h1' x2) (by omega)
        have l3 : (rden p q n).natAbs ≤ 2000000000000000000 := Nat.le_trans (ediv_le h1' x3) (by omega)
        have l4 : (rtop b.den a.den).natAbs ≤ 1000000000 := Nat.le_trans (ediv_le h2' y1) (by omega)
        have l5 : (rbot b.den a.den).natAbs ≤ 1000000000 := Nat.le_trans (ediv_le h2' y2) (by omega)
        have l6 : (fre p q n b.den a.den).natAbs ≤ 2000000000000000000 := Nat.le_trans (ediv_le h3' d1) l1
        have l7 : (fim p q n b.den a.den).natAbs ≤ 2000000000000000000 := Nat.le_trans (ediv_le h3' d2) l2
        have l8 : (fbot p q n b.den a.den).natAbs ≤ 1000000000 := Nat.le_trans (ediv_le h3' d3) l5
        have l9 : (ftop p q n b.den a.den).natAbs ≤ 1000000000 := Nat.le_trans (ediv_le h4' e1) l4
        have l10 : (fden p q n b.den a.den).natAbs ≤ 2000000000000000000 := Nat.le_trans (ediv_le h4' e2) l3
        refine ⟨n1, n1, n1, ?_⟩
        refine ⟨[], _, r_gcd b.den a.den (by omega) (by omega), rfl, ?_⟩
        have n2 : ((Int.gcd b.den a.den : Nat) : Int) ≠ 0 := by have : rg2 b.den a.den = Int.gcd b.den a.den := rfl; omega
        have vtop : IntKind.i64.wrap (b.den.tdiv ((Int.gcd b.den a.den : Nat) : Int)) = rtop b.den a.den := quo_w h2' y1 (by omega)
        have vbot : IntKind.i64.wrap (a.den.tdiv ((Int.gcd b.den a.den : Nat) : Int)) = rbot b.den a.den := quo_w h2' y2 (by omega)
        refine ⟨n2, n2, ?_⟩
        refine ⟨[], _, r_gcdE (a := rtop b.den a.den) (b := rden p q n) vtop (vden _ wn) (by omega) (by omega), rfl, ?_⟩
        have n4 : ((Int.gcd (rtop b.den a.den) (rden p q n) : Nat) : Int) ≠ 0 := by have : rg4 p q n b.den a.den = Int.gcd (rtop b.den a.den) (rden p q n) := rfl; omega
        have utop : ∀ z, z = rtop b.den a.den → IntKind.i64.wrap (z.tdiv ((Int.gcd (rtop b.den a.den) (rden p q n) : Nat) : Int)) = ftop p q n b.den a.den := fun z hz => by subst hz; exact quo_w h4' e1 (by omega)
        have uden : ∀ z, z = rden p q n → IntKind.i64.wrap (z.tdiv ((Int.gcd (rtop b.den a.den) (rden p q n) : Nat) : Int)) = fden p q n b.den a.den := fun z hz => by subst hz; exact quo_w h4' e2 (by omega)
        refine ⟨n4, n4, ?_⟩
        have hg3 := gcd_le (rre p q n) (rim p q n) 2000000000000000000 l1 l2
        refine ⟨[], _, r_gcdE (a := rre p q n) (b := rim p q n) (vre _ wp) (vim _ wq) (by omega) (by omega), rfl, ?_⟩
        refine ⟨[], _, r_gcdE (a := ((Int.gcd (rre p q n) (rim p q n) : Nat) : Int)) (b := rbot b.den a.den) rfl vbot (by omega) (by omega), rfl, ?_⟩
        have n3 : ((Int.gcd ((Int.gcd (rre p q n) (rim p q n) : Nat) : Int) (rbot b.den a.den) : Nat) : Int) ≠ 0 := by have : rg3 p q n b.den a.den = Int.gcd ((Int.gcd (rre p q n) (rim p q n) : Nat) : Int) (rbot b.den a.den) := rfl; omega
        have ure : ∀ z, z = rre p q n → IntKind.i64.wrap (z.tdiv ((Int.gcd ((Int.gcd (rre p q n) (rim p q n) : Nat) : Int) (rbot b.den a.den) : Nat) : Int)) = fre p q n b.den a.den := fun z hz => by subst hz; exact quo_w h3' d1 (by omega)
        have uim : ∀ z, z = rim p q n → IntKind.i64.wrap (z.tdiv ((Int.gcd ((Int.gcd (rre p q n) (rim p q n) : Nat) : Int) (rbot b.den a.den) : Nat) : Int)) = fim p q n b.den a.den := fun z hz => by subst hz; exact quo_w h3' d2 (by omega)
        have ubot : ∀ z, z = rbot b.den a.den → IntKind.i64.wrap (z.tdiv ((Int.gcd ((Int.gcd (rre p q n) (rim p q n) : Nat) : Int) (rbot b.den a.den) : Nat) : Int)) = fbot p q n b.den a.den := fun z hz => by subst hz; exact quo_w h3' d3 (by omega)
        refine ⟨fun h3g => ?_, fun h3g => ?_⟩
        rotate_left
        · have : rg3 p q n b.den a.den = Int.gcd ((Int.gcd (rre p q n) (rim p q n) : Nat) : Int) (rbot b.den a.den) := rfl
          simp at h3g
          omega
        refine ⟨n3, n3, n3, ?_⟩
        have hnorm := red_norm (p := p) (q := q) hn hdp hep
        have rng : ¬ (fits (fre p q n b.den a.den * ftop p q n b.den a.den) ∧ fits (fim p q n b.den a.den * ftop p q n b.den a.den) ∧ fits (fden p q n b.den a.den * fbot p q n b.den a.den)) → div a b = (c0, 16) := by
          intro h
          rw [hdiv, make, hnorm, if_neg h]
        have ft : fits (ftop p q n b.den a.den) := by unfold fits; omega
        have fb : fits (fbot p q n b.den a.den) := by unfold fits; omega
        have td : ∀ z, z = rtop b.den a.den → IntKind.i64.wrap (z.tdiv ((Int.gcd (rtop b.den a.den) (rden p q n) : Nat) : Int)) ≠ 0 := fun z hz => by rw [utop z hz]; omega
        have bd : ∀ z, z = rbot b.den a.den → IntKind.i64.wrap (z.tdiv ((Int.gcd ((Int.gcd (rre p q n) (rim p q n) : Nat) : Int) (rbot b.den a.den) : Nat) : Int)) ≠ 0 := fun z hz => by rw [ubot z hz]; omega
        have qd : ∀ z y : Int, z = y → 0 < y → IntKind.i64.wrap ((1000000000 : Int).tdiv z) = 1000000000 / y := fun z y hz hy => by
          subst hz
          have h1 : (1000000000 : Int).tdiv z = 1000000000 / z := Int.tdiv_eq_ediv_of_nonneg (by omega)
          have h2 : 0 ≤ (1000000000 : Int) / z := Int.ediv_nonneg (by omega) (by omega)
          have h3 : (1000000000 : Int) / z ≤ 1000000000 := Int.ediv_le_self _ (by omega)
          rw [h1, wrap_id (by omega) (by omega)]
        have mx : ∀ z y : Int, z = y → y.natAbs ≤ 2000000000000000000 → (if IntKind.i64.wrap (0 - z) > z then IntKind.i64.wrap (0 - z) else z) = (y.natAbs : Int) := fun z y hz hy => by
          subst hz
          exact maxneg (by omega)
        refine ⟨td _ vtop, ?_⟩
        have e5 := mx _ _ (ure _ (vre _ wp)) l6
        have e6 := mx _ _ (uim _ (vim _ wq)) l7
        have e7 := qd _ _ (utop _ vtop) f2
        have e8 := qd _ _ (ubot _ vbot) f3
        have e9 := uden _ (vden _ wn)
        refine ⟨fun h5 => ?_, fun h5 => ?_⟩
        · rw [e5, e7] at h5
          simp only [decide_eq_false_iff_not, quo_gt f2, Classical.not_not] at h5
          refine ⟨td _ vtop, ?_⟩
          refine ⟨fun h6 => ?_, fun h6 => ?_⟩
          · rw [e6, e7] at h6
            simp only [decide_eq_false_iff_not, quo_gt f2, Classical.not_not] at h6
            refine ⟨bd _ vbot, ?_⟩
            refine ⟨fun h7 => ?_, fun h7 => ?_⟩
            · rw [e8, e9] at h7
              simp only [decide_eq_true_eq] at h7
              rw [rng fun h => (quo_gt f3).1 (by rw [show ((fden p q n b.den a.den).natAbs : Int) = fden p q n b.den a.den by omega]; exact h7) h.2.2]; rfl
            · rw [e8, e9] at h7
              simp only [decide_eq_false_iff_not] at h7
              have h7 : fits (fden p q n b.den a.den * fbot p q n b.den a.den) := by
                refine Classical.not_not.1 fun h => h7 ?_
                have := (quo_gt f3).2 h
                rwa [show ((fden p q n b.den a.den).natAbs : Int) = fden p q n b.den a.den by omega] at this
              have k4 := mul_pos' (a := fden p q n b.den a.den) (b := fbot p q n b.den a.den) (by omega) (by omega)
              have h5' := h5
              have h6' := h6
              have h7' := h7
              unfold fits at h5' h6' h7'
              refine ⟨[], resC (make (fre p q n b.den a.den * ftop p q n b.den a.den) (fim p q n b.den a.den * ftop p q n b.den a.den) (fden p q n b.den a.den * fbot p q n b.den a.den)), r_madeE ?_ ?_ ?_ ⟨by omega, by omega⟩ ⟨by omega, by omega⟩ ⟨by omega, by omega⟩ k4, rfl, ?_⟩
              · rw [ure _ (vre _ wp), utop _ vtop, wrap_id (by omega) (by omega)]
              · rw [uim _ (vim _ wq), utop _ vtop, wrap_id (by omega) (by omega)]
              · rw [uden _ (vden _ wn), ubot _ vbot, wrap_id (by omega) (by omega)]
              · show resC (make _ _ _) = resC (div a b)
                rw [hdiv, make, make, hnorm, norm_low k4 (red_low hn hdp hep)]
          · rw [e6, e7] at h6
            simp only [decide_eq_true_eq, quo_gt f2] at h6
            rw [rng fun h => h6 h.2.1]; rfl
        · rw [e5, e7] at h5
          simp only [decide_eq_true_eq, quo_gt f2] at h5
          rw [rng fun h => h5 h.1]; rfl

end Go.Pv
