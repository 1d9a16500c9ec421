/- Contracts of the reference of complex numbers. -/
import Derived.Test.YtljahbpkhienkaaCx
namespace Go.Pv
open Go.Vc
open Go.Proofs
set_option maxRecDepth 10000

theorem maxneg {x : Int} (h : -9223372036854775807 ≤ x ∧ x ≤ 9223372036854775807) : (if IntKind.i64.wrap (0 - x) > x then IntKind.i64.wrap (0 - x) else x) = (x.natAbs : Int) := by
  rw [wrap_id (by omega) (by omega)]
  split <;> omega

theorem r_gcd (a b : Int) (ha : -9223372036854775807 ≤ a ∧ a ≤ 9223372036854775807) (hb : -9223372036854775807 ≤ b ∧ b ≤ 9223372036854775807) : Ret Try.prog 67 [i64 a, i64 b] [] (.p (i64 (Int.gcd a b))) := by
  refine ret (fn := Try.f67) (by kernel_rfl) (by kernel_rfl) rfl ?_
  refine ⟨Nat × Nat, { inv := fun x => Nat.gcd x.1 x.2 = Int.gcd a b ∧ x.1 ≤ 9223372036854775807 ∧ x.2 ≤ 9223372036854775807, slots := [(0, fun x => i64 x.1), (1, fun x => i64 x.2)], mu := fun x => x.2 }, (a.natAbs, b.natAbs), ⟨⟨?_, ?_, trivial⟩, trivial, trivial, rfl, by simp only; omega, by simp only; omega⟩, ?_⟩
  · show PV.v (.int _ _) = _
    rw [maxneg ha]
  · show PV.v (.int _ _) = _
    rw [maxneg hb]
  rintro ⟨x, y⟩ ⟨h1, h2, h3⟩
  simp only at h1 h2 h3
  refine ⟨fun h4 => ?_, fun h4 => ?_⟩
  · have h4 : (y : Int) ≠ 0 := by simpa using h4
    have hlt : x % y < y := Nat.mod_lt _ (by omega)
    refine ⟨h4, (y, x % y), hlt, ⟨rfl, rfl⟩, ⟨rfl, ?_, trivial⟩, trivial, trivial, ?_, h3, by simp only; omega⟩
    · show PV.v (.int _ _) = _
      simp only
      rw [Int.ofNat_tmod]
    · simp only
      rw [← h1, Nat.gcd_comm x y, Nat.gcd_rec y x, Nat.gcd_comm]
  · have h4 : y = 0 := by simp at h4; omega
    subst h4
    show SV.p (.v (.int _ _)) = _
    rw [← h1, Nat.gcd_zero_right]

theorem r_gcdE {a b a' b' : Int} (h1 : a' = a) (h2 : b' = b) (ha : -9223372036854775807 ≤ a ∧ a ≤ 9223372036854775807) (hb : -9223372036854775807 ≤ b ∧ b ≤ 9223372036854775807) : Ret Try.prog 67 [i64 a', i64 b'] [] (.p (i64 (Int.gcd a b))) := by
  subst h1 h2
  exact r_gcd _ _ ha hb

theorem r_check (a : Cx) : Ret Try.prog 53 [cx a] [] (.p (i64 (chk a))) := by
  refine ret (fn := Try.f53) (by kernel_rfl) (by kernel_rfl) rfl ?_
  have bad : ¬ a.valid → SV.p (i64 8) = SV.p (i64 (chk a)) := fun h => by rw [chk, if_neg h]
  have no : ∀ {p : Prop}, (a.valid → p) → ¬ p → ¬ a.valid := fun h h' h'' => h' (h h'')
  have val : a.valid → 1 ≤ a.den ∧ a.den ≤ 1000000000 ∧ (-1000000000 ≤ a.re ∧ a.re ≤ 1000000000) ∧ (-1000000000 ≤ a.im ∧ a.im ≤ 1000000000) ∧ g3 a.re a.im a.den = 1 := id
  refine ⟨fun h1 => ?_, fun h1 => ?_⟩
  · refine ⟨fun h2 => ?_, fun h2 => ?_⟩
    · refine ⟨fun h3 => ?_, fun h3 => ?_⟩
      · refine ⟨fun h4 => ?_, fun h4 => ?_⟩
        · refine ⟨fun h5 => ?_, fun h5 => ?_⟩
          · refine ⟨fun h6 => ?_, fun h6 => ?_⟩
            · simp at h1 h2 h3 h4 h5 h6
              have hg := gcd_le a.re a.im 1000000000 (by omega) (by omega)
              refine ⟨_, r_gcd _ _ (by omega) (by omega), rfl, ?_⟩
              refine ⟨_, r_gcd _ _ (by omega) (by omega), rfl, ?_⟩
              refine ⟨fun h7 => ?_, fun h7 => ?_⟩
              · refine bad (no val ?_)
                intro hv
                have := hv.2.2.2.2
                unfold g3 at this
                simp [this] at h7
              · show SV.p (i64 _) = _
                rw [chk, if_pos]
                refine ⟨by omega, by omega, ⟨by omega, by omega⟩, ⟨by omega, by omega⟩, ?_⟩
                unfold g3
                simp at h7
                omega
            · simp at h6
              exact bad (no val (by omega))
          · simp at h5
            exact bad (no val (by omega))
        · simp at h4
          exact bad (no val (by omega))
      · simp at h3
        exact bad (no val (by omega))
    · simp at h2
      exact bad (no val (by omega))
  · simp at h1
    exact bad (no val (by omega))

theorem chk_ne {a : Cx} : (chk a != 0) = true ↔ ¬ a.valid := by
  unfold chk; by_cases h : a.valid <;> simp [h]

theorem chk_eq {a : Cx} : (chk a != 0) = false ↔ a.valid := by
  unfold chk; by_cases h : a.valid <;> simp [h]

theorem r_both (a b : Cx) : Ret Try.prog 62 [cx a, cx b] [] (.p (i64 (if a.valid ∧ b.valid then 0 else 8))) := by
  refine ret (fn := Try.f62) (by kernel_rfl) (by kernel_rfl) rfl ?_
  refine ⟨[], _, r_check a, rfl, ?_⟩
  refine ⟨fun h1 => ?_, fun h1 => ?_⟩
  · rw [chk_eq] at h1
    refine ⟨[], _, r_check b, rfl, ?_⟩
    refine ⟨fun h2 => ?_, fun h2 => ?_⟩
    · rw [chk_ne] at h2
      rw [if_neg (fun h => h2 h.2)]; rfl
    · rw [chk_eq] at h2
      rw [if_pos ⟨h1, h2⟩]; rfl
  · rw [chk_ne] at h1
    rw [if_neg (fun h => h1 h.1)]; rfl

theorem r_made (x y z : Int) (hx : two18 x) (hy : two18 y) (hz : two18 z) (h0 : 0 < z) : Ret Try.prog 63 [i64 x, i64 y, i64 z] [] (resC (make x y z)) := by
  refine ret (fn := Try.f63) (by kernel_rfl) (by kernel_rfl) rfl ?_
  unfold two18 at hx hy hz
  refine ⟨fun h1 => ?_, fun h1 => ?_⟩
  · simp at h1
    omega
  · have hg := gcd_le x y 2000000000000000000 (by omega) (by omega)
    refine ⟨[], _, r_gcd _ _ (by omega) (by omega), rfl, ?_⟩
    refine ⟨[], _, r_gcd _ _ (by omega) (by omega), rfl, ?_⟩
    refine ⟨fun h2 => ?_, fun h2 => ?_⟩
    · simp at h2
      omega
    · have hp : 0 < g3 x y z := g3_pos (by omega)
      have hne : ((Int.gcd (Int.gcd x y) z : Nat) : Int) ≠ 0 := by unfold g3 at hp; omega
      obtain ⟨d1, d2, d3⟩ := g3_dvd x y z
      have e1 : IntKind.i64.wrap (x.tdiv ((Int.gcd (Int.gcd x y) z : Nat) : Int)) = (norm x y z).re := quo_w hp d1 (by omega)
      have e2 : IntKind.i64.wrap (y.tdiv ((Int.gcd (Int.gcd x y) z : Nat) : Int)) = (norm x y z).im := quo_w hp d2 (by omega)
      have e3 : IntKind.i64.wrap (z.tdiv ((Int.gcd (Int.gcd x y) z : Nat) : Int)) = (norm x y z).den := quo_w hp d3 (by omega)
      refine ⟨hne, hne, hne, ?_⟩
      refine ⟨[], SV.p (i64 (chk (norm x y z))), ?_, rfl, ?_⟩
      · show Ret Try.prog _ [.agg [i64 _, i64 _, i64 _]] [] _
        rw [e1, e2, e3]
        exact r_check _
      refine ⟨fun h3 => ?_, fun h3 => ?_⟩
      · rw [chk_ne] at h3
        rw [make_valid h0, if_neg h3]; rfl
      · rw [chk_eq] at h3
        rw [make_valid h0, if_pos h3]
        show SV.tup [.p (.agg [i64 _, i64 _, i64 _]), _] = _
        rw [e1, e2, e3]

theorem r_madeE {x y z x' y' z' : Int} (h1 : x' = x) (h2 : y' = y) (h3 : z' = z) (hx : two18 x) (hy : two18 y) (hz : two18 z) (h0 : 0 < z) : Ret Try.prog 63 [i64 x', i64 y', i64 z'] [] (resC (make x y z)) := by
  subst h1 h2 h3
  exact r_made _ _ _ hx hy hz h0

theorem both_ne {p : Prop} [Decidable p] : ((if p then (0 : Int) else 8) != 0) = true ↔ ¬ p := by
  by_cases h : p <;> simp [h]

theorem both_eq {p : Prop} [Decidable p] : ((if p then (0 : Int) else 8) != 0) = false ↔ p := by
  by_cases h : p <;> simp [h]

theorem r_mul (a b : Cx) : Ret Try.prog 40 [cx a, cx b] [] (resC (mul a b)) := by
  refine ret (fn := Try.f40) (by kernel_rfl) (by kernel_rfl) rfl ?_
  refine ⟨[], _, r_both a b, rfl, ?_⟩
  refine ⟨fun h1 => ?_, fun h1 => ?_⟩
  · rw [both_ne] at h1
    rw [mul, if_neg h1]; rfl
  · rw [both_eq] at h1
    obtain ⟨a1, a2, a3, a4⟩ := valid_fits h1.1
    obtain ⟨b1, b2, b3, b4⟩ := valid_fits h1.2
    have m1 := mul_bound a1 b1
    have m2 := mul_bound a2 b2
    have m3 := mul_bound a1 b2
    have m4 := mul_bound a2 b1
    have m5 := mul_bound a3 b3
    have m6 := mul_pos' a4 b4
    refine ⟨[], resC (make (a.re * b.re - a.im * b.im) (a.re * b.im + a.im * b.re) (a.den * b.den)), r_madeE ?_ ?_ ?_ ⟨by omega, by omega⟩ ⟨by omega, by omega⟩ ⟨by omega, by omega⟩ m6, rfl, ?_⟩
    · rw [wrap_id (n := a.re * b.re) (by omega) (by omega), wrap_id (n := a.im * b.im) (by omega) (by omega), wrap_id (by omega) (by omega)]
    · rw [wrap_id (n := a.re * b.im) (by omega) (by omega), wrap_id (n := a.im * b.re) (by omega) (by omega), wrap_id (by omega) (by omega)]
    · exact wrap_id (by omega) (by omega)
    · show resC (make _ _ _) = resC (mul a b)
      rw [mul, if_pos h1]

theorem r_add (a b : Cx) : Ret Try.prog 42 [cx a, cx b] [] (resC (add a b)) := by
  refine ret (fn := Try.f42) (by kernel_rfl) (by kernel_rfl) rfl ?_
  refine ⟨[], _, r_both a b, rfl, ?_⟩
  refine ⟨fun h1 => ?_, fun h1 => ?_⟩
  · rw [both_ne] at h1
    rw [add, if_neg h1]; rfl
  · rw [both_eq] at h1
    obtain ⟨a1, a2, a3, a4⟩ := valid_fits h1.1
    obtain ⟨b1, b2, b3, b4⟩ := valid_fits h1.2
    have m1 := mul_bound a1 b3
    have m2 := mul_bound b1 a3
    have m3 := mul_bound a2 b3
    have m4 := mul_bound b2 a3
    have m5 := mul_bound a3 b3
    have m6 := mul_pos' a4 b4
    refine ⟨[], resC (make (a.re * b.den + b.re * a.den) (a.im * b.den + b.im * a.den) (a.den * b.den)), r_madeE ?_ ?_ ?_ ⟨by omega, by omega⟩ ⟨by omega, by omega⟩ ⟨by omega, by omega⟩ m6, rfl, ?_⟩
    · rw [wrap_id (n := a.re * b.den) (by omega) (by omega), wrap_id (n := b.re * a.den) (by omega) (by omega), wrap_id (by omega) (by omega)]
    · rw [wrap_id (n := a.im * b.den) (by omega) (by omega), wrap_id (n := b.im * a.den) (by omega) (by omega), wrap_id (by omega) (by omega)]
    · exact wrap_id (by omega) (by omega)
    · show resC (make _ _ _) = resC (add a b)
      rw [add, if_pos h1]

theorem r_neg (a : Cx) (ha : a.valid) : Ret Try.prog 46 [cx a] [] (.p (cx (neg a))) := by
  refine ret (fn := Try.f46) (by kernel_rfl) (by kernel_rfl) rfl ?_
  obtain ⟨a1, a2, a3, a4⟩ := valid_fits ha
  unfold fits at a1 a2
  show SV.p (.agg [i64 _, i64 _, i64 _]) = SV.p (.agg [i64 (-a.re), i64 (-a.im), i64 _])
  rw [wrap_id (by omega) (by omega), wrap_id (by omega) (by omega), Int.zero_sub, Int.zero_sub]
  rfl

theorem g3_neg (x y z : Int) : g3 (-x) (-y) z = g3 x y z := by
  unfold g3
  rw [Int.neg_gcd, Int.gcd_neg]

theorem g3_negR (x y z : Int) : g3 x (-y) z = g3 x y z := by
  unfold g3
  rw [Int.gcd_neg]

theorem neg_valid {a : Cx} (ha : a.valid) : (neg a).valid := by
  obtain ⟨h1, h2, h3, h4, h5⟩ := ha
  unfold fits at h3 h4
  refine ⟨h1, h2, ?_, ?_, ?_⟩
  · show fits (-a.re); unfold fits; omega
  · show fits (-a.im); unfold fits; omega
  · show g3 (-a.re) (-a.im) a.den = 1
    rw [g3_neg]; exact h5

theorem r_sub (a b : Cx) : Ret Try.prog 41 [cx a, cx b] [] (resC (sub a b)) := by
  refine ret (fn := Try.f41) (by kernel_rfl) (by kernel_rfl) rfl ?_
  refine ⟨[], _, r_both a b, rfl, ?_⟩
  refine ⟨fun h1 => ?_, fun h1 => ?_⟩
  · rw [both_ne] at h1
    rw [sub, if_neg h1]; rfl
  · rw [both_eq] at h1
    refine ⟨_, r_neg b h1.2, rfl, ?_⟩
    refine ⟨_, r_add a (neg b), rfl, ?_⟩
    show resC (add a (neg b)) = resC (sub a b)
    have hv : a.valid ∧ (neg b).valid := ⟨h1.1, neg_valid h1.2⟩
    rw [add, if_pos hv, sub, if_pos h1]
    show resC (make (_ + -b.re * _) (_ + -b.im * _) _) = _
    rw [Int.neg_mul, Int.neg_mul, ← Int.sub_eq_add_neg, ← Int.sub_eq_add_neg]
    rfl

theorem r_zero (a : Cx) : Ret Try.prog 26 [cx a] [] (.p (bl (decide a.zero))) := by
  refine ret (fn := Try.f26) (by kernel_rfl) (by kernel_rfl) rfl ?_
  refine ⟨fun h => ?_, fun h => ?_⟩
  · show SV.p (.v (.bool _)) = _
    simp at h
    congr 3
    rw [Bool.eq_iff_iff]
    simp [Cx.zero, h]
  · show SV.p (.v (.bool _)) = _
    simp at h
    have : ¬ a.zero := fun h' => h h'.1
    simp [this]

theorem r_apart (a : Cx) (ha : a.valid) : Ret Try.prog 61 [cx a] [] (.p (cx (conj a))) := by
  refine ret (fn := Try.f61) (by kernel_rfl) (by kernel_rfl) rfl ?_
  obtain ⟨a1, a2, a3, a4⟩ := valid_fits ha
  unfold fits at a2
  show SV.p (.agg [i64 _, i64 _, i64 _]) = SV.p (.agg [i64 a.re, i64 (-a.im), i64 _])
  rw [wrap_id (by omega) (by omega), Int.zero_sub]
  rfl

end Go.Pv
