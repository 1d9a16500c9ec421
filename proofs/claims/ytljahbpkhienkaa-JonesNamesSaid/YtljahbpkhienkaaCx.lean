/- Contracts of complex numbers. -/
import Derived.Test.YtljahbpkhienkaaT
import Derived.Test.YtljahbpkhienkaaPlCxm
namespace Go.Pv
open Go.Vc
open Go.Proofs
set_option maxRecDepth 10000

theorem c_fits (x : Int) : Ret Try.prog 66 [i64 x] [] (.p (bl (decide (fits x)))) := by
  refine ret (fn := Try.f66) (by kernel_rfl) (by kernel_rfl) rfl ?_
  refine ⟨fun h => ?_, fun h => ?_⟩
  · show SV.p (.v (.bool _)) = _
    simp at h
    simp [fits, h]
  · show SV.p (.v (.bool _)) = _
    simp at h
    have : ¬ fits x := by unfold fits; omega
    simp [this]

theorem c_gcd (a b : Int) (ha : -9223372036854775807 ≤ a ∧ a ≤ 9223372036854775807) (hb : -9223372036854775807 ≤ b ∧ b ≤ 9223372036854775807) : Ret Try.prog 65 [i64 a, i64 b] [] (.p (i64 (Int.gcd a b))) := by
  refine ret (fn := Try.f65) (by kernel_rfl) (by kernel_rfl) rfl ?_
  refine ⟨Int × Int, { inv := fun x => Int.gcd x.1 x.2 = Int.gcd a b ∧ (-9223372036854775807 ≤ x.1 ∧ x.1 ≤ 9223372036854775807) ∧ (-9223372036854775807 ≤ x.2 ∧ x.2 ≤ 9223372036854775807), slots := [(0, fun x => i64 x.1), (1, fun x => i64 x.2)], mu := fun x => x.2.natAbs }, (a, b), ⟨⟨rfl, rfl, trivial⟩, trivial, trivial, rfl, ha, hb⟩, ?_⟩
  rintro ⟨x, y⟩ ⟨h1, h2, h3⟩
  simp only at h1 h2 h3
  refine ⟨fun h4 => ?_, fun h4 => ?_⟩
  · have h4 : y ≠ 0 := by simpa using h4
    have hlt : (x.tmod y).natAbs < y.natAbs := by rw [Int.natAbs_tmod]; exact Nat.mod_lt _ (by omega)
    refine ⟨h4, (y, x.tmod y), hlt, ⟨rfl, rfl⟩, ⟨rfl, rfl, trivial⟩, trivial, trivial, ?_, h3, by simp only; omega⟩
    simp only
    rw [gcd_step, h1]
  · have h4 : y = 0 := by simpa using h4
    subst h4
    show SV.p (.v (.int _ _)) = _
    rw [wrap_id (by omega) (by omega), ← h1]
    simp only [Int.gcd_zero_right]
    congr 3
    omega

theorem gcd_le (a b : Int) (m : Nat) (ha : a.natAbs ≤ m) (hb : b.natAbs ≤ m) : Int.gcd a b ≤ m := by
  unfold Int.gcd
  by_cases h : a.natAbs = 0
  · rw [h, Nat.gcd_zero_left]; exact hb
  · exact Nat.le_trans (Nat.gcd_le_left _ (by omega)) ha

theorem c_check (a : Cx) (ha : Enc.ok a) : Ret Try.prog 60 [cx a] [] (.p (i64 (chk a))) := by
  refine ret (fn := Try.f60) (by kernel_rfl) (by kernel_rfl) rfl ?_
  have bad : ¬ a.valid → SV.p (i64 8) = SV.p (i64 (chk a)) := fun h => by rw [chk, if_neg h]
  refine ⟨fun h1 => ?_, fun h1 => ?_⟩
  · refine ⟨fun h2 => ?_, fun h2 => ?_⟩
    · refine ⟨_, c_fits _, rfl, ?_⟩
      refine ⟨fun h3 => ?_, fun h3 => ?_⟩
      · refine ⟨_, c_fits _, rfl, ?_⟩
        refine ⟨fun h4 => ?_, fun h4 => ?_⟩
        · simp at h1 h2 h3 h4
          unfold fits at h3 h4
          have hg := gcd_le a.re a.im 1000000000 (by omega) (by omega)
          refine ⟨_, c_gcd _ _ (by omega) (by omega), rfl, ?_⟩
          refine ⟨_, c_gcd _ _ (by omega) (by omega), rfl, ?_⟩
          refine ⟨fun h5 => ?_, fun h5 => ?_⟩
          · refine bad fun hv => ?_
            have := hv.2.2.2.2
            unfold g3 at this
            simp [this] at h5
          · show SV.p (i64 _) = _
            rw [chk, if_pos]
            refine ⟨by omega, by omega, ?_, ?_, ?_⟩
            · unfold fits; omega
            · unfold fits; omega
            · unfold g3
              simp at h5
              omega
        · refine bad fun hv => ?_
          have := hv.2.2.2.1
          simp [this] at h4
      · refine bad fun hv => ?_
        have := hv.2.2.1
        simp [this] at h3
    · refine bad fun hv => ?_
      have := hv.2.1
      simp at h2
      omega
  · refine bad fun hv => ?_
    have := hv.1
    simp at h1
    omega

theorem c_checkBoth (a b : Cx) (ha : Enc.ok a) (hb : Enc.ok b) : Ret Try.prog 54 [cx a, cx b] [] (.p (i64 (if a.valid ∧ b.valid then 0 else 8))) := by
  refine ret (fn := Try.f54) (by kernel_rfl) (by kernel_rfl) rfl ?_
  refine ⟨[], _, c_check a ha, rfl, ?_⟩
  refine ⟨fun h1 => ?_, fun h1 => ?_⟩
  · show SV.p (i64 (chk a)) = _
    unfold chk at h1 ⊢
    by_cases h : a.valid
    · simp [h] at h1
    · simp [h]
  · refine ⟨[], _, c_check b hb, rfl, ?_⟩
    show SV.p (i64 (chk b)) = _
    unfold chk at h1 ⊢
    by_cases h : a.valid
    · simp [h]
    · simp [h] at h1

def two18 (x : Int) : Prop := -2000000000000000000 ≤ x ∧ x ≤ 2000000000000000000

theorem c_make (x y z : Int) (hx : two18 x) (hy : two18 y) (hz : two18 z) (h0 : 0 < z) : Ret Try.prog 55 [i64 x, i64 y, i64 z] [] (resC (make x y z)) := by
  refine ret (fn := Try.f55) (by kernel_rfl) (by kernel_rfl) rfl ?_
  unfold two18 at hx hy hz
  refine ⟨Nat, { inv := fun k => k ≤ 3, slots := [(16, fun k => i64 k)], mu := fun k => 3 - k }, 0, ⟨⟨rfl, trivial⟩, trivial, ⟨rfl, trivial⟩, Nat.zero_le _⟩, ?_⟩
  intro k hk
  refine ⟨fun h1 => ?_, fun h1 => ?_⟩
  · simp at h1
    have hel : ∃ e : Int, (([i64 x, i64 y, i64 z] : List PV).drop (k * 1)).take 1 = [i64 e] ∧ two18 e := by
      match k, h1 with
      | 0, _ => exact ⟨x, rfl, hx⟩
      | 1, _ => exact ⟨y, rfl, hy⟩
      | 2, _ => exact ⟨z, rfl, hz⟩
      | k + 3, h => omega
    obtain ⟨e, he, hb⟩ := hel
    unfold two18 at hb
    refine ⟨k, rfl, by omega, [i64 e], he, rfl, ?_⟩
    refine ⟨fun h2 => ?_, fun h2 => ?_⟩
    · simp at h2
      refine ⟨fun h3 => ?_, fun h3 => ?_⟩
      · simp at h3
        omega
      · refine ⟨k + 1, by show _ < _; simp; omega, ⟨rfl, rfl⟩, ⟨?_, trivial⟩, trivial, ⟨rfl, trivial⟩, by show k + 1 ≤ 3; omega⟩
        show PV.v (.int _ _) = _
        rw [succ_w (by omega)]
    · simp at h2
      omega
  · refine ⟨fun h2 => ?_, fun h2 => ?_⟩
    · simp at h2
      omega
    · have hg := gcd_le x y 2000000000000000000 (by omega) (by omega)
      refine ⟨[], _, c_gcd _ _ (by omega) (by omega), rfl, ?_⟩
      refine ⟨[], _, c_gcd _ _ (by omega) (by omega), rfl, ?_⟩
      refine ⟨fun h3 => ?_, fun h3 => ?_⟩
      · simp at h3
        omega
      · have hp : 0 < g3 x y z := g3_pos (by omega)
        have hne : ((Int.gcd (Int.gcd x y) z : Nat) : Int) ≠ 0 := by unfold g3 at hp; omega
        obtain ⟨d1, d2, d3⟩ := g3_dvd x y z
        have q : ∀ u : Int, two18 u → ((g3 x y z : Nat) : Int) ∣ u → IntKind.i64.wrap (u.tdiv ((Int.gcd (Int.gcd x y) z : Nat) : Int)) = u / (g3 x y z : Nat) := by
          intro u hu hd
          have e : u.tdiv ((Int.gcd (Int.gcd x y) z : Nat) : Int) = u / (g3 x y z : Nat) := tdiv_g hd (by omega)
          rw [e]
          obtain ⟨c, rfl⟩ := hd
          rw [Int.mul_ediv_cancel_left _ (by omega)]
          unfold two18 at hu
          have hle : c.natAbs ≤ (((g3 x y z : Nat) : Int) * c).natAbs := by
            rw [Int.natAbs_mul]
            exact Nat.le_mul_of_pos_left _ (by omega)
          exact wrap_id (by omega) (by omega)
        refine ⟨hne, hne, hne, ?_⟩
        refine ⟨[], _, c_fits _, rfl, ?_⟩
        have e1 := q x hx d1
        have e2 := q y hy d2
        have e3 := q z hz d3
        have ok : make x y z = if fits (IntKind.i64.wrap (x.tdiv ((Int.gcd (Int.gcd x y) z : Nat) : Int))) ∧ fits (IntKind.i64.wrap (y.tdiv ((Int.gcd (Int.gcd x y) z : Nat) : Int))) ∧ fits (IntKind.i64.wrap (z.tdiv ((Int.gcd (Int.gcd x y) z : Nat) : Int))) then (⟨IntKind.i64.wrap (x.tdiv ((Int.gcd (Int.gcd x y) z : Nat) : Int)), IntKind.i64.wrap (y.tdiv ((Int.gcd (Int.gcd x y) z : Nat) : Int)), IntKind.i64.wrap (z.tdiv ((Int.gcd (Int.gcd x y) z : Nat) : Int))⟩, 0) else (c0, 16) := by
          rw [e1, e2, e3]; rfl
        refine ⟨fun h4 => ?_, fun h4 => ?_⟩
        · refine ⟨[], _, c_fits _, rfl, ?_⟩
          refine ⟨fun h5 => ?_, fun h5 => ?_⟩
          · refine ⟨[], _, c_fits _, rfl, ?_⟩
            refine ⟨fun h6 => ?_, fun h6 => ?_⟩
            · simp at h6
              rw [ok, if_neg (by simp [h6])]; rfl
            · simp at h4 h5 h6
              rw [ok, if_pos ⟨h4, h5, h6⟩]; rfl
          · simp at h5
            rw [ok, if_neg (by simp [h5])]; rfl
        · simp at h4
          rw [ok, if_neg (by simp [h4])]; rfl

theorem ok_valid {a : Cx} (h : a.valid) : Enc.ok a := by
  obtain ⟨h1, h2, h3, h4, _⟩ := h
  unfold fits at h3 h4
  exact ⟨⟨by omega, by omega⟩, ⟨by omega, by omega⟩, ⟨by omega, by omega⟩⟩

theorem c_mul (a b : Cx) (ha : Enc.ok a) (hb : Enc.ok b) : Ret Try.prog 25 [cx a, cx b] [] (resC (mul a b)) := by
  refine ret (fn := Try.f25) (by kernel_rfl) (by kernel_rfl) rfl ?_
  refine ⟨[], _, c_checkBoth a b ha hb, rfl, ?_⟩
  refine ⟨fun h1 => ?_, fun h1 => ?_⟩
  · have hv : ¬ (a.valid ∧ b.valid) := by intro h; rw [if_pos h] at h1; simp at h1
    rw [mul, if_neg hv, if_neg hv]; rfl
  · have hv : a.valid ∧ b.valid := by
      by_cases h : a.valid ∧ b.valid
      · exact h
      · rw [if_neg h] at h1; simp at h1
    obtain ⟨a1, a2, a3, a4⟩ := valid_fits hv.1
    obtain ⟨b1, b2, b3, b4⟩ := valid_fits hv.2
    have m1 := mul_bound a1 b1
    have m2 := mul_bound a2 b2
    have m3 := mul_bound a1 b2
    have m4 := mul_bound a2 b1
    have m5 := mul_bound a3 b3
    have m6 := mul_pos' a4 b4
    have w1 : IntKind.i64.wrap (IntKind.i64.wrap (a.re * b.re) - IntKind.i64.wrap (a.im * b.im)) = a.re * b.re - a.im * b.im := by rw [wrap_id (n := a.re * b.re) (by omega) (by omega), wrap_id (n := a.im * b.im) (by omega) (by omega), wrap_id (by omega) (by omega)]
    have w2 : IntKind.i64.wrap (IntKind.i64.wrap (a.re * b.im) + IntKind.i64.wrap (a.im * b.re)) = a.re * b.im + a.im * b.re := by rw [wrap_id (n := a.re * b.im) (by omega) (by omega), wrap_id (n := a.im * b.re) (by omega) (by omega), wrap_id (by omega) (by omega)]
    have w3 : IntKind.i64.wrap (a.den * b.den) = a.den * b.den := wrap_id (by omega) (by omega)
    refine ⟨[], resC (make (a.re * b.re - a.im * b.im) (a.re * b.im + a.im * b.re) (a.den * b.den)), ?_, rfl, ?_⟩
    · show Ret Try.prog 55 [i64 _, i64 _, i64 _] [] _
      rw [w1, w2, w3]
      exact c_make _ _ _ ⟨by omega, by omega⟩ ⟨by omega, by omega⟩ ⟨by omega, by omega⟩ m6
    · show resC (make _ _ _) = resC (mul a b)
      rw [mul, if_pos hv]

theorem c_add (a b : Cx) (ha : Enc.ok a) (hb : Enc.ok b) : Ret Try.prog 35 [cx a, cx b] [] (resC (add a b)) := by
  refine ret (fn := Try.f35) (by kernel_rfl) (by kernel_rfl) rfl ?_
  refine ⟨[], _, c_checkBoth a b ha hb, rfl, ?_⟩
  refine ⟨fun h1 => ?_, fun h1 => ?_⟩
  · have hv : ¬ (a.valid ∧ b.valid) := by intro h; rw [if_pos h] at h1; simp at h1
    rw [add, if_neg hv, if_neg hv]; rfl
  · have hv : a.valid ∧ b.valid := by
      by_cases h : a.valid ∧ b.valid
      · exact h
      · rw [if_neg h] at h1; simp at h1
    obtain ⟨a1, a2, a3, a4⟩ := valid_fits hv.1
    obtain ⟨b1, b2, b3, b4⟩ := valid_fits hv.2
    have m1 := mul_bound a1 b3
    have m2 := mul_bound b1 a3
    have m3 := mul_bound a2 b3
    have m4 := mul_bound b2 a3
    have m5 := mul_bound a3 b3
    have m6 := mul_pos' a4 b4
    have w1 : IntKind.i64.wrap (IntKind.i64.wrap (a.re * b.den) + IntKind.i64.wrap (b.re * a.den)) = a.re * b.den + b.re * a.den := by rw [wrap_id (n := a.re * b.den) (by omega) (by omega), wrap_id (n := b.re * a.den) (by omega) (by omega), wrap_id (by omega) (by omega)]
    have w2 : IntKind.i64.wrap (IntKind.i64.wrap (a.im * b.den) + IntKind.i64.wrap (b.im * a.den)) = a.im * b.den + b.im * a.den := by rw [wrap_id (n := a.im * b.den) (by omega) (by omega), wrap_id (n := b.im * a.den) (by omega) (by omega), wrap_id (by omega) (by omega)]
    have w3 : IntKind.i64.wrap (a.den * b.den) = a.den * b.den := wrap_id (by omega) (by omega)
    refine ⟨[], resC (make (a.re * b.den + b.re * a.den) (a.im * b.den + b.im * a.den) (a.den * b.den)), ?_, rfl, ?_⟩
    · show Ret Try.prog 55 [i64 _, i64 _, i64 _] [] _
      rw [w1, w2, w3]
      exact c_make _ _ _ ⟨by omega, by omega⟩ ⟨by omega, by omega⟩ ⟨by omega, by omega⟩ m6
    · show resC (make _ _ _) = resC (add a b)
      rw [add, if_pos hv]

theorem c_sub (a b : Cx) (ha : Enc.ok a) (hb : Enc.ok b) : Ret Try.prog 39 [cx a, cx b] [] (resC (sub a b)) := by
  refine ret (fn := Try.f39) (by kernel_rfl) (by kernel_rfl) rfl ?_
  refine ⟨[], _, c_checkBoth a b ha hb, rfl, ?_⟩
  refine ⟨fun h1 => ?_, fun h1 => ?_⟩
  · have hv : ¬ (a.valid ∧ b.valid) := by intro h; rw [if_pos h] at h1; simp at h1
    rw [sub, if_neg hv, if_neg hv]; rfl
  · have hv : a.valid ∧ b.valid := by
      by_cases h : a.valid ∧ b.valid
      · exact h
      · rw [if_neg h] at h1; simp at h1
    obtain ⟨a1, a2, a3, a4⟩ := valid_fits hv.1
    obtain ⟨b1, b2, b3, b4⟩ := valid_fits hv.2
    have m1 := mul_bound a1 b3
    have m2 := mul_bound b1 a3
    have m3 := mul_bound a2 b3
    have m4 := mul_bound b2 a3
    have m5 := mul_bound a3 b3
    have m6 := mul_pos' a4 b4
    have w1 : IntKind.i64.wrap (IntKind.i64.wrap (a.re * b.den) - IntKind.i64.wrap (b.re * a.den)) = a.re * b.den - b.re * a.den := by rw [wrap_id (n := a.re * b.den) (by omega) (by omega), wrap_id (n := b.re * a.den) (by omega) (by omega), wrap_id (by omega) (by omega)]
    have w2 : IntKind.i64.wrap (IntKind.i64.wrap (a.im * b.den) - IntKind.i64.wrap (b.im * a.den)) = a.im * b.den - b.im * a.den := by rw [wrap_id (n := a.im * b.den) (by omega) (by omega), wrap_id (n := b.im * a.den) (by omega) (by omega), wrap_id (by omega) (by omega)]
    have w3 : IntKind.i64.wrap (a.den * b.den) = a.den * b.den := wrap_id (by omega) (by omega)
    refine ⟨[], resC (make (a.re * b.den - b.re * a.den) (a.im * b.den - b.im * a.den) (a.den * b.den)), ?_, rfl, ?_⟩
    · show Ret Try.prog 55 [i64 _, i64 _, i64 _] [] _
      rw [w1, w2, w3]
      exact c_make _ _ _ ⟨by omega, by omega⟩ ⟨by omega, by omega⟩ ⟨by omega, by omega⟩ m6
    · show resC (make _ _ _) = resC (sub a b)
      rw [sub, if_pos hv]

theorem c_conj (a : Cx) (ha : Enc.ok a) : Ret Try.prog 37 [cx a] [] (resC (if a.valid then (conj a, 0) else (c0, 8))) := by
  refine ret (fn := Try.f37) (by kernel_rfl) (by kernel_rfl) rfl ?_
  refine ⟨[], _, c_check a ha, rfl, ?_⟩
  refine ⟨fun h1 => ?_, fun h1 => ?_⟩
  · have hv : ¬ a.valid := by intro h; unfold chk at h1; rw [if_pos h] at h1; simp at h1
    rw [chk, if_neg hv, if_neg hv]; rfl
  · have hv : a.valid := by
      by_cases h : a.valid
      · exact h
      · unfold chk at h1; rw [if_neg h] at h1; simp at h1
    obtain ⟨_, a2, _, _⟩ := valid_fits hv
    unfold fits at a2
    rw [if_pos hv]
    show SV.tup [.p (.agg [_, .v (.int _ _), _]), _] = SV.tup [.p (.agg [_, i64 (-a.im), _]), _]
    rw [wrap_id (by omega) (by omega), show 0 - a.im = -a.im by omega]
    rfl

theorem c_isZero (a : Cx) : Ret Try.prog 64 [cx a] [] (.p (bl (decide a.zero))) := by
  refine ret (fn := Try.f64) (by kernel_rfl) (by kernel_rfl) rfl ?_
  refine ⟨fun h => ?_, fun h => ?_⟩
  · show SV.p (.v (.bool _)) = _
    simp at h
    congr 3
    rw [Bool.eq_iff_iff]
    simp [Cx.zero, h]
  · show SV.p (.v (.bool _)) = _
    simp at h
    have : ¬ a.zero := fun h' => h h'.1
    simp [this]

theorem c_gcdE {a b a' b' : Int} (h1 : a' = a) (h2 : b' = b) (ha : -9223372036854775807 ≤ a ∧ a ≤ 9223372036854775807) (hb : -9223372036854775807 ≤ b ∧ b ≤ 9223372036854775807) : Ret Try.prog 65 [i64 a', i64 b'] [] (.p (i64 (Int.gcd a b))) := by
  subst h1 h2
  exact c_gcd _ _ ha hb

theorem c_fitsE {x x' : Int} (h : x' = x) : Ret Try.prog 66 [i64 x'] [] (.p (bl (decide (fits x)))) := by
  subst h
  exact c_fits _

theorem c_makeE {x y z x' y' z' : Int} (h1 : x' = x) (h2 : y' = y) (h3 : z' = z) (hx : two18 x) (hy : two18 y) (hz : two18 z) (h0 : 0 < z) : Ret Try.prog 55 [i64 x', i64 y', i64 z'] [] (resC (make x y z)) := by
  subst h1 h2 h3
  exact c_make _ _ _ hx hy hz h0

set_option maxHeartbeats 1000000 in
theorem c_div (a b : Cx) (ha : Enc.ok a) (hb : Enc.ok b) : Ret Try.prog 45 [cx a, cx b] [] (resC (div a b)) := by
  refine ret (fn := Try.f45) (by kernel_rfl) (by kernel_rfl) rfl ?_
  refine ⟨[], _, c_checkBoth a b ha hb, rfl, ?_⟩
  refine ⟨fun h1 => ?_, fun h1 => ?_⟩
  · have hv : ¬ (a.valid ∧ b.valid) := by intro h; rw [if_pos h] at h1; simp at h1
    rw [div, if_neg hv, if_neg hv]; rfl
  · have hv : a.valid ∧ b.valid := by
      by_cases h : a.valid ∧ b.valid
      · exact h
      · rw [if_neg h] at h1; simp at h1
    refine ⟨[], _, c_isZero b, rfl, ?_⟩
    refine ⟨fun h2 => ?_, fun h2 => ?_⟩
    · simp at h2
      rw [div, if_pos hv, if_pos h2]; rfl
    · simp at h2
      obtain ⟨a1, a2, a3, a4⟩ := valid_fits hv.1
      obtain ⟨b1, b2, b3, b4⟩ := valid_fits hv.2
      have m1 := mul_bound a1 b1
      have m2 := mul_bound a2 b2
      have m3 := mul_bound a2 b1
      have m4 := mul_bound a1 b2
      have m5 := mul_bound b1 b1
      have m6 := mul_bound b2 b2
      have hdiv : div a b = make ((a.re * b.re + a.im * b.im) * b.den) ((a.im * b.re - a.re * b.im) * b.den) ((b.re * b.re + b.im * b.im) * a.den) := by rw [div, if_pos hv, if_neg h2]
      have hn : 0 < b.re * b.re + b.im * b.im := by
        have s1 : 0 ≤ b.re * b.re := by rw [← Int.natAbs_mul_self]; omega
        have s2 : 0 ≤ b.im * b.im := by rw [← Int.natAbs_mul_self]; omega
        rcases Int.lt_trichotomy (b.re * b.re + b.im * b.im) 0 with h | h | h
        · omega
        · have t1 : b.re * b.re = 0 := by omega
          have t2 : b.im * b.im = 0 := by omega
          exact absurd ⟨by rcases Int.mul_eq_zero.1 t1 with h | h <;> exact h, by rcases Int.mul_eq_zero.1 t2 with h | h <;> exact h⟩ h2
        · exact h
      have wp : IntKind.i64.wrap (IntKind.i64.wrap (a.re * b.re) + IntKind.i64.wrap (a.im * b.im)) = a.re * b.re + a.im * b.im := by rw [wrap_id (n := a.re * b.re) (by omega) (by omega), wrap_id (n := a.im * b.im) (by omega) (by omega), wrap_id (by omega) (by omega)]
      have wq : IntKind.i64.wrap (IntKind.i64.wrap (a.im * b.re) - IntKind.i64.wrap (a.re * b.im)) = a.im * b.re - a.re * b.im := by rw [wrap_id (n := a.im * b.re) (by omega) (by omega), wrap_id (n := a.re * b.im) (by omega) (by omega), wrap_id (by omega) (by omega)]
      have wn : IntKind.i64.wrap (IntKind.i64.wrap (b.re * b.re) + IntKind.i64.wrap (b.im * b.im)) = b.re * b.re + b.im * b.im := by rw [wrap_id (n := b.re * b.re) (by omega) (by omega), wrap_id (n := b.im * b.im) (by omega) (by omega), wrap_id (by omega) (by omega)]
      have hpb : -2000000000000000000 ≤ a.re * b.re + a.im * b.im ∧ a.re * b.re + a.im * b.im ≤ 2000000000000000000 := by omega
      have hqb : -2000000000000000000 ≤ a.im * b.re - a.re * b.im ∧ a.im * b.re - a.re * b.im ≤ 2000000000000000000 := by omega
      have hnb : b.re * b.re + b.im * b.im ≤ 2000000000000000000 := by omega
      clear m1 m2 m3 m4 m5 m6
      generalize hpe : a.re * b.re + a.im * b.im = p at *
      generalize hqe : a.im * b.re - a.re * b.im = q at *
      generalize hne : b.re * b.re + b.im * b.im = n at *
      have hdp : 0 < b.den := by omega
      have hep : 0 < a.den := by omega
      unfold fits at a3 b3
      obtain ⟨h1', h2', h3', h4', c1, c2, c3, f1, f2, f3, x1, x2, x3, y1, y2, d1, d2, d3, e1, e2⟩ := red_facts (p := p) (q := q) (n := n) (d := b.den) (e := a.den) hn hdp hep
      have hg1 := gcd_le p q 2000000000000000000 (by omega) (by omega)
      refine ⟨[], _, c_gcdE (a := p) (b := q) wp wq (by omega) (by omega), rfl, ?_⟩
      refine ⟨[], _, c_gcdE (a := ((Int.gcd p q : Nat) : Int)) (b := n) rfl wn (by omega) (by omega), rfl, ?_⟩
      have n1 : ((Int.gcd ((Int.gcd p q : Nat) : Int) n : Nat) : Int) ≠ 0 := by have : rg1 p q n = Int.gcd ((Int.gcd p q : Nat) : Int) n := rfl; omega
      have vre : ∀ z, z = p → IntKind.i64.wrap (z.tdiv ((Int.gcd ((Int.gcd p q : Nat) : Int) n : Nat) : Int)) = rre p q n := fun z hz => by subst hz; exact quo_w h1' x1 (by omega)
      have vim : ∀ z, z = q → IntKind.i64.wrap (z.tdiv ((Int.gcd ((Int.gcd p q : Nat) : Int) n : Nat) : Int)) = rim p q n := fun z hz => by subst hz; exact quo_w h1' x2 (by omega)
      have vden : ∀ z, z = n → IntKind.i64.wrap (z.tdiv ((Int.gcd ((Int.gcd p q : Nat) : Int) n : Nat) : Int)) = rden p q n := fun z hz => by subst hz; exact quo_w h1' x3 (by omega)
      have l1 : (rre p q n).natAbs ≤ 2000000000000000000 := Nat.le_trans (ediv_le h1' x1) (by omega)
      have l2 : (rim p q n).natAbs ≤ 2000000000000000000 := Nat.le_trans (ediv_le h1' x2) (by omega)
      have l3 : (rden p q n).natAbs ≤ 2000000000000000000 := Nat.le_trans (ediv_le h1' x3) (by omega)
      have l4 : (rtop b.den a.den).natAbs ≤ 1000000000 := Nat.le_trans (ediv_le h2' y1) (by omega)
      have l5 : (rbot b.den a.den).natAbs ≤ 1000000000 := Nat.le_trans (ediv_le h2' y2) (by omega)
      have l6 : (fre p q n b.den a.den).natAbs ≤ 2000000000000000000 := Nat.le_trans (ediv_le h3' d1) l1
      have l7 : (fim p q n b.den a.den).natAbs ≤ 2000000000000000000 := Nat.le_trans (ediv_le h3' d2) l2
      have l8 : (fbot p q n b.den a.den).natAbs ≤ 1000000000 := Nat.le_trans (ediv_le h3' d3) l5
      have l9 : (ftop p q n b.den a.den).natAbs ≤ 1000000000 := Nat.le_trans (ediv_le h4' e1) l4
      have l10 : (fden p q n b.den a.den).natAbs ≤ 2000000000000000000 := Nat.le_trans (ediv_le h4' e2) l3
      refine ⟨n1, n1, n1, ?_⟩
      refine ⟨[], _, c_gcd b.den a.den (by omega) (by omega), rfl, ?_⟩
      have n2 : ((Int.gcd b.den a.den : Nat) : Int) ≠ 0 := by have : rg2 b.den a.den = Int.gcd b.den a.den := rfl; omega
      have vtop : IntKind.i64.wrap (b.den.tdiv ((Int.gcd b.den a.den : Nat) : Int)) = rtop b.den a.den := quo_w h2' y1 (by omega)
      have vbot : IntKind.i64.wrap (a.den.tdiv ((Int.gcd b.den a.den : Nat) : Int)) = rbot b.den a.den := quo_w h2' y2 (by omega)
      refine ⟨n2, n2, ?_⟩
      have hg3 := gcd_le (rre p q n) (rim p q n) 2000000000000000000 l1 l2
      refine ⟨[], _, c_gcdE (a := rre p q n) (b := rim p q n) (vre _ wp) (vim _ wq) (by omega) (by omega), rfl, ?_⟩
      refine ⟨[], _, c_gcdE (a := ((Int.gcd (rre p q n) (rim p q n) : Nat) : Int)) (b := rbot b.den a.den) rfl vbot (by omega) (by omega), rfl, ?_⟩
      have n3 : ((Int.gcd ((Int.gcd (rre p q n) (rim p q n) : Nat) : Int) (rbot b.den a.den) : Nat) : Int) ≠ 0 := by have : rg3 p q n b.den a.den = Int.gcd ((Int.gcd (rre p q n) (rim p q n) : Nat) : Int) (rbot b.den a.den) := rfl; omega
      have ure : ∀ z, z = rre p q n → IntKind.i64.wrap (z.tdiv ((Int.gcd ((Int.gcd (rre p q n) (rim p q n) : Nat) : Int) (rbot b.den a.den) : Nat) : Int)) = fre p q n b.den a.den := fun z hz => by subst hz; exact quo_w h3' d1 (by omega)
      have uim : ∀ z, z = rim p q n → IntKind.i64.wrap (z.tdiv ((Int.gcd ((Int.gcd (rre p q n) (rim p q n) : Nat) : Int) (rbot b.den a.den) : Nat) : Int)) = fim p q n b.den a.den := fun z hz => by subst hz; exact quo_w h3' d2 (by omega)
      have ubot : ∀ z, z = rbot b.den a.den → IntKind.i64.wrap (z.tdiv ((Int.gcd ((Int.gcd (rre p q n) (rim p q n) : Nat) : Int) (rbot b.den a.den) : Nat) : Int)) = fbot p q n b.den a.den := fun z hz => by subst hz; exact quo_w h3' d3 (by omega)
      refine ⟨n3, n3, n3, ?_⟩
      refine ⟨[], _, c_gcdE (a := rtop b.den a.den) (b := rden p q n) vtop (vden _ wn) (by omega) (by omega), rfl, ?_⟩
      have n4 : ((Int.gcd (rtop b.den a.den) (rden p q n) : Nat) : Int) ≠ 0 := by have : rg4 p q n b.den a.den = Int.gcd (rtop b.den a.den) (rden p q n) := rfl; omega
      have utop : ∀ z, z = rtop b.den a.den → IntKind.i64.wrap (z.tdiv ((Int.gcd (rtop b.den a.den) (rden p q n) : Nat) : Int)) = ftop p q n b.den a.den := fun z hz => by subst hz; exact quo_w h4' e1 (by omega)
      have uden : ∀ z, z = rden p q n → IntKind.i64.wrap (z.tdiv ((Int.gcd (rtop b.den a.den) (rden p q n) : Nat) : Int)) = fden p q n b.den a.den := fun z hz => by subst hz; exact quo_w h4' e2 (by omega)
      refine ⟨n4, n4, ?_⟩
      have hnorm := red_norm (p := p) (q := q) hn hdp hep
      have rng : ¬ (fits (fre p q n b.den a.den * ftop p q n b.den a.den) ∧ fits (fim p q n b.den a.den * ftop p q n b.den a.den) ∧ fits (fden p q n b.den a.den * fbot p q n b.den a.den)) → div a b = (c0, 16) := by
        intro h
        rw [hdiv, make, hnorm, if_neg h]
      have big : ∀ x y : Int, 0 < y → ¬ fits x → ¬ fits (x * y) := by
        intro x y hy hx h
        unfold fits at hx h
        have : x.natAbs ≤ (x * y).natAbs := by
          rw [Int.natAbs_mul]
          exact Nat.le_mul_of_pos_right _ (by omega)
        omega
      refine ⟨[], _, c_fitsE (ure _ (vre _ wp)), rfl, ?_⟩
      refine ⟨fun h5 => ?_, fun h5 => ?_⟩
      · refine ⟨[], _, c_fitsE (uim _ (vim _ wq)), rfl, ?_⟩
        refine ⟨fun h6 => ?_, fun h6 => ?_⟩
        · refine ⟨[], _, c_fitsE (uden _ (vden _ wn)), rfl, ?_⟩
          refine ⟨fun h7 => ?_, fun h7 => ?_⟩
          · simp at h7
            rw [rng fun h => big _ _ f3 h7 h.2.2]; rfl
          · simp at h5 h6 h7
            have ft : fits (ftop p q n b.den a.den) := by unfold fits; omega
            have fb : fits (fbot p q n b.den a.den) := by unfold fits; omega
            have k1 := mul_bound h5 ft
            have k2 := mul_bound h6 ft
            have k3 := mul_bound h7 fb
            have k4 := mul_pos' (a := fden p q n b.den a.den) (b := fbot p q n b.den a.den) (by omega) (by omega)
            refine ⟨[], resC (make (fre p q n b.den a.den * ftop p q n b.den a.den) (fim p q n b.den a.den * ftop p q n b.den a.den) (fden p q n b.den a.den * fbot p q n b.den a.den)), c_makeE ?_ ?_ ?_ ⟨by omega, by omega⟩ ⟨by omega, by omega⟩ ⟨by omega, by omega⟩ k4, rfl, ?_⟩
            · rw [ure _ (vre _ wp), utop _ vtop, wrap_id (by omega) (by omega)]
            · rw [uim _ (vim _ wq), utop _ vtop, wrap_id (by omega) (by omega)]
            · rw [uden _ (vden _ wn), ubot _ vbot, wrap_id (by omega) (by omega)]
            · show resC (make _ _ _) = resC (div a b)
              rw [hdiv, make, make, hnorm, norm_low k4 (red_low hn hdp hep)]
        · simp at h6
          rw [rng fun h => big _ _ f2 h6 h.2.1]; rfl
      · simp at h5
        rw [rng fun h => big _ _ f2 h5 h.1]; rfl

theorem rot_rotN (k : Nat) (a : Cx) : rot (rotN k a) = rotN (k + 1) a := by
  induction k generalizing a with
  | zero => rfl
  | succ k ih => show rot (rotN k (rot a)) = rotN (k + 1) (rot a); exact ih _

theorem rotN_fits (k : Nat) {a : Cx} (h : fits a.re ∧ fits a.im) : fits (rotN k a).re ∧ fits (rotN k a).im := by
  induction k generalizing a with
  | zero => exact h
  | succ k ih => exact ih ⟨by unfold rot fits at *; simp only; omega, h.1⟩

theorem quart_w {q : Int} (hq : I64 q) : (IntKind.i64.wrap (q.tmod 4 + 4)).tmod 4 = (quart q : Int) ∧ quart q < 4 := by
  have h1 : -4 < q.tmod 4 ∧ q.tmod 4 < 4 := by
    have e := Int.tmod_eq_emod (a := q) (b := 4)
    split at e <;> omega
  have h2 : 0 ≤ (q.tmod 4 + 4).tmod 4 ∧ (q.tmod 4 + 4).tmod 4 < 4 := by
    rw [Int.tmod_eq_emod_of_nonneg (by omega)]; omega
  rw [wrap_id (by omega) (by omega)]
  unfold quart
  omega

theorem c_turn (a : Cx) (q : Int) (ha : Enc.ok a) (hq : I64 q) : Ret Try.prog 44 [cx a, i64 q] [] (resC (turn a q)) := by
  refine ret (fn := Try.f44) (by kernel_rfl) (by kernel_rfl) rfl ?_
  refine ⟨[], _, c_check a ha, rfl, ?_⟩
  refine ⟨fun h1 => ?_, fun h1 => ?_⟩
  · have hv : ¬ a.valid := by intro h; unfold chk at h1; rw [if_pos h] at h1; simp at h1
    rw [chk, if_neg hv, turn, if_neg hv]; rfl
  · have hv : a.valid := by
      by_cases h : a.valid
      · exact h
      · unfold chk at h1; rw [if_neg h] at h1; simp at h1
    obtain ⟨qw, q4⟩ := quart_w hq
    refine ⟨by decide, by decide, ?_⟩
    refine ⟨Nat, { inv := fun k => k ≤ quart q, slots := [(17, fun k => i64 k)], boxes := [(0, fun k => Enc.cs (rotN k a))], mu := fun k => quart q - k }, 0, ⟨⟨rfl, trivial⟩, trivial, (by repeat' first | exact trivial | rfl | apply And.intro), Nat.zero_le _⟩, ?_⟩
    intro k hk
    have hf := rotN_fits k ⟨hv.2.2.1, hv.2.2.2.1⟩
    refine ⟨fun h2 => ?_, fun h2 => ?_⟩
    · have h2 : decide ((k : Int) < (IntKind.i64.wrap (q.tmod 4 + 4)).tmod 4) = true := h2
      rw [qw] at h2
      simp at h2
      have e : IntKind.i64.wrap (0 - (rotN k a).im) = -(rotN k a).im := by unfold fits at hf; rw [wrap_id (by omega) (by omega)]; omega
      have e2 : Enc.cs (rotN (k + 1) a) = [i64 (IntKind.i64.wrap (0 - (rotN k a).im)), i64 (rotN k a).re, i64 (rotN k a).den] := by rw [e, ← rot_rotN]; rfl
      refine ⟨k + 1, by show _ < _; simp; omega, ⟨rfl, rfl⟩, ⟨by show PV.v (.int _ _) = _; rw [succ_w (by omega)], trivial⟩, trivial, ?_, h2⟩
      refine ⟨?_, rfl, trivial⟩
      show _ = mapP (Enc.cs (rotN (k + 1) a))
      rw [e2]; rfl
    · have h2 : decide ((k : Int) < (IntKind.i64.wrap (q.tmod 4 + 4)).tmod 4) = false := h2
      rw [qw] at h2
      simp at h2
      have : k = quart q := by simp only at hk; omega
      subst this
      rw [turn, if_pos hv]; rfl

end Go.Pv
