/- Contracts of the reference of matrices. -/
import Derived.Test.YtljahbpkhienkaaJa
namespace Go.Pv
open Go.Vc
open Go.Proofs
set_option maxRecDepth 10000

theorem jr_valid (a : Jn) : Ret Try.prog 24 [jn a] [] (.p (bl (decide a.valid))) := by
  refine ret (fn := Try.f24) (by kernel_rfl) (by kernel_rfl) rfl ?_
  refine ⟨Nat, { inv := fun i => i ≤ 4 ∧ (∀ j, j < i → (a.get j).valid), slots := [(3, fun i => i64 i)], mu := fun i => 4 - i }, 0, ⟨⟨rfl, trivial⟩, trivial, (by repeat' first | exact trivial | rfl | apply And.intro), Nat.zero_le _, fun j h => absurd h (by omega)⟩, ?_⟩
  intro i ⟨hi, hv⟩
  have bad : ¬ a.valid → SV.p (bl false) = SV.p (bl (decide a.valid)) := fun h => by rw [decide_eq_false h]
  obtain rfl | rfl | rfl | rfl | rfl : i = 0 ∨ i = 1 ∨ i = 2 ∨ i = 3 ∨ i = 4 := by omega
  · refine ⟨fun _ => ?_, fun h => absurd h (by first | decide | simp)⟩
    refine ⟨0, rfl, by decide, _, rfl, rfl, ?_⟩
    refine ⟨[], _, r_check a.a, rfl, ?_⟩
    refine ⟨fun h4 => ?_, fun h4 => ?_⟩
    · rw [chk_ne] at h4
      exact bad fun h => h4 h.1
    · rw [chk_eq] at h4
      refine ⟨1, by show _ < _; simp, ⟨rfl, rfl⟩, ⟨rfl, trivial⟩, trivial, (by repeat' first | exact trivial | rfl | apply And.intro), by decide, fun j hj => ?_⟩
      rcases Nat.lt_succ_iff_lt_or_eq.mp hj with h | rfl
      · exact hv j h
      · exact h4
  · refine ⟨fun _ => ?_, fun h => absurd h (by first | decide | simp)⟩
    refine ⟨1, rfl, by decide, _, rfl, rfl, ?_⟩
    refine ⟨[], _, r_check a.b, rfl, ?_⟩
    refine ⟨fun h4 => ?_, fun h4 => ?_⟩
    · rw [chk_ne] at h4
      exact bad fun h => h4 h.2.1
    · rw [chk_eq] at h4
      refine ⟨2, by show _ < _; simp, ⟨rfl, rfl⟩, ⟨rfl, trivial⟩, trivial, (by repeat' first | exact trivial | rfl | apply And.intro), by decide, fun j hj => ?_⟩
      rcases Nat.lt_succ_iff_lt_or_eq.mp hj with h | rfl
      · exact hv j h
      · exact h4
  · refine ⟨fun _ => ?_, fun h => absurd h (by first | decide | simp)⟩
    refine ⟨2, rfl, by decide, _, rfl, rfl, ?_⟩
    refine ⟨[], _, r_check a.c, rfl, ?_⟩
    refine ⟨fun h4 => ?_, fun h4 => ?_⟩
    · rw [chk_ne] at h4
      exact bad fun h => h4 h.2.2.1
    · rw [chk_eq] at h4
      refine ⟨3, by show _ < _; simp, ⟨rfl, rfl⟩, ⟨rfl, trivial⟩, trivial, (by repeat' first | exact trivial | rfl | apply And.intro), by decide, fun j hj => ?_⟩
      rcases Nat.lt_succ_iff_lt_or_eq.mp hj with h | rfl
      · exact hv j h
      · exact h4
  · refine ⟨fun _ => ?_, fun h => absurd h (by first | decide | simp)⟩
    refine ⟨3, rfl, by decide, _, rfl, rfl, ?_⟩
    refine ⟨[], _, r_check a.d, rfl, ?_⟩
    refine ⟨fun h4 => ?_, fun h4 => ?_⟩
    · rw [chk_ne] at h4
      exact bad fun h => h4 h.2.2.2
    · rw [chk_eq] at h4
      refine ⟨4, by show _ < _; simp, ⟨rfl, rfl⟩, ⟨rfl, trivial⟩, trivial, (by repeat' first | exact trivial | rfl | apply And.intro), by decide, fun j hj => ?_⟩
      rcases Nat.lt_succ_iff_lt_or_eq.mp hj with h | rfl
      · exact hv j h
      · exact h4
  · refine ⟨fun h => absurd h (by first | decide | simp), fun _ => ?_⟩
    have : a.valid := ⟨hv 0 (by decide), hv 1 (by decide), hv 2 (by decide), hv 3 (by decide)⟩
    rw [decide_eq_true this]; rfl

theorem add_valid {a b : Cx} (ha : a.valid) (hb : b.valid) (h : (add a b).2 = 0) : (add a b).1.valid := by
  unfold add at h ⊢
  rw [if_pos ⟨ha, hb⟩] at h ⊢
  have m := make_ok (mul_pos' (valid_fits ha).2.2.2 (valid_fits hb).2.2.2) h
  rw [m.1]; exact m.2

theorem add_res {a b : Cx} (ha : a.valid) (hb : b.valid) : (add a b).2 = 0 ∨ add a b = (c0, 16) := add_errJ ha hb

/-- Two products: there is a result, or it is out of range. -/
theorem two_err {join : Cx → Cx → Cx × Int} (hj : ∀ {p q : Cx}, p.valid → q.valid → (join p q).2 = 0 ∨ join p q = (c0, 16)) {a b c d : Cx} (ha : a.valid) (hb : b.valid) (hc : c.valid) (hd : d.valid) : (two join a b c d).2 = 0 ∨ two join a b c d = (c0, 16) := by
  unfold two
  split
  · rename_i h
    rcases mul_err ha hb with h' | h'
    · exact absurd h' h
    · rw [h']; exact .inr rfl
  · rename_i h
    split
    · rename_i h2
      rcases mul_err hc hd with h' | h'
      · exact absurd h' h2
      · rw [h']; exact .inr rfl
    · rename_i h2
      exact hj (mul_ok ha hb (by simpa using h)).2 (mul_ok hc hd (by simpa using h2)).2

theorem jr_both (a b c d : Cx) (ha : a.valid) (hb : b.valid) (hc : c.valid) (hd : d.valid) : Ret Try.prog 36 [cx a, cx b, cx c, cx d] [] (.tup [.p (cx (two add a b c d).1), .p (bl (decide ((two add a b c d).2 = 0)))]) := by
  refine ret (fn := Try.f36) (by kernel_rfl) (by kernel_rfl) rfl ?_
  refine ⟨[], _, r_mul a b, rfl, ?_⟩
  refine ⟨[], _, r_mul c d, rfl, ?_⟩
  refine ⟨fun h1 => ?_, fun h1 => ?_⟩
  · simp at h1
    refine ⟨fun h2 => ?_, fun h2 => ?_⟩
    · simp at h2
      rcases mul_err hc hd with h' | h'
      · exact absurd h' h2
      · rw [two, if_neg (by simp [h1]), if_pos h2, h']; rfl
    · simp at h2
      refine ⟨[], _, r_add (mul a b).1 (mul c d).1, rfl, ?_⟩
      rw [two, if_neg (by simp [h1]), if_neg (by simp [h2])]
      show SV.tup [_, .p (bl _)] = SV.tup [_, .p (bl _)]
      rfl
  · simp at h1
    rcases mul_err ha hb with h' | h'
    · exact absurd h' h1
    · rw [two, if_pos h1, h']; rfl

theorem jent_err {a b : Jn} (va : a.valid) (vb : b.valid) (k : Nat) : (jent a b k).2 = 0 ∨ jent a b k = (c0, 16) := by
  obtain ⟨a1, a2, a3, a4⟩ := va
  obtain ⟨b1, b2, b3, b4⟩ := vb
  match k with
  | 0 => exact two_err add_errJ a1 b1 a2 b3
  | 1 => exact two_err add_errJ a1 b2 a2 b4
  | 2 => exact two_err add_errJ a3 b1 a4 b3
  | _ + 3 => exact two_err add_errJ a3 b2 a4 b4

theorem jr_mul (a b : Jn) : Ret Try.prog 10 [jn a, jn b] [] (resJ (jmul a b)) := by
  refine ret (fn := Try.f10) (by kernel_rfl) (by kernel_rfl) rfl ?_
  refine ⟨_, rfl, rfl, ?_⟩
  refine ⟨[], _, jr_valid a, rfl, ?_⟩
  have bad : ¬ (a.valid ∧ b.valid) → resJ (j0, 8) = resJ (jmul a b) := fun h => by rw [jmul, if_neg h]
  refine ⟨fun h1 => ?_, fun h1 => ?_⟩
  rotate_left
  · simp at h1
    refine ⟨Nat.le_refl _, ?_⟩
    refine ⟨_, rfl, rfl, ?_⟩
    exact bad fun h => h1 h.1
  · have va : a.valid := by simpa using h1
    refine ⟨_, rfl, rfl, ?_⟩
    refine ⟨[], _, jr_valid b, rfl, ?_⟩
    refine ⟨fun h2 => ?_, fun h2 => ?_⟩
    · simp at h2
      refine ⟨Nat.le_refl _, ?_⟩
      refine ⟨_, rfl, rfl, ?_⟩
      exact bad fun h => h2 h.2
    · have vb : b.valid := by simpa using h2
      refine ⟨Nat, { inv := fun r => r ≤ 2 ∧ (∀ j, j < 2 * r → (jent a b j).2 = 0), slots := [(7, fun r => i64 r)], boxes := [(3, fun r => part (jent a b) j0 (2 * r))], mu := fun r => 2 - r }, 0, ⟨⟨rfl, trivial⟩, trivial, (by repeat' first | exact trivial | rfl | apply And.intro), Nat.zero_le _, fun j h => absurd h (by omega)⟩, ?_⟩
      intro r ⟨hr, hz⟩
      obtain rfl | rfl | rfl : r = 0 ∨ r = 1 ∨ r = 2 := by omega
      · refine ⟨fun _ => ?_, fun h => absurd h (by first | decide | simp)⟩
        refine ⟨Nat, { inv := fun c => c ≤ 2 ∧ (∀ j, j < 0 + c → (jent a b j).2 = 0), slots := [(8, fun c => i64 c)], boxes := [(3, fun c => part (jent a b) j0 (0 + c))], mu := fun c => 2 - c }, 0, ⟨⟨rfl, trivial⟩, trivial, (by repeat' first | exact trivial | rfl | apply And.intro), Nat.zero_le _, hz⟩, ?_⟩
        intro c ⟨hc, hz⟩
        obtain rfl | rfl | rfl : c = 0 ∨ c = 1 ∨ c = 2 := by omega
        · refine ⟨fun _ => ?_, fun h => absurd h (by first | decide | simp)⟩
          refine ⟨0, rfl, by decide, _, rfl, rfl, ?_⟩
          refine ⟨0, rfl, by decide, _, rfl, rfl, ?_⟩
          refine ⟨1, rfl, by decide, _, rfl, rfl, ?_⟩
          refine ⟨2, rfl, by decide, _, rfl, rfl, ?_⟩
          refine ⟨_, jr_both a.a b.a a.b b.c va.1 vb.1 va.2.1 vb.2.2.1, rfl, ?_⟩
          refine ⟨fun h3 => ?_, fun h3 => ?_⟩
          · refine ⟨Nat.le_refl _, ?_⟩
            have h3 : (jent a b 0).2 ≠ 0 := by simp at h3; exact h3
            rw [jmul, if_pos ⟨va, vb⟩, seq4_bad (by decide) hz h3]
            rcases jent_err va vb 0 with h' | h'
            · exact absurd h' h3
            · rw [h']; exact ⟨_, rfl, rfl, rfl⟩
          · have h3 : (jent a b 0).2 = 0 := by simp at h3; exact h3
            refine ⟨0, rfl, by decide, ?_⟩
            refine ⟨(by decide : 0 * 3 + 3 ≤ 12), ?_⟩
            exact ⟨1, by show _ < _; simp, ⟨rfl, rfl⟩, ⟨rfl, trivial⟩, trivial, (by repeat' first | exact trivial | rfl | apply And.intro), by decide, more hz h3⟩
        · refine ⟨fun _ => ?_, fun h => absurd h (by first | decide | simp)⟩
          refine ⟨0, rfl, by decide, _, rfl, rfl, ?_⟩
          refine ⟨1, rfl, by decide, _, rfl, rfl, ?_⟩
          refine ⟨1, rfl, by decide, _, rfl, rfl, ?_⟩
          refine ⟨3, rfl, by decide, _, rfl, rfl, ?_⟩
          refine ⟨_, jr_both a.a b.b a.b b.d va.1 vb.2.1 va.2.1 vb.2.2.2, rfl, ?_⟩
          refine ⟨fun h3 => ?_, fun h3 => ?_⟩
          · refine ⟨Nat.le_refl _, ?_⟩
            have h3 : (jent a b 1).2 ≠ 0 := by simp at h3; exact h3
            rw [jmul, if_pos ⟨va, vb⟩, seq4_bad (by decide) hz h3]
            rcases jent_err va vb 1 with h' | h'
            · exact absurd h' h3
            · rw [h']; exact ⟨_, rfl, rfl, rfl⟩
          · have h3 : (jent a b 1).2 = 0 := by simp at h3; exact h3
            refine ⟨1, rfl, by decide, ?_⟩
            refine ⟨(by decide : 1 * 3 + 3 ≤ 12), ?_⟩
            exact ⟨2, by show _ < _; simp, ⟨rfl, rfl⟩, ⟨rfl, trivial⟩, trivial, (by repeat' first | exact trivial | rfl | apply And.intro), by decide, more hz h3⟩
        · refine ⟨fun h => absurd h (by first | decide | simp), fun _ => ?_⟩
          exact ⟨1, by show _ < _; simp, ⟨rfl, rfl⟩, ⟨rfl, trivial⟩, trivial, (by repeat' first | exact trivial | rfl | apply And.intro), by decide, hz⟩
      · refine ⟨fun _ => ?_, fun h => absurd h (by first | decide | simp)⟩
        refine ⟨Nat, { inv := fun c => c ≤ 2 ∧ (∀ j, j < 2 + c → (jent a b j).2 = 0), slots := [(8, fun c => i64 c)], boxes := [(3, fun c => part (jent a b) j0 (2 + c))], mu := fun c => 2 - c }, 0, ⟨⟨rfl, trivial⟩, trivial, (by repeat' first | exact trivial | rfl | apply And.intro), Nat.zero_le _, hz⟩, ?_⟩
        intro c ⟨hc, hz⟩
        obtain rfl | rfl | rfl : c = 0 ∨ c = 1 ∨ c = 2 := by omega
        · refine ⟨fun _ => ?_, fun h => absurd h (by first | decide | simp)⟩
          refine ⟨2, rfl, by decide, _, rfl, rfl, ?_⟩
          refine ⟨0, rfl, by decide, _, rfl, rfl, ?_⟩
          refine ⟨3, rfl, by decide, _, rfl, rfl, ?_⟩
          refine ⟨2, rfl, by decide, _, rfl, rfl, ?_⟩
          refine ⟨_, jr_both a.c b.a a.d b.c va.2.2.1 vb.1 va.2.2.2 vb.2.2.1, rfl, ?_⟩
          refine ⟨fun h3 => ?_, fun h3 => ?_⟩
          · refine ⟨Nat.le_refl _, ?_⟩
            have h3 : (jent a b 2).2 ≠ 0 := by simp at h3; exact h3
            rw [jmul, if_pos ⟨va, vb⟩, seq4_bad (by decide) hz h3]
            rcases jent_err va vb 2 with h' | h'
            · exact absurd h' h3
            · rw [h']; exact ⟨_, rfl, rfl, rfl⟩
          · have h3 : (jent a b 2).2 = 0 := by simp at h3; exact h3
            refine ⟨2, rfl, by decide, ?_⟩
            refine ⟨(by decide : 2 * 3 + 3 ≤ 12), ?_⟩
            exact ⟨1, by show _ < _; simp, ⟨rfl, rfl⟩, ⟨rfl, trivial⟩, trivial, (by repeat' first | exact trivial | rfl | apply And.intro), by decide, more hz h3⟩
        · refine ⟨fun _ => ?_, fun h => absurd h (by first | decide | simp)⟩
          refine ⟨2, rfl, by decide, _, rfl, rfl, ?_⟩
          refine ⟨1, rfl, by decide, _, rfl, rfl, ?_⟩
          refine ⟨3, rfl, by decide, _, rfl, rfl, ?_⟩
          refine ⟨3, rfl, by decide, _, rfl, rfl, ?_⟩
          refine ⟨_, jr_both a.c b.b a.d b.d va.2.2.1 vb.2.1 va.2.2.2 vb.2.2.2, rfl, ?_⟩
          refine ⟨fun h3 => ?_, fun h3 => ?_⟩
          · refine ⟨Nat.le_refl _, ?_⟩
            have h3 : (jent a b 3).2 ≠ 0 := by simp at h3; exact h3
            rw [jmul, if_pos ⟨va, vb⟩, seq4_bad (by decide) hz h3]
            rcases jent_err va vb 3 with h' | h'
            · exact absurd h' h3
            · rw [h']; exact ⟨_, rfl, rfl, rfl⟩
          · have h3 : (jent a b 3).2 = 0 := by simp at h3; exact h3
            refine ⟨3, rfl, by decide, ?_⟩
            refine ⟨(by decide : 3 * 3 + 3 ≤ 12), ?_⟩
            exact ⟨2, by show _ < _; simp, ⟨rfl, rfl⟩, ⟨rfl, trivial⟩, trivial, (by repeat' first | exact trivial | rfl | apply And.intro), by decide, more hz h3⟩
        · refine ⟨fun h => absurd h (by first | decide | simp), fun _ => ?_⟩
          exact ⟨2, by show _ < _; simp, ⟨rfl, rfl⟩, ⟨rfl, trivial⟩, trivial, (by repeat' first | exact trivial | rfl | apply And.intro), by decide, hz⟩
      · refine ⟨fun h => absurd h (by first | decide | simp), fun _ => ?_⟩
        refine ⟨_, rfl, rfl, ?_⟩
        refine ⟨Nat.le_refl _, ?_⟩
        rw [jmul, if_pos ⟨va, vb⟩, seq4_ok hz]
        exact ⟨_, rfl, rfl, rfl⟩

theorem jr_adj1 (a : Jn) (va : a.valid) : Ret Try.prog 38 [jn a] [] (.p (jn ⟨conj a.a, conj a.c, conj a.b, conj a.d⟩)) := by
  refine ret (fn := Try.f38) (by kernel_rfl) (by kernel_rfl) rfl ?_
  refine ⟨0, rfl, by decide, _, rfl, rfl, ?_⟩
  refine ⟨_, r_apart a.a va.1, rfl, ?_⟩
  refine ⟨2, rfl, by decide, _, rfl, rfl, ?_⟩
  refine ⟨_, r_apart a.c va.2.2.1, rfl, ?_⟩
  refine ⟨1, rfl, by decide, _, rfl, rfl, ?_⟩
  refine ⟨_, r_apart a.b va.2.1, rfl, ?_⟩
  refine ⟨3, rfl, by decide, _, rfl, rfl, ?_⟩
  refine ⟨_, r_apart a.d va.2.2.2, rfl, ?_⟩
  refine ⟨Nat.le_refl _, ?_⟩
  exact ⟨_, rfl, rfl, rfl⟩

theorem jr_adj (a : Jn) : Ret Try.prog 12 [jn a] [] (resJ (jadj a)) := by
  refine ret (fn := Try.f12) (by kernel_rfl) (by kernel_rfl) rfl ?_
  refine ⟨_, rfl, rfl, ?_⟩
  refine ⟨[], _, jr_valid a, rfl, ?_⟩
  refine ⟨fun h1 => ?_, fun h1 => ?_⟩
  · simp at h1
    refine ⟨Nat.le_refl _, ?_⟩
    rw [jadj, if_neg h1]
    exact ⟨_, rfl, rfl, rfl⟩
  · simp at h1
    refine ⟨_, rfl, rfl, ?_⟩
    refine ⟨[], _, jr_adj1 a h1, rfl, ?_⟩
    refine ⟨Nat.le_refl _, ?_⟩
    rw [jadj, if_pos h1]
    exact ⟨_, rfl, rfl, rfl⟩

theorem jr_det (a : Jn) : Ret Try.prog 14 [jn a] [] (resC (jdet a)) := by
  refine ret (fn := Try.f14) (by kernel_rfl) (by kernel_rfl) rfl ?_
  refine ⟨_, rfl, rfl, ?_⟩
  refine ⟨[], _, jr_valid a, rfl, ?_⟩
  refine ⟨fun h1 => ?_, fun h1 => ?_⟩
  · simp at h1
    rw [jdet, if_neg h1]; rfl
  · have va : a.valid := by simpa using h1
    obtain ⟨a1, a2, a3, a4⟩ := id va
    rw [jdet, if_pos va]
    refine ⟨0, rfl, by decide, _, rfl, rfl, ?_⟩
    refine ⟨3, rfl, by decide, _, rfl, rfl, ?_⟩
    refine ⟨[], _, r_mul a.a a.d, rfl, ?_⟩
    refine ⟨1, rfl, by decide, _, rfl, rfl, ?_⟩
    refine ⟨2, rfl, by decide, _, rfl, rfl, ?_⟩
    refine ⟨[], _, r_mul a.b a.c, rfl, ?_⟩
    refine ⟨fun h2 => ?_, fun h2 => ?_⟩
    · simp at h2
      refine ⟨fun h3 => ?_, fun h3 => ?_⟩
      · simp at h3
        rcases mul_err a2 a3 with h' | h'
        · exact absurd h' h3
        · rw [two, if_neg (by simp [h2]), if_pos h3, h']; rfl
      · simp at h3
        refine ⟨[], _, r_sub (mul a.a a.d).1 (mul a.b a.c).1, rfl, ?_⟩
        rw [two, if_neg (by simp [h2]), if_neg (by simp [h3])]
        refine ⟨fun h4 => ?_, fun h4 => ?_⟩
        · simp at h4
          rcases sub_err (mul_ok a1 a4 h2).2 (mul_ok a2 a3 h3).2 with h' | h'
          · exact absurd h' h4
          · rw [h']; rfl
        · have h4 : (sub (mul a.a a.d).1 (mul a.b a.c).1).2 = 0 := by simpa using h4
          show _ = SV.tup [_, .p (i64 (sub (mul a.a a.d).1 (mul a.b a.c).1).2)]
          rw [h4]; rfl
    · simp at h2
      rcases mul_err a1 a4 with h' | h'
      · exact absurd h' h2
      · rw [two, if_pos h2, h']; rfl

theorem jr_tr (a : Jn) : Ret Try.prog 16 [jn a] [] (resC (jtr a)) := by
  refine ret (fn := Try.f16) (by kernel_rfl) (by kernel_rfl) rfl ?_
  refine ⟨_, rfl, rfl, ?_⟩
  refine ⟨[], _, jr_valid a, rfl, ?_⟩
  refine ⟨fun h1 => ?_, fun h1 => ?_⟩
  · simp at h1
    rw [jtr, if_neg h1]; rfl
  · have va : a.valid := by simpa using h1
    obtain ⟨a1, a2, a3, a4⟩ := id va
    rw [jtr, if_pos va]
    refine ⟨0, rfl, by decide, _, rfl, rfl, ?_⟩
    refine ⟨3, rfl, by decide, _, rfl, rfl, ?_⟩
    refine ⟨[], _, r_add a.a a.d, rfl, ?_⟩
    refine ⟨fun h4 => ?_, fun h4 => ?_⟩
    · simp at h4
      rcases add_errJ a1 a4 with h' | h'
      · exact absurd h' h4
      · rw [h']; rfl
    · have h4 : (add a.a a.d).2 = 0 := by simpa using h4
      show _ = SV.tup [_, .p (i64 (add a.a a.d).2)]
      rw [h4]; rfl

theorem jient_err {a : Jn} {d : Cx} (va : a.valid) (vd : d.valid) (nz : ¬ d.zero) (k : Nat) : (jient a d k).2 = 0 ∨ jient a d k = (c0, 16) := by
  obtain ⟨a1, a2, a3, a4⟩ := va
  match k with
  | 0 => exact div_errJ a4 vd nz
  | 1 => exact div_errJ (neg_valid a2) vd nz
  | 2 => exact div_errJ (neg_valid a3) vd nz
  | _ + 3 => exact div_errJ a1 vd nz

theorem jr_inv (a : Jn) : Ret Try.prog 18 [jn a] [] (resJ (jinv a)) := by
  refine ret (fn := Try.f18) (by kernel_rfl) (by kernel_rfl) rfl ?_
  refine ⟨_, rfl, rfl, ?_⟩
  refine ⟨[], _, jr_det a, rfl, ?_⟩
  refine ⟨fun h1 => ?_, fun h1 => ?_⟩
  · simp at h1
    refine ⟨Nat.le_refl _, ?_⟩
    rw [jinv, jreg, if_pos h1, if_pos h1]
    exact ⟨_, rfl, rfl, rfl⟩
  · have h1 : (jdet a).2 = 0 := by simpa using h1
    obtain ⟨va, vd⟩ := jdet_ok h1
    refine ⟨[], _, r_zero (jdet a).1, rfl, ?_⟩
    refine ⟨fun h2 => ?_, fun h2 => ?_⟩
    · have h2 : (jdet a).1.zero := by simpa using h2
      refine ⟨Nat.le_refl _, ?_⟩
      rw [jinv, show jreg a = (c0, 18) from by rw [jreg, if_neg (by simp [h1]), if_pos h2], if_pos (by simp)]
      exact ⟨_, rfl, rfl, rfl⟩
    · have nz : ¬ (jdet a).1.zero := by simpa using h2
      have hreg : jreg a = ((jdet a).1, 0) := by rw [jreg, if_neg (by simp [h1]), if_neg nz]
      refine ⟨3, rfl, by decide, _, rfl, rfl, ?_⟩
      refine ⟨1, rfl, by decide, _, rfl, rfl, ?_⟩
      refine ⟨_, r_neg a.b va.2.1, rfl, ?_⟩
      refine ⟨2, rfl, by decide, _, rfl, rfl, ?_⟩
      refine ⟨_, r_neg a.c va.2.2.1, rfl, ?_⟩
      refine ⟨0, rfl, by decide, _, rfl, rfl, ?_⟩
      refine ⟨Nat.le_refl _, ?_⟩
      have hJ : jinv a = seq4 (jient a (jdet a).1) := by rw [jinv, hreg, if_neg (by simp)]
      refine ⟨Nat, { inv := fun k => k ≤ 4 ∧ (∀ j, j < k → (jient a (jdet a).1 j).2 = 0), slots := [(7, fun k => i64 k)], boxes := [(3, fun k => part (jient a (jdet a).1) ⟨a.d, neg a.b, neg a.c, a.a⟩ k)], mu := fun k => 4 - k }, 0, ⟨⟨rfl, trivial⟩, trivial, (by repeat' first | exact trivial | rfl | apply And.intro), Nat.zero_le _, fun j h => absurd h (by omega)⟩, ?_⟩
      intro k ⟨hk, hz⟩
      obtain rfl | rfl | rfl | rfl | rfl : k = 0 ∨ k = 1 ∨ k = 2 ∨ k = 3 ∨ k = 4 := by omega
      · refine ⟨fun _ => ?_, fun h => absurd h (by first | decide | simp)⟩
        refine ⟨0, rfl, by decide, _, rfl, rfl, ?_⟩
        refine ⟨_, r_div a.d (jdet a).1, rfl, ?_⟩
        refine ⟨fun h3 => ?_, fun h3 => ?_⟩
        · refine ⟨Nat.le_refl _, ?_⟩
          have h3 : (jient a (jdet a).1 0).2 ≠ 0 := by simp at h3; exact h3
          rw [hJ, seq4_bad (by decide) hz h3]
          rcases jient_err va vd nz 0 with h' | h'
          · exact absurd h' h3
          · rw [h']; exact ⟨_, rfl, rfl, rfl⟩
        · have h3 : (jient a (jdet a).1 0).2 = 0 := by simp at h3; exact h3
          refine ⟨0, rfl, by decide, ?_⟩
          refine ⟨(by decide : 0 * 3 + 3 ≤ 12), ?_⟩
          exact ⟨1, by show _ < _; simp, ⟨rfl, rfl⟩, ⟨rfl, trivial⟩, trivial, (by repeat' first | exact trivial | rfl | apply And.intro), by decide, more hz h3⟩
      · refine ⟨fun _ => ?_, fun h => absurd h (by first | decide | simp)⟩
        refine ⟨1, rfl, by decide, _, rfl, rfl, ?_⟩
        refine ⟨_, r_div (neg a.b) (jdet a).1, rfl, ?_⟩
        refine ⟨fun h3 => ?_, fun h3 => ?_⟩
        · refine ⟨Nat.le_refl _, ?_⟩
          have h3 : (jient a (jdet a).1 1).2 ≠ 0 := by simp at h3; exact h3
          rw [hJ, seq4_bad (by decide) hz h3]
          rcases jient_err va vd nz 1 with h' | h'
          · exact absurd h' h3
          · rw [h']; exact ⟨_, rfl, rfl, rfl⟩
        · have h3 : (jient a (jdet a).1 1).2 = 0 := by simp at h3; exact h3
          refine ⟨1, rfl, by decide, ?_⟩
          refine ⟨(by decide : 1 * 3 + 3 ≤ 12), ?_⟩
          exact ⟨2, by show _ < _; simp, ⟨rfl, rfl⟩, ⟨rfl, trivial⟩, trivial, (by repeat' first | exact trivial | rfl | apply And.intro), by decide, more hz h3⟩
      · refine ⟨fun _ => ?_, fun h => absurd h (by first | decide | simp)⟩
        refine ⟨2, rfl, by decide, _, rfl, rfl, ?_⟩
        refine ⟨_, r_div (neg a.c) (jdet a).1, rfl, ?_⟩
        refine ⟨fun h3 => ?_, fun h3 => ?_⟩
        · refine ⟨Nat.le_refl _, ?_⟩
          have h3 : (jient a (jdet a).1 2).2 ≠ 0 := by simp at h3; exact h3
          rw [hJ, seq4_bad (by decide) hz h3]
          rcases jient_err va vd nz 2 with h' | h'
          · exact absurd h' h3
          · rw [h']; exact ⟨_, rfl, rfl, rfl⟩
        · have h3 : (jient a (jdet a).1 2).2 = 0 := by simp at h3; exact h3
          refine ⟨2, rfl, by decide, ?_⟩
          refine ⟨(by decide : 2 * 3 + 3 ≤ 12), ?_⟩
          exact ⟨3, by show _ < _; simp, ⟨rfl, rfl⟩, ⟨rfl, trivial⟩, trivial, (by repeat' first | exact trivial | rfl | apply And.intro), by decide, more hz h3⟩
      · refine ⟨fun _ => ?_, fun h => absurd h (by first | decide | simp)⟩
        refine ⟨3, rfl, by decide, _, rfl, rfl, ?_⟩
        refine ⟨_, r_div a.a (jdet a).1, rfl, ?_⟩
        refine ⟨fun h3 => ?_, fun h3 => ?_⟩
        · refine ⟨Nat.le_refl _, ?_⟩
          have h3 : (jient a (jdet a).1 3).2 ≠ 0 := by simp at h3; exact h3
          rw [hJ, seq4_bad (by decide) hz h3]
          rcases jient_err va vd nz 3 with h' | h'
          · exact absurd h' h3
          · rw [h']; exact ⟨_, rfl, rfl, rfl⟩
        · have h3 : (jient a (jdet a).1 3).2 = 0 := by simp at h3; exact h3
          refine ⟨3, rfl, by decide, ?_⟩
          refine ⟨(by decide : 3 * 3 + 3 ≤ 12), ?_⟩
          exact ⟨4, by show _ < _; simp, ⟨rfl, rfl⟩, ⟨rfl, trivial⟩, trivial, (by repeat' first | exact trivial | rfl | apply And.intro), by decide, more hz h3⟩
      · refine ⟨fun h => absurd h (by first | decide | simp), fun _ => ?_⟩
        refine ⟨_, rfl, rfl, ?_⟩
        refine ⟨Nat.le_refl _, ?_⟩
        rw [hJ, seq4_ok hz]
        exact ⟨_, rfl, rfl, rfl⟩

end Go.Pv
