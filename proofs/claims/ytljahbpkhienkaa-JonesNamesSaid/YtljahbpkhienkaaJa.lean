/- Contracts of matrices. -/
import Derived.Test.YtljahbpkhienkaaCd
import Derived.Test.YtljahbpkhienkaaPlCxm
namespace Go.Pv
open Go.Vc
open Go.Proofs
set_option maxRecDepth 10000

theorem four {P : Nat → Prop} (h0 : P 0) (h1 : P 1) (h2 : P 2) (h3 : P 3) : ∀ j, j < 4 → P j := fun j hj => by
  obtain rfl | rfl | rfl | rfl : j = 0 ∨ j = 1 ∨ j = 2 ∨ j = 3 := by omega
  · exact h0
  · exact h1
  · exact h2
  · exact h3

theorem j_valid (l : List Jn) (hl : l.length ≤ 1000) (hok : ∀ m ∈ l, Enc.ok m) : Ret Try.prog 33 [sl l] [] (.p (bl (decide (∀ m ∈ l, m.valid)))) := by
  refine ret (fn := Try.f33) (by kernel_rfl) (by kernel_rfl) rfl ?_
  refine ⟨Nat, { inv := fun k => k ≤ l.length ∧ (∀ m ∈ l.take k, m.valid), slots := [(9, fun k => i64 k)],  mu := fun k => l.length - k }, 0, ⟨⟨rfl, trivial⟩, trivial, trivial, Nat.zero_le _, by simp⟩, ?_⟩
  intro k ⟨hk, hall⟩
  refine ⟨fun h2 => ?_, fun h2 => ?_⟩
  · simp at h2
    refine ⟨k, rfl, h2, by decide, _, idx h2, rfl, ?_⟩
    have hm := hok l[k] (List.getElem_mem h2)
    refine ⟨Nat.le_refl _, ?_⟩
    refine ⟨_, rfl, rfl, ?_⟩
    refine ⟨Nat, { inv := fun i => i ≤ 4 ∧ (∀ j, j < i → (l[k].get j).valid), slots := [(14, fun i => i64 i)], mu := fun i => 4 - i }, 0, ⟨⟨rfl, trivial⟩, trivial, (by repeat' first | exact trivial | rfl | apply And.intro), Nat.zero_le _, fun j h => absurd h (by omega)⟩, ?_⟩
    intro i ⟨hi, hv⟩
    have bad : ¬ l[k].valid → SV.p (bl false) = SV.p (bl (decide (∀ m ∈ l, m.valid))) := fun hj => by
      rw [decide_eq_false (fun h => hj (h _ (List.getElem_mem h2)))]
    obtain rfl | rfl | rfl | rfl | rfl : i = 0 ∨ i = 1 ∨ i = 2 ∨ i = 3 ∨ i = 4 := by omega
    · refine ⟨fun _ => ?_, fun h => absurd h (by first | decide | simp)⟩
      refine ⟨0, rfl, by decide, _, rfl, rfl, ?_⟩
      refine ⟨[], _, c_check l[k].a hm.1, rfl, ?_⟩
      refine ⟨fun h4 => ?_, fun h4 => ?_⟩
      · rw [chk_ne] at h4
        exact bad fun h => h4 h.1
      · rw [chk_eq] at h4
        refine ⟨1, by show _ < _; simp, ⟨rfl, rfl⟩, ⟨rfl, trivial⟩, trivial, (by repeat' first | exact trivial | rfl | apply And.intro), by decide, fun j hj => ?_⟩
        rcases Nat.lt_succ_iff_lt_or_eq.mp hj with h | rfl
        · exact hv j h
        · exact h4
    · refine ⟨fun _ => ?_, fun h => absurd h (by first | decide | simp)⟩
      refine ⟨1, rfl, by decide, _, rfl, rfl, ?_⟩
      refine ⟨[], _, c_check l[k].b hm.2.1, rfl, ?_⟩
      refine ⟨fun h4 => ?_, fun h4 => ?_⟩
      · rw [chk_ne] at h4
        exact bad fun h => h4 h.2.1
      · rw [chk_eq] at h4
        refine ⟨2, by show _ < _; simp, ⟨rfl, rfl⟩, ⟨rfl, trivial⟩, trivial, (by repeat' first | exact trivial | rfl | apply And.intro), by decide, fun j hj => ?_⟩
        rcases Nat.lt_succ_iff_lt_or_eq.mp hj with h | rfl
        · exact hv j h
        · exact h4
    · refine ⟨fun _ => ?_, fun h => absurd h (by first | decide | simp)⟩
      refine ⟨2, rfl, by decide, _, rfl, rfl, ?_⟩
      refine ⟨[], _, c_check l[k].c hm.2.2.1, rfl, ?_⟩
      refine ⟨fun h4 => ?_, fun h4 => ?_⟩
      · rw [chk_ne] at h4
        exact bad fun h => h4 h.2.2.1
      · rw [chk_eq] at h4
        refine ⟨3, by show _ < _; simp, ⟨rfl, rfl⟩, ⟨rfl, trivial⟩, trivial, (by repeat' first | exact trivial | rfl | apply And.intro), by decide, fun j hj => ?_⟩
        rcases Nat.lt_succ_iff_lt_or_eq.mp hj with h | rfl
        · exact hv j h
        · exact h4
    · refine ⟨fun _ => ?_, fun h => absurd h (by first | decide | simp)⟩
      refine ⟨3, rfl, by decide, _, rfl, rfl, ?_⟩
      refine ⟨[], _, c_check l[k].d hm.2.2.2, rfl, ?_⟩
      refine ⟨fun h4 => ?_, fun h4 => ?_⟩
      · rw [chk_ne] at h4
        exact bad fun h => h4 h.2.2.2
      · rw [chk_eq] at h4
        refine ⟨4, by show _ < _; simp, ⟨rfl, rfl⟩, ⟨rfl, trivial⟩, trivial, (by repeat' first | exact trivial | rfl | apply And.intro), by decide, fun j hj => ?_⟩
        rcases Nat.lt_succ_iff_lt_or_eq.mp hj with h | rfl
        · exact hv j h
        · exact h4
    · refine ⟨fun h => absurd h (by first | decide | simp), fun _ => ?_⟩
      refine ⟨k + 1, by show _ < _; simp; omega, ⟨rfl, rfl⟩, ⟨by show PV.v (.int _ _) = _; rw [succ_w (by omega)], trivial⟩, trivial, (by repeat' first | exact trivial | rfl | apply And.intro), h2, ?_⟩
      intro m hm'
      rw [List.take_succ_eq_append_getElem h2, List.mem_append] at hm'
      rcases hm' with h | h
      · exact hall m h
      · simp at h; subst h; exact ⟨hv 0 (by decide), hv 1 (by decide), hv 2 (by decide), hv 3 (by decide)⟩
  · simp at h2
    have : k = l.length := by omega
    subst this
    rw [List.take_length] at hall
    rw [decide_eq_true hall]; rfl

theorem j_twoadd (a b c d : Cx) (ha : a.valid) (hb : b.valid) (hc : c.valid) (hd : d.valid) : Ret Try.prog 34 [cx a, cx b, cx c, cx d, .fn (.func 35) [] []] [] (resC (two add a b c d)) := by
  refine ret (fn := Try.f34) (by kernel_rfl) (by kernel_rfl) rfl ?_
  refine ⟨[], _, c_mul a b (ok_valid ha) (ok_valid hb), rfl, ?_⟩
  refine ⟨fun h1 => ?_, fun h1 => ?_⟩
  · simp at h1
    rw [two, if_pos h1]; rfl
  · simp at h1
    refine ⟨[], _, c_mul c d (ok_valid hc) (ok_valid hd), rfl, ?_⟩
    refine ⟨fun h2 => ?_, fun h2 => ?_⟩
    · simp at h2
      rw [two, if_neg (by simp [h1]), if_pos h2]; rfl
    · simp at h2
      refine ⟨[], _, c_add (mul a b).1 (mul c d).1 (ok_valid (mul_ok ha hb h1).2) (ok_valid (mul_ok hc hd h2).2), rfl, ?_⟩
      rw [two, if_neg (by simp [h1]), if_neg (by simp [h2])]; rfl

theorem j_twosub (a b c d : Cx) (ha : a.valid) (hb : b.valid) (hc : c.valid) (hd : d.valid) : Ret Try.prog 34 [cx a, cx b, cx c, cx d, .fn (.func 39) [] []] [] (resC (two sub a b c d)) := by
  refine ret (fn := Try.f34) (by kernel_rfl) (by kernel_rfl) rfl ?_
  refine ⟨[], _, c_mul a b (ok_valid ha) (ok_valid hb), rfl, ?_⟩
  refine ⟨fun h1 => ?_, fun h1 => ?_⟩
  · simp at h1
    rw [two, if_pos h1]; rfl
  · simp at h1
    refine ⟨[], _, c_mul c d (ok_valid hc) (ok_valid hd), rfl, ?_⟩
    refine ⟨fun h2 => ?_, fun h2 => ?_⟩
    · simp at h2
      rw [two, if_neg (by simp [h1]), if_pos h2]; rfl
    · simp at h2
      refine ⟨[], _, c_sub (mul a b).1 (mul c d).1 (ok_valid (mul_ok ha hb h1).2) (ok_valid (mul_ok hc hd h2).2), rfl, ?_⟩
      rw [two, if_neg (by simp [h1]), if_neg (by simp [h2])]; rfl

def part (f : Nat → Cx × Int) (g : Jn) : Nat → List PV
  | 0 => Enc.cs g
  | 1 => Enc.cs (Jn.mk (f 0).1 g.b g.c g.d)
  | 2 => Enc.cs (Jn.mk (f 0).1 (f 1).1 g.c g.d)
  | 3 => Enc.cs (Jn.mk (f 0).1 (f 1).1 (f 2).1 g.d)
  | _ => Enc.cs (Jn.mk (f 0).1 (f 1).1 (f 2).1 (f 3).1)

theorem seq4_bad {f : Nat → Cx × Int} {k : Nat} (hk : k < 4) (h : ∀ j, j < k → (f j).2 = 0) (hb : (f k).2 ≠ 0) : seq4 f = (j0, (f k).2) := by
  unfold seq4
  obtain rfl | rfl | rfl | rfl : k = 0 ∨ k = 1 ∨ k = 2 ∨ k = 3 := by omega
  · rw [if_pos hb]
  · rw [if_neg (by simp [h 0 (by decide)]), if_pos hb]
  · rw [if_neg (by simp [h 0 (by decide)]), if_neg (by simp [h 1 (by decide)]), if_pos hb]
  · rw [if_neg (by simp [h 0 (by decide)]), if_neg (by simp [h 1 (by decide)]), if_neg (by simp [h 2 (by decide)]), if_pos hb]

theorem seq4_ok {f : Nat → Cx × Int} (h : ∀ j, j < 4 → (f j).2 = 0) : seq4 f = (⟨(f 0).1, (f 1).1, (f 2).1, (f 3).1⟩, 0) := by
  unfold seq4
  rw [if_neg (by simp [h 0 (by decide)]), if_neg (by simp [h 1 (by decide)]), if_neg (by simp [h 2 (by decide)]), if_neg (by simp [h 3 (by decide)])]

theorem more {f : Nat → Cx × Int} {k : Nat} (h : ∀ j, j < k → (f j).2 = 0) (hk : (f k).2 = 0) : ∀ j, j < k + 1 → (f j).2 = 0 := fun j hj => by
  rcases Nat.lt_succ_iff_lt_or_eq.mp hj with h' | rfl
  · exact h j h'
  · exact hk

theorem j_mul (a b : Jn) (ha : Enc.ok a) (hb : Enc.ok b) : Ret Try.prog 9 [jn a, jn b] [] (resJ (jmul a b)) := by
  refine ret (fn := Try.f9) (by kernel_rfl) (by kernel_rfl) rfl ?_
  refine ⟨_, rfl, rfl, ?_⟩
  refine ⟨_, rfl, rfl, ?_⟩
  refine ⟨[], _, j_valid [a, b] (by simp) (by simp [ha, hb]), rfl, ?_⟩
  refine ⟨fun h1 => ?_, fun h1 => ?_⟩
  · simp at h1
    have : ¬ (a.valid ∧ b.valid) := by simpa [Classical.or_iff_not_imp_left] using h1
    refine ⟨Nat.le_refl _, ?_⟩
    rw [jmul, if_neg this]
    exact ⟨_, rfl, rfl, rfl⟩
  · simp at h1
    obtain ⟨va, vb⟩ := h1
    refine ⟨Nat, { inv := fun k => k ≤ 4 ∧ (∀ j, j < k → (jent a b j).2 = 0), slots := [(18, fun k => i64 k)], boxes := [(4, fun k => part (jent a b) j0 k)], mu := fun k => 4 - k }, 0, ⟨⟨rfl, trivial⟩, trivial, (by repeat' first | exact trivial | rfl | apply And.intro), Nat.zero_le _, fun j h => absurd h (by omega)⟩, ?_⟩
    intro k ⟨hk, hz⟩
    rw [jmul, if_pos ⟨va, vb⟩]
    obtain rfl | rfl | rfl | rfl | rfl : k = 0 ∨ k = 1 ∨ k = 2 ∨ k = 3 ∨ k = 4 := by omega
    · refine ⟨fun _ => ?_, fun h => absurd h (by first | decide | simp)⟩
      refine ⟨by decide, by decide, ?_⟩
      refine ⟨0, rfl, by decide, _, rfl, rfl, ?_⟩
      refine ⟨0, rfl, by decide, _, rfl, rfl, ?_⟩
      refine ⟨1, rfl, by decide, _, rfl, rfl, ?_⟩
      refine ⟨2, rfl, by decide, _, rfl, rfl, ?_⟩
      refine ⟨_, j_twoadd a.a b.a a.b b.c va.1 vb.1 va.2.1 vb.2.2.1, rfl, ?_⟩
      refine ⟨fun h2 => ?_, fun h2 => ?_⟩
      · refine ⟨Nat.le_refl _, ?_⟩
        have h2 : (jent a b 0).2 ≠ 0 := by simp at h2; exact h2
        rw [seq4_bad (by decide) hz h2]
        exact ⟨_, rfl, rfl, rfl⟩
      · have h2 : (jent a b 0).2 = 0 := by simp at h2; exact h2
        refine ⟨0, rfl, by decide, ?_⟩
        refine ⟨(by decide : 0 * 3 + 3 ≤ 12), ?_⟩
        exact ⟨1, by show _ < _; simp, ⟨rfl, rfl⟩, ⟨rfl, trivial⟩, trivial, (by repeat' first | exact trivial | rfl | apply And.intro), by decide, more hz h2⟩
    · refine ⟨fun _ => ?_, fun h => absurd h (by first | decide | simp)⟩
      refine ⟨by decide, by decide, ?_⟩
      refine ⟨0, rfl, by decide, _, rfl, rfl, ?_⟩
      refine ⟨1, rfl, by decide, _, rfl, rfl, ?_⟩
      refine ⟨1, rfl, by decide, _, rfl, rfl, ?_⟩
      refine ⟨3, rfl, by decide, _, rfl, rfl, ?_⟩
      refine ⟨_, j_twoadd a.a b.b a.b b.d va.1 vb.2.1 va.2.1 vb.2.2.2, rfl, ?_⟩
      refine ⟨fun h2 => ?_, fun h2 => ?_⟩
      · refine ⟨Nat.le_refl _, ?_⟩
        have h2 : (jent a b 1).2 ≠ 0 := by simp at h2; exact h2
        rw [seq4_bad (by decide) hz h2]
        exact ⟨_, rfl, rfl, rfl⟩
      · have h2 : (jent a b 1).2 = 0 := by simp at h2; exact h2
        refine ⟨1, rfl, by decide, ?_⟩
        refine ⟨(by decide : 1 * 3 + 3 ≤ 12), ?_⟩
        exact ⟨2, by show _ < _; simp, ⟨rfl, rfl⟩, ⟨rfl, trivial⟩, trivial, (by repeat' first | exact trivial | rfl | apply And.intro), by decide, more hz h2⟩
    · refine ⟨fun _ => ?_, fun h => absurd h (by first | decide | simp)⟩
      refine ⟨by decide, by decide, ?_⟩
      refine ⟨2, rfl, by decide, _, rfl, rfl, ?_⟩
      refine ⟨0, rfl, by decide, _, rfl, rfl, ?_⟩
      refine ⟨3, rfl, by decide, _, rfl, rfl, ?_⟩
      refine ⟨2, rfl, by decide, _, rfl, rfl, ?_⟩
      refine ⟨_, j_twoadd a.c b.a a.d b.c va.2.2.1 vb.1 va.2.2.2 vb.2.2.1, rfl, ?_⟩
      refine ⟨fun h2 => ?_, fun h2 => ?_⟩
      · refine ⟨Nat.le_refl _, ?_⟩
        have h2 : (jent a b 2).2 ≠ 0 := by simp at h2; exact h2
        rw [seq4_bad (by decide) hz h2]
        exact ⟨_, rfl, rfl, rfl⟩
      · have h2 : (jent a b 2).2 = 0 := by simp at h2; exact h2
        refine ⟨2, rfl, by decide, ?_⟩
        refine ⟨(by decide : 2 * 3 + 3 ≤ 12), ?_⟩
        exact ⟨3, by show _ < _; simp, ⟨rfl, rfl⟩, ⟨rfl, trivial⟩, trivial, (by repeat' first | exact trivial | rfl | apply And.intro), by decide, more hz h2⟩
    · refine ⟨fun _ => ?_, fun h => absurd h (by first | decide | simp)⟩
      refine ⟨by decide, by decide, ?_⟩
      refine ⟨2, rfl, by decide, _, rfl, rfl, ?_⟩
      refine ⟨1, rfl, by decide, _, rfl, rfl, ?_⟩
      refine ⟨3, rfl, by decide, _, rfl, rfl, ?_⟩
      refine ⟨3, rfl, by decide, _, rfl, rfl, ?_⟩
      refine ⟨_, j_twoadd a.c b.b a.d b.d va.2.2.1 vb.2.1 va.2.2.2 vb.2.2.2, rfl, ?_⟩
      refine ⟨fun h2 => ?_, fun h2 => ?_⟩
      · refine ⟨Nat.le_refl _, ?_⟩
        have h2 : (jent a b 3).2 ≠ 0 := by simp at h2; exact h2
        rw [seq4_bad (by decide) hz h2]
        exact ⟨_, rfl, rfl, rfl⟩
      · have h2 : (jent a b 3).2 = 0 := by simp at h2; exact h2
        refine ⟨3, rfl, by decide, ?_⟩
        refine ⟨(by decide : 3 * 3 + 3 ≤ 12), ?_⟩
        exact ⟨4, by show _ < _; simp, ⟨rfl, rfl⟩, ⟨rfl, trivial⟩, trivial, (by repeat' first | exact trivial | rfl | apply And.intro), by decide, more hz h2⟩
    · refine ⟨fun h => absurd h (by first | decide | simp), fun _ => ?_⟩
      refine ⟨_, rfl, rfl, ?_⟩
      refine ⟨Nat.le_refl _, ?_⟩
      rw [seq4_ok hz]
      exact ⟨_, rfl, rfl, rfl⟩

theorem c_conjV {a : Cx} (h : a.valid) : Ret Try.prog 37 [cx a] [] (resC (conj a, 0)) := by
  have := c_conj a (ok_valid h)
  rwa [if_pos h] at this

theorem c_turnV {a : Cx} (h : a.valid) : Ret Try.prog 44 [cx a, i64 2] [] (resC (neg a, 0)) := by
  have := c_turn a 2 (ok_valid h) (by unfold I64; omega)
  rw [turn, if_pos h] at this
  exact this

theorem j_adj (a : Jn) (ha : Enc.ok a) : Ret Try.prog 11 [jn a] [] (resJ (jadj a)) := by
  refine ret (fn := Try.f11) (by kernel_rfl) (by kernel_rfl) rfl ?_
  refine ⟨_, rfl, rfl, ?_⟩
  refine ⟨[], _, j_valid [a] (by simp) (by simp [ha]), rfl, ?_⟩
  refine ⟨fun h1 => ?_, fun h1 => ?_⟩
  · simp at h1
    refine ⟨Nat.le_refl _, ?_⟩
    rw [jadj, if_neg h1]
    exact ⟨_, rfl, rfl, rfl⟩
  · simp at h1
    refine ⟨0, rfl, by decide, _, rfl, rfl, ?_⟩
    refine ⟨2, rfl, by decide, _, rfl, rfl, ?_⟩
    refine ⟨1, rfl, by decide, _, rfl, rfl, ?_⟩
    refine ⟨3, rfl, by decide, _, rfl, rfl, ?_⟩
    refine ⟨Nat.le_refl _, ?_⟩
    refine ⟨_, rfl, rfl, ?_⟩
    refine ⟨Nat, { inv := fun k => k ≤ 4, slots := [(24, fun k => i64 k)], boxes := [(3, fun k => part (fun j => (conj ((Jn.mk a.a a.c a.b a.d).get j), 0)) ⟨a.a, a.c, a.b, a.d⟩ k)], mu := fun k => 4 - k }, 0, ⟨⟨rfl, trivial⟩, trivial, (by repeat' first | exact trivial | rfl | apply And.intro), Nat.zero_le _⟩, ?_⟩
    intro k hk
    rw [jadj, if_pos h1]
    obtain rfl | rfl | rfl | rfl | rfl : k = 0 ∨ k = 1 ∨ k = 2 ∨ k = 3 ∨ k = 4 := by simp only at hk; omega
    · refine ⟨fun _ => ?_, fun h => absurd h (by first | decide | simp)⟩
      refine ⟨0, rfl, by decide, _, rfl, rfl, ?_⟩
      refine ⟨[], _, c_conjV h1.1, rfl, ?_⟩
      refine ⟨fun h => absurd h (by simp), fun _ => ?_⟩
      refine ⟨0, rfl, by decide, ?_⟩
      refine ⟨(by decide : 0 * 3 + 3 ≤ 12), ?_⟩
      exact ⟨1, by show _ < _; simp, ⟨rfl, rfl⟩, ⟨rfl, trivial⟩, trivial, (by repeat' first | exact trivial | rfl | apply And.intro), (by decide : 1 ≤ 4)⟩
    · refine ⟨fun _ => ?_, fun h => absurd h (by first | decide | simp)⟩
      refine ⟨1, rfl, by decide, _, rfl, rfl, ?_⟩
      refine ⟨[], _, c_conjV h1.2.2.1, rfl, ?_⟩
      refine ⟨fun h => absurd h (by simp), fun _ => ?_⟩
      refine ⟨1, rfl, by decide, ?_⟩
      refine ⟨(by decide : 1 * 3 + 3 ≤ 12), ?_⟩
      exact ⟨2, by show _ < _; simp, ⟨rfl, rfl⟩, ⟨rfl, trivial⟩, trivial, (by repeat' first | exact trivial | rfl | apply And.intro), (by decide : 2 ≤ 4)⟩
    · refine ⟨fun _ => ?_, fun h => absurd h (by first | decide | simp)⟩
      refine ⟨2, rfl, by decide, _, rfl, rfl, ?_⟩
      refine ⟨[], _, c_conjV h1.2.1, rfl, ?_⟩
      refine ⟨fun h => absurd h (by simp), fun _ => ?_⟩
      refine ⟨2, rfl, by decide, ?_⟩
      refine ⟨(by decide : 2 * 3 + 3 ≤ 12), ?_⟩
      exact ⟨3, by show _ < _; simp, ⟨rfl, rfl⟩, ⟨rfl, trivial⟩, trivial, (by repeat' first | exact trivial | rfl | apply And.intro), (by decide : 3 ≤ 4)⟩
    · refine ⟨fun _ => ?_, fun h => absurd h (by first | decide | simp)⟩
      refine ⟨3, rfl, by decide, _, rfl, rfl, ?_⟩
      refine ⟨[], _, c_conjV h1.2.2.2, rfl, ?_⟩
      refine ⟨fun h => absurd h (by simp), fun _ => ?_⟩
      refine ⟨3, rfl, by decide, ?_⟩
      refine ⟨(by decide : 3 * 3 + 3 ≤ 12), ?_⟩
      exact ⟨4, by show _ < _; simp, ⟨rfl, rfl⟩, ⟨rfl, trivial⟩, trivial, (by repeat' first | exact trivial | rfl | apply And.intro), (by decide : 4 ≤ 4)⟩
    · refine ⟨fun h => absurd h (by first | decide | simp), fun _ => ?_⟩
      refine ⟨_, rfl, rfl, ?_⟩
      refine ⟨Nat.le_refl _, ?_⟩
      exact ⟨_, rfl, rfl, rfl⟩

theorem j_det (a : Jn) (ha : Enc.ok a) : Ret Try.prog 13 [jn a] [] (resC (jdet a)) := by
  refine ret (fn := Try.f13) (by kernel_rfl) (by kernel_rfl) rfl ?_
  refine ⟨_, rfl, rfl, ?_⟩
  refine ⟨[], _, j_valid [a] (by simp) (by simp [ha]), rfl, ?_⟩
  refine ⟨fun h1 => ?_, fun h1 => ?_⟩
  · simp at h1
    rw [jdet, if_neg h1]; rfl
  · simp at h1
    refine ⟨0, rfl, by decide, _, rfl, rfl, ?_⟩
    refine ⟨3, rfl, by decide, _, rfl, rfl, ?_⟩
    refine ⟨1, rfl, by decide, _, rfl, rfl, ?_⟩
    refine ⟨2, rfl, by decide, _, rfl, rfl, ?_⟩
    refine ⟨[], _, j_twosub a.a a.d a.b a.c h1.1 h1.2.2.2 h1.2.1 h1.2.2.1, rfl, ?_⟩
    rw [jdet, if_pos h1]; rfl

theorem j_tr (a : Jn) (ha : Enc.ok a) : Ret Try.prog 15 [jn a] [] (resC (jtr a)) := by
  refine ret (fn := Try.f15) (by kernel_rfl) (by kernel_rfl) rfl ?_
  refine ⟨_, rfl, rfl, ?_⟩
  refine ⟨[], _, j_valid [a] (by simp) (by simp [ha]), rfl, ?_⟩
  refine ⟨fun h1 => ?_, fun h1 => ?_⟩
  · simp at h1
    rw [jtr, if_neg h1]; rfl
  · simp at h1
    refine ⟨0, rfl, by decide, _, rfl, rfl, ?_⟩
    refine ⟨3, rfl, by decide, _, rfl, rfl, ?_⟩
    refine ⟨[], _, c_add a.a a.d ha.1 ha.2.2.2, rfl, ?_⟩
    rw [jtr, if_pos h1]; rfl

theorem j_reg (a : Jn) (ha : Enc.ok a) : Ret Try.prog 43 [jn a] [] (resC (jreg a)) := by
  refine ret (fn := Try.f43) (by kernel_rfl) (by kernel_rfl) rfl ?_
  refine ⟨_, rfl, rfl, ?_⟩
  refine ⟨[], _, j_det a ha, rfl, ?_⟩
  refine ⟨fun h1 => ?_, fun h1 => ?_⟩
  · simp at h1
    rw [jreg, if_pos h1]; rfl
  · simp at h1
    rw [jreg, if_neg (by simp [h1])]
    refine ⟨fun h2 => ?_, fun h2 => ?_⟩
    · refine ⟨fun h3 => ?_, fun h3 => ?_⟩
      · rw [if_pos (by simp at h2 h3; exact ⟨h2, h3⟩)]; rfl
      · rw [if_neg (by simp at h3; exact fun h => h3 h.2)]; rfl
    · rw [if_neg (by simp at h2; exact fun h => h2 h.1)]; rfl

theorem jdet_ok {a : Jn} (h : (jdet a).2 = 0) : a.valid ∧ (jdet a).1.valid := by
  unfold jdet at h ⊢
  split at h
  · rename_i hv
    rw [if_pos hv]
    refine ⟨hv, ?_⟩
    unfold two at h ⊢
    split at h
    · rename_i h'; exact absurd h h'
    · rename_i h'
      rw [if_neg h']
      split at h
      · rename_i h'; exact absurd h h'
      · rename_i h''
        rw [if_neg h'']
        have e1 := (mul_ok hv.1 hv.2.2.2 (by simpa using h')).2
        have e2 := (mul_ok hv.2.1 hv.2.2.1 (by simpa using h'')).2
        unfold sub at h ⊢
        rw [if_pos ⟨e1, e2⟩] at h ⊢
        have m := make_ok (mul_pos' (valid_fits e1).2.2.2 (valid_fits e2).2.2.2) h
        rw [m.1]; exact m.2
  · simp at h

theorem jreg_ok {a : Jn} (h : (jreg a).2 = 0) : a.valid ∧ (jreg a).1.valid ∧ ¬ (jreg a).1.zero := by
  unfold jreg at h ⊢
  split at h
  · rename_i h'; exact absurd h h'
  · rename_i h'
    rw [if_neg h']
    split at h
    · simp at h
    · rename_i h''
      rw [if_neg h'']
      have := jdet_ok (by simpa using h')
      exact ⟨this.1, this.2, h''⟩

theorem j_inv (a : Jn) (ha : Enc.ok a) : Ret Try.prog 17 [jn a] [] (resJ (jinv a)) := by
  refine ret (fn := Try.f17) (by kernel_rfl) (by kernel_rfl) rfl ?_
  refine ⟨_, rfl, rfl, ?_⟩
  refine ⟨[], _, j_reg a ha, rfl, ?_⟩
  refine ⟨fun h1 => ?_, fun h1 => ?_⟩
  · simp at h1
    refine ⟨Nat.le_refl _, ?_⟩
    rw [jinv, if_pos h1]
    exact ⟨_, rfl, rfl, rfl⟩
  · have h1 : (jreg a).2 = 0 := by simpa using h1
    obtain ⟨va, vd, nz⟩ := jreg_ok h1
    refine ⟨3, rfl, by decide, _, rfl, rfl, ?_⟩
    refine ⟨1, rfl, by decide, _, rfl, rfl, ?_⟩
    refine ⟨2, rfl, by decide, _, rfl, rfl, ?_⟩
    refine ⟨0, rfl, by decide, _, rfl, rfl, ?_⟩
    refine ⟨Nat.le_refl _, ?_⟩
    refine ⟨_, rfl, rfl, ?_⟩
    refine ⟨Nat, { inv := fun k => k ≤ 4 ∧ (∀ j, j < k → (jient a (jreg a).1 j).2 = 0), slots := [(28, fun k => i64 k), (5, fun _ => i64 0)], boxes := [(3, fun k => part (jient a (jreg a).1) ⟨a.d, a.b, a.c, a.a⟩ k)], mu := fun k => 4 - k }, 0, ⟨⟨rfl, by rw [h1]; rfl, trivial⟩, trivial, (by repeat' first | exact trivial | rfl | apply And.intro), Nat.zero_le _, fun j h => absurd h (by omega)⟩, ?_⟩
    intro k ⟨hk, hz⟩
    rw [jinv, if_neg (by simp [h1])]
    obtain rfl | rfl | rfl | rfl | rfl : k = 0 ∨ k = 1 ∨ k = 2 ∨ k = 3 ∨ k = 4 := by omega
    · refine ⟨fun _ => ?_, fun h => absurd h (by first | decide | simp)⟩
      refine ⟨0, rfl, by decide, _, rfl, rfl, ?_⟩
      refine ⟨fun _ => ?_, fun h => absurd h (by first | decide | simp)⟩
      refine ⟨fun h => absurd h (by first | decide | simp), fun _ => ?_⟩
      refine ⟨[], _, c_div a.d (jreg a).1 ha.2.2.2 (ok_valid vd), rfl, ?_⟩
      refine ⟨0, rfl, by decide, ?_⟩
      refine ⟨(by decide : 0 * 3 + 3 ≤ 12), ?_⟩
      refine ⟨fun h2 => ?_, fun h2 => ?_⟩
      · refine ⟨Nat.le_refl _, ?_⟩
        have h2 : (jient a (jreg a).1 0).2 ≠ 0 := by simp at h2; exact h2
        rw [seq4_bad (by decide) hz h2]
        exact ⟨_, rfl, rfl, rfl⟩
      · have h2 : (jient a (jreg a).1 0).2 = 0 := by simp at h2; exact h2
        exact ⟨1, by show _ < _; simp, ⟨rfl, rfl⟩, ⟨rfl, by show PV.v (.int _ (jient a (jreg a).1 0).2) = _; rw [h2], trivial⟩, trivial, (by repeat' first | exact trivial | rfl | apply And.intro), by decide, more hz h2⟩
    · refine ⟨fun _ => ?_, fun h => absurd h (by first | decide | simp)⟩
      refine ⟨1, rfl, by decide, _, rfl, rfl, ?_⟩
      refine ⟨fun h => absurd h (by first | decide | simp), fun _ => ?_⟩
      refine ⟨[], _, c_turnV va.2.1, rfl, ?_⟩
      refine ⟨fun h => absurd h (by simp), fun _ => ?_⟩
      refine ⟨[], _, c_div (neg a.b) (jreg a).1 (ok_valid (neg_valid va.2.1)) (ok_valid vd), rfl, ?_⟩
      refine ⟨1, rfl, by decide, ?_⟩
      refine ⟨(by decide : 1 * 3 + 3 ≤ 12), ?_⟩
      refine ⟨fun h2 => ?_, fun h2 => ?_⟩
      · refine ⟨Nat.le_refl _, ?_⟩
        have h2 : (jient a (jreg a).1 1).2 ≠ 0 := by simp at h2; exact h2
        rw [seq4_bad (by decide) hz h2]
        exact ⟨_, rfl, rfl, rfl⟩
      · have h2 : (jient a (jreg a).1 1).2 = 0 := by simp at h2; exact h2
        exact ⟨2, by show _ < _; simp, ⟨rfl, rfl⟩, ⟨rfl, by show PV.v (.int _ (jient a (jreg a).1 1).2) = _; rw [h2], trivial⟩, trivial, (by repeat' first | exact trivial | rfl | apply And.intro), by decide, more hz h2⟩
    · refine ⟨fun _ => ?_, fun h => absurd h (by first | decide | simp)⟩
      refine ⟨2, rfl, by decide, _, rfl, rfl, ?_⟩
      refine ⟨fun _ => ?_, fun h => absurd h (by first | decide | simp)⟩
      refine ⟨fun _ => ?_, fun h => absurd h (by first | decide | simp)⟩
      refine ⟨[], _, c_turnV va.2.2.1, rfl, ?_⟩
      refine ⟨fun h => absurd h (by simp), fun _ => ?_⟩
      refine ⟨[], _, c_div (neg a.c) (jreg a).1 (ok_valid (neg_valid va.2.2.1)) (ok_valid vd), rfl, ?_⟩
      refine ⟨2, rfl, by decide, ?_⟩
      refine ⟨(by decide : 2 * 3 + 3 ≤ 12), ?_⟩
      refine ⟨fun h2 => ?_, fun h2 => ?_⟩
      · refine ⟨Nat.le_refl _, ?_⟩
        have h2 : (jient a (jreg a).1 2).2 ≠ 0 := by simp at h2; exact h2
        rw [seq4_bad (by decide) hz h2]
        exact ⟨_, rfl, rfl, rfl⟩
      · have h2 : (jient a (jreg a).1 2).2 = 0 := by simp at h2; exact h2
        exact ⟨3, by show _ < _; simp, ⟨rfl, rfl⟩, ⟨rfl, by show PV.v (.int _ (jient a (jreg a).1 2).2) = _; rw [h2], trivial⟩, trivial, (by repeat' first | exact trivial | rfl | apply And.intro), by decide, more hz h2⟩
    · refine ⟨fun _ => ?_, fun h => absurd h (by first | decide | simp)⟩
      refine ⟨3, rfl, by decide, _, rfl, rfl, ?_⟩
      refine ⟨fun _ => ?_, fun h => absurd h (by first | decide | simp)⟩
      refine ⟨fun h => absurd h (by first | decide | simp), fun _ => ?_⟩
      refine ⟨[], _, c_div a.a (jreg a).1 ha.1 (ok_valid vd), rfl, ?_⟩
      refine ⟨3, rfl, by decide, ?_⟩
      refine ⟨(by decide : 3 * 3 + 3 ≤ 12), ?_⟩
      refine ⟨fun h2 => ?_, fun h2 => ?_⟩
      · refine ⟨Nat.le_refl _, ?_⟩
        have h2 : (jient a (jreg a).1 3).2 ≠ 0 := by simp at h2; exact h2
        rw [seq4_bad (by decide) hz h2]
        exact ⟨_, rfl, rfl, rfl⟩
      · have h2 : (jient a (jreg a).1 3).2 = 0 := by simp at h2; exact h2
        exact ⟨4, by show _ < _; simp, ⟨rfl, rfl⟩, ⟨rfl, by show PV.v (.int _ (jient a (jreg a).1 3).2) = _; rw [h2], trivial⟩, trivial, (by repeat' first | exact trivial | rfl | apply And.intro), by decide, more hz h2⟩
    · refine ⟨fun h => absurd h (by first | decide | simp), fun _ => ?_⟩
      refine ⟨_, rfl, rfl, ?_⟩
      refine ⟨Nat.le_refl _, ?_⟩
      rw [seq4_ok hz]
      exact ⟨_, rfl, rfl, rfl⟩
end Go.Pv
