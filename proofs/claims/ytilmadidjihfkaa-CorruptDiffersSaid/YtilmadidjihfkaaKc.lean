/- Contracts of the reference's events; the laws CorruptTables and CorruptTimes, of the code. -/
import Derived.Test.YtilmadidjihfkaaKb
namespace Go.Pv
open Go.Vc
open Go.Proofs
set_option maxRecDepth 10000
set_option maxHeartbeats 4000000

theorem r_turn (a : Cx) (q : Int) (hq : I64 q) : Ret Try.prog 14 [cx a, i64 q] [] (resC (turn a q)) := by
  refine ret (fn := Try.f14) (by kernel_rfl) (by kernel_rfl) rfl ?_
  refine ⟨[], _, r_check a, rfl, ?_⟩
  refine ⟨fun h1 => ?_, fun h1 => ?_⟩
  · have hv : ¬ a.valid := by intro h; unfold chk at h1; rw [if_pos h] at h1; simp at h1
    rw [turn, if_neg hv]; rfl
  · have hv : a.valid := by
      by_cases h : a.valid
      · exact h
      · unfold chk at h1; rw [if_neg h] at h1; simp at h1
    obtain ⟨qw, q4⟩ := quart_w hq
    refine ⟨Nat, { inv := fun k => k ≤ quart q, slots := [(6, fun k => i64 k)], boxes := [(0, fun k => Enc.cs (rotN k a))], mu := fun k => quart q - k }, 0, ⟨⟨rfl, trivial⟩, trivial, (by repeat' first | exact trivial | rfl | apply And.intro), Nat.zero_le _⟩, ?_⟩
    intro k hk
    have hf := rotN_fits k ⟨hv.2.2.1, hv.2.2.2.1⟩
    refine ⟨by decide, by decide, ?_⟩
    refine ⟨fun h2 => ?_, fun h2 => ?_⟩
    · have h2 : decide ((k : Int) < (IntKind.i64.wrap (q.tmod 4 + 4)).tmod 4) = true := h2
      rw [qw] at h2
      simp at h2
      have e : IntKind.i64.wrap (0 - (rotN k a).im) = -(rotN k a).im := by unfold fits at hf; rw [wrap_id (by omega) (by omega)]; omega
      have e2 : Enc.cs (rotN (k + 1) a) = [i64 (IntKind.i64.wrap (0 - (rotN k a).im)), i64 (rotN k a).re, i64 (rotN k a).den] := by rw [e, ← rot_rotN]; rfl
      refine ⟨k + 1, by show _ < _; simp; omega, ⟨rfl, rfl⟩, ⟨by show PV.v (.int _ _) = _; rw [succ_w (by omega)], trivial⟩, trivial, ?_, h2⟩
      refine ⟨?_, rfl, trivial⟩
      show _ = mapP (Enc.cs (rotN (k + 1) a))
      rw [e2]; rfl
    · have h2 : decide ((k : Int) < (IntKind.i64.wrap (q.tmod 4 + 4)).tmod 4) = false := h2
      rw [qw] at h2
      simp at h2
      have : k = quart q := by simp only at hk; omega
      subst this
      rw [turn, if_pos hv]; rfl

theorem r_event (s : Spo) : Ret Try.prog 11 [spo s] [] (.p (bl (decide s.ok))) := by
  refine ret (fn := Try.f11) (by kernel_rfl) (by kernel_rfl) rfl ?_
  have bad : ¬ s.ok → SV.p (bl false) = SV.p (bl (decide s.ok)) := fun h => by rw [decide_eq_false h]
  have good : s.ok → SV.p (bl true) = SV.p (bl (decide s.ok)) := fun h => by rw [decide_eq_true h]
  refine ⟨fun h1 => ?_, fun h1 => ?_⟩
  rotate_left
  · exact bad fun h => by have := h.1; simp at h1; omega
  refine ⟨fun h2 => ?_, fun h2 => ?_⟩
  rotate_left
  · exact bad fun h => by have := h.2.1; simp at h2; omega
  refine ⟨fun h3 => ?_, fun h3 => ?_⟩
  rotate_left
  · exact bad fun h => by have := h.2.2.1; simp at h3; omega
  refine ⟨fun h4 => ?_, fun h4 => ?_⟩
  rotate_left
  · exact bad fun h => by have := h.2.2.2.1; simp at h4; omega
  refine ⟨fun h5 => ?_, fun h5 => ?_⟩
  · exact bad fun h => by have := h.2.2.2.2.1; simp at h5; omega
  simp at h1 h2 h3 h4 h5
  refine ⟨fun h6 => ?_, fun h6 => ?_⟩
  · have h6 : s.kind = 1 := by simpa using h6
    have k1 : s.ok ↔ (s.q = 0 ∧ s.v.valid ∧ ¬ s.v.zero) := by
      unfold Spo.ok
      constructor
      · intro h
        rcases h.2.2.2.2.2 with h | h
        · exact h.2
        · omega
      · intro h; exact ⟨h1, h2, h3, h4, h5, .inl ⟨h6, h⟩⟩
    refine ⟨fun h7 => ?_, fun h7 => ?_⟩
    rotate_left
    · exact bad fun h => by have := (k1.1 h).1; simp [this] at h7
    refine ⟨[], _, r_check s.v, rfl, ?_⟩
    refine ⟨fun h8 => ?_, fun h8 => ?_⟩
    rotate_left
    · exact bad fun h => by have := (k1.1 h).2.1; rw [chk, if_pos this] at h8; simp at h8
    have hv : s.v.valid := by
      by_cases h : s.v.valid
      · exact h
      · rw [chk, if_neg h] at h8; simp at h8
    refine ⟨[], _, r_zero s.v, rfl, ?_⟩
    simp at h7
    show SV.p (bl (!decide s.v.zero)) = _
    by_cases hz : s.v.zero
    · rw [decide_eq_true hz]; exact bad fun h => (k1.1 h).2.2 hz
    · rw [decide_eq_false hz]; exact good (k1.2 ⟨h7, hv, hz⟩)
  · have h6 : s.kind ≠ 1 := by simpa using h6
    have fin : (s.kind = 2 ∨ s.kind = 3) → (s.ok ↔ (s.v = c0 ∧ 0 ≤ s.q ∧ s.q ≤ 3)) := fun hk => by
      unfold Spo.ok
      constructor
      · intro h
        rcases h.2.2.2.2.2 with h | h
        · omega
        · exact h.2
      · intro h; exact ⟨h1, h2, h3, h4, h5, .inr ⟨hk, h⟩⟩
    have rest : (s.kind = 2 ∨ s.kind = 3) → ∀ b : Bool, b = (decide (s.v = c0) && decide (0 ≤ s.q) && decide (s.q ≤ 3)) → SV.p (bl b) = SV.p (bl (decide s.ok)) := fun hk b hb => by
      rw [hb]; congr 3
      rw [Bool.eq_iff_iff]
      simp only [Bool.and_eq_true, decide_eq_true_eq]
      rw [fin hk]
      constructor
      · rintro ⟨⟨a, b⟩, c⟩; exact ⟨a, b, c⟩
      · rintro ⟨a, b, c⟩; exact ⟨⟨a, b⟩, c⟩
    have ev : eqPL [i64 s.v.re, i64 s.v.im, i64 s.v.den] [i64 0, i64 0, i64 0] = decide (s.v = c0) := eqPL_cx s.v c0
    refine ⟨fun h7 => ?_, fun h7 => ?_⟩
    focus
      have hk : s.kind = 2 ∨ s.kind = 3 := .inl (by simpa using h7)
      refine ⟨fun _ => ?_, fun h => absurd (h7.symm.trans h) (by decide)⟩
    rotate_left
    refine ⟨fun h8 => ?_, fun h8 => ?_⟩
    rotate_left
    · refine bad fun h => ?_
      have a1 : s.kind ≠ 2 := by simpa using h7
      have a2 : s.kind ≠ 3 := by simpa using h8
      rcases h.2.2.2.2.2 with h | h <;> omega
    rotate_left
    focus
      have hk : s.kind = 2 ∨ s.kind = 3 := .inr (by simpa using h8)
    all_goals
      refine ⟨fun e1 => ?_, fun e1 => ?_⟩
      rotate_left
      focus
        have e1 : eqPL [i64 s.v.re, i64 s.v.im, i64 s.v.den] [i64 0, i64 0, i64 0] = false := e1
        rw [ev] at e1
        exact rest hk false (by rw [e1]; rfl)
      have e1 : eqPL [i64 s.v.re, i64 s.v.im, i64 s.v.den] [i64 0, i64 0, i64 0] = true := e1
      rw [ev] at e1
      refine ⟨fun e2 => ?_, fun e2 => ?_⟩
      rotate_left
      focus
        have e2 : decide (0 ≤ s.q) = false := by simpa using e2
        exact rest hk false (by rw [e1, e2]; rfl)
      have e2 : decide (0 ≤ s.q) = true := by simpa using e2
      exact rest hk (decide (s.q ≤ 3)) (by rw [e1, e2]; rfl)

theorem r_number (s : Spo) (t : Int) (hs : s.ok) (ht : 0 ≤ t ∧ t < 32) : Ret Try.prog 38 [spo s, i64 t] [] (.p (cx (num s t))) := by
  refine ret (fn := Try.f38) (by kernel_rfl) (by kernel_rfl) rfl ?_
  obtain ⟨s1, s2, s3, s4, s5, s6⟩ := hs
  refine ⟨[], _, r_one, rfl, ?_⟩
  refine ⟨fun h1 => ?_, fun h1 => ?_⟩
  rotate_left
  · simp at h1
    rw [num, if_pos (.inl h1)]; rfl
  refine ⟨fun h2 => ?_, fun h2 => ?_⟩
  · simp at h2
    rw [num, if_pos (.inr h2)]; rfl
  simp at h1 h2
  rw [num, if_neg (by omega)]
  refine ⟨fun h3 => ?_, fun h3 => ?_⟩
  · have h3 : s.kind = 1 := by simpa using h3
    rw [if_pos h3]; rfl
  have h3 : s.kind ≠ 1 := by simpa using h3
  rw [if_neg h3]
  have hq : 0 ≤ s.q ∧ s.q ≤ 3 := by rcases s6 with h | h; omega; exact h.2.2
  refine ⟨fun h4 => ?_, fun h4 => ?_⟩
  · have h4 : s.kind = 3 := by simpa using h4
    rw [if_pos h4]
    have hb : 0 ≤ s.q * (t - s.fr) ∧ s.q * (t - s.fr) ≤ 3 * 32 := ⟨Int.mul_nonneg hq.1 (by omega), Int.mul_le_mul hq.2 (by omega) (by omega) (by omega)⟩
    have e : IntKind.i64.wrap (s.q * IntKind.i64.wrap (t - s.fr)) = s.q * (t - s.fr) := by
      rw [wrap_id (n := t - s.fr) (by omega) (by omega), wrap_id (by omega) (by omega)]
    refine ⟨[], resC (turn one (s.q * (t - s.fr))), ?_, rfl, ?_⟩
    · show Ret Try.prog 14 [cx one, i64 (IntKind.i64.wrap (s.q * IntKind.i64.wrap (t - s.fr)))] [] _
      rw [e]
      exact r_turn one _ (by unfold I64; omega)
    · rw [turn_one]; rfl
  · have h4 : s.kind ≠ 3 := by simpa using h4
    rw [if_neg h4]
    refine ⟨[], _, r_turn one s.q (by unfold I64; omega), rfl, ?_⟩
    rw [turn_one]; rfl
end Go.Pv
