/- Contracts: closures of series compared, the code's: amplitudes, all. -/
import Derived.Test.YtilmadidjihfkaaKk
namespace Go.Pv
open Go.Vc
open Go.Proofs
set_option maxRecDepth 10000
set_option maxHeartbeats 4000000

theorem k_sameAmps (a b : List Vis) (ha : ∀ v ∈ a, Enc.ok v) (hb : ∀ v ∈ b, Enc.ok v) : Ret Try.prog 50 [sl a, sl b] [] (.p (bl (amps a b))) := by
  refine ret (fn := Try.f50) (by kernel_rfl) (by kernel_rfl) rfl ?_
  refine ⟨Nat, { inv := fun i => i ≤ 8 ∧ (∀ i' : Nat, i' < i → ∀ j k n : Nat, i' < j → j < k → k < n → n < 8 → am2 a b i' j k n = true), slots := [(9, fun i => i64 i)],  mu := fun i => 8 - i }, 0, ⟨⟨rfl, trivial⟩, trivial, (by repeat' first | exact trivial | rfl | apply And.intro), Nat.zero_le _, (fun i' h => absurd h (Nat.not_lt_zero _))⟩, ?_⟩
  intro i ⟨hi, hI⟩
  refine ⟨fun h1 => ?_, fun h1 => ?_⟩
  · simp at h1
    have h1 : i < 8 := by omega
    refine ⟨Nat, { inv := fun j => i + 1 ≤ j ∧ j ≤ 8 ∧ ∀ j' : Nat, i < j' → j' < j → ∀ k n : Nat, j' < k → k < n → n < 8 → am2 a b i j' k n = true, slots := [(6, fun b => i64 b)], mu := fun b => 8 - b }, i + 1, ⟨⟨by show PV.v (.int _ _) = _; rw [succ_w (by omega)], trivial⟩, trivial, (by repeat' first | exact trivial | rfl | apply And.intro), Nat.le_refl _, by show i + 1 ≤ 8; omega, fun j' h1 h2 => by omega⟩, ?_⟩
    intro j ⟨hj1, hj2, hJ⟩
    refine ⟨fun h2 => ?_, fun h2 => ?_⟩
    · simp at h2
      have h2 : j < 8 := by omega
      refine ⟨Nat, { inv := fun k => j + 1 ≤ k ∧ k ≤ 8 ∧ ∀ k' : Nat, j < k' → k' < k → ∀ n : Nat, k' < n → n < 8 → am2 a b i j k' n = true, slots := [(7, fun b => i64 b)], mu := fun b => 8 - b }, j + 1, ⟨⟨by show PV.v (.int _ _) = _; rw [succ_w (by omega)], trivial⟩, trivial, (by repeat' first | exact trivial | rfl | apply And.intro), Nat.le_refl _, by show j + 1 ≤ 8; omega, fun j' h1 h2 => by omega⟩, ?_⟩
      intro k ⟨hk1, hk2, hK⟩
      refine ⟨fun h3 => ?_, fun h3 => ?_⟩
      · simp at h3
        have h3 : k < 8 := by omega
        refine ⟨Nat, { inv := fun n => k + 1 ≤ n ∧ n ≤ 8 ∧ ∀ n' : Nat, k < n' → n' < n → am2 a b i j k n' = true, slots := [(8, fun b => i64 b)], mu := fun b => 8 - b }, k + 1, ⟨⟨by show PV.v (.int _ _) = _; rw [succ_w (by omega)], trivial⟩, trivial, (by repeat' first | exact trivial | rfl | apply And.intro), Nat.le_refl _, by show k + 1 ≤ 8; omega, fun j' h1 h2 => by omega⟩, ?_⟩
        intro n ⟨hn1, hn2, hN⟩
        refine ⟨fun h4 => ?_, fun h4 => ?_⟩
        · simp at h4
          have h4 : n < 8 := by omega
          have bad : am2 a b i j k n = false → amps a b = false := amps_bad (by omega) (by omega) (by omega) h4
          refine ⟨[], _, k_sameAmp a b i j k n ha hb, rfl, ?_⟩
          refine ⟨fun h5 => ?_, fun h5 => ?_⟩
          rotate_left
          · have h5 : amB a b i j k n = false := by simpa using h5
            rw [bad (by rw [am2, h5]; rfl)]; rfl
          have h5 : amB a b i j k n = true := by simpa using h5
          refine ⟨[], _, k_sameAmp a b i k n j ha hb, rfl, ?_⟩
          refine ⟨fun h6 => ?_, fun h6 => ?_⟩
          · have h6 : amB a b i k n j = false := by simpa using h6
            rw [bad (by rw [am2, h6, Bool.and_false])]; rfl
          have h6 : amB a b i k n j = true := by simpa using h6
          refine ⟨n + 1, by show _ < _; simp; omega, ⟨rfl, rfl⟩, ⟨by show PV.v (.int _ _) = _; rw [succ_w (by omega)], trivial⟩, trivial, (by repeat' first | exact trivial | rfl | apply And.intro), by show k + 1 ≤ n + 1; omega, by show n + 1 ≤ 8; omega, fun n' q1 q2 => ?_⟩
          by_cases e : n' = n
          · subst e; rw [am2, h5, h6]; rfl
          · exact hN n' q1 (by omega)
        · simp at h4
          have h4 : n = 8 := by omega
          subst h4
          refine ⟨k + 1, by show _ < _; simp; omega, ⟨rfl, rfl⟩, ⟨by show PV.v (.int _ _) = _; rw [succ_w (by omega)], trivial⟩, trivial, (by repeat' first | exact trivial | rfl | apply And.intro), by show j + 1 ≤ k + 1; omega, by show k + 1 ≤ 8; omega, fun k' q1 q2 => ?_⟩
          by_cases e : k' = k
          · subst e; exact hN
          · exact hK k' q1 (by omega)
      · simp at h3
        have h3 : k = 8 := by omega
        subst h3
        refine ⟨j + 1, by show _ < _; simp; omega, ⟨rfl, rfl⟩, ⟨by show PV.v (.int _ _) = _; rw [succ_w (by omega)], trivial⟩, trivial, (by repeat' first | exact trivial | rfl | apply And.intro), by show i + 1 ≤ j + 1; omega, by show j + 1 ≤ 8; omega, fun j' q1 q2 => ?_⟩
        by_cases e : j' = j
        · subst e; exact fun k n r1 r2 r3 => hK k r1 (by omega) n r2 r3
        · exact hJ j' q1 (by omega)
    · simp at h2
      have h2 : j = 8 := by omega
      subst h2
      refine ⟨i + 1, by show _ < _; simp; omega, ⟨rfl, rfl⟩, ⟨by show PV.v (.int _ _) = _; rw [succ_w (by omega)], trivial⟩, trivial, (by repeat' first | exact trivial | rfl | apply And.intro), h1, fun i' q => ?_⟩
      by_cases e : i' = i
      · subst e; exact fun j k n r0 r1 r2 r3 => hJ j r0 (by omega) k n r1 r2 r3
      · exact hI i' (by omega)
  · simp at h1
    have h1 : i = 8 := by omega
    subst h1
    rw [amps_all fun i j k n r0 r1 r2 r3 => hI i (by omega) j k n r0 r1 r2 r3]; rfl

theorem first_bad {s : List (List Vis)} (h : ¬ ∀ l ∈ s, ck27 l = 0) : ∃ (k : Nat) (hk : k < s.length), (∀ l ∈ s.take k, ck27 l = 0) ∧ ck27 s[k] ≠ 0 := by
  induction s with
  | nil => exact absurd (fun l hl => by cases hl) h
  | cons x s ih =>
    by_cases e : ck27 x = 0
    · have : ¬ ∀ l ∈ s, ck27 l = 0 := fun hh => h (fun l hl => by rcases List.mem_cons.1 hl with rfl | hl; exact e; exact hh l hl)
      obtain ⟨k, hk, h1, h2⟩ := ih this
      refine ⟨k + 1, by simpa using hk, fun l hl => ?_, by simpa using h2⟩
      rw [List.take_succ_cons] at hl
      rcases List.mem_cons.1 hl with rfl | hl
      · exact e
      · exact h1 l hl
    · exact ⟨0, by simp, by simp, by simpa using e⟩

theorem ck35_rows {s : List (List Vis)} (h : ck35 s = 0) : ∀ l ∈ s, ck27 l = 0 := by
  unfold ck35 at h
  split at h
  · cases h
  · split at h
    · rename_i h'; exact absurd h h'
    · rename_i h'
      have h' : ferr s = 0 := by simpa using h'
      intro l hl
      by_cases e : ∀ l ∈ s, ck27 l = 0
      · exact e l hl
      · exfalso
        obtain ⟨k, hk, h1, h2⟩ : ∃ (k : Nat) (hk : k < s.length), (∀ l ∈ s.take k, ck27 l = 0) ∧ ck27 s[k] ≠ 0 := first_bad e
        exact h2 (by rw [← ferr_bad hk h1 h2]; exact h')

theorem ck35_bas {s : List (List Vis)} (h : ck35 s = 0) {i j : Nat} (hi : i < s.length) (hj : j < s.length) : bas s[i] s[j] = true := by
  unfold ck35 at h
  split at h
  · cases h
  · split at h
    · rename_i h'; exact absurd h h'
    · split at h
      · rename_i h'
        rw [List.all_eq_true] at h'
        have a1 := h' s[i] (List.getElem_mem hi)
        have a2 := h' s[j] (List.getElem_mem hj)
        unfold bas at a1 a2 ⊢
        simp only [beq_iff_eq, decide_eq_true_eq] at a1 a2 ⊢
        rw [a1, a2]
      · cases h

theorem bas_trans3 {a b c d : List Vis} (h1 : bas a b = true) (h2 : bas b c = true) (h3 : bas c d = true) : bas a d = true := by
  unfold bas at *
  simp only [beq_iff_eq, decide_eq_true_eq] at *
  rw [h1, h2, h3]

theorem k_alike (a b : List (List Vis)) (ha : ∀ l ∈ a, ∀ v ∈ l, Enc.ok v) (hb : ∀ l ∈ b, ∀ v ∈ l, Enc.ok v) : Ret Try.prog 24 [sl a, sl b] [] (.tup [.p (bl (alike35 a b).1), .p (i64 (alike35 a b).2)]) := by
  refine ret (fn := Try.f24) (by kernel_rfl) (by kernel_rfl) rfl ?_
  refine ⟨[], _, k_check35 a ha, rfl, ?_⟩
  refine ⟨fun h1 => ?_, fun h1 => ?_⟩
  · simp at h1
    rw [alike35, if_pos h1]; rfl
  have h1 : ck35 a = 0 := by simpa using h1
  refine ⟨[], _, k_check35 b hb, rfl, ?_⟩
  refine ⟨fun h2 => ?_, fun h2 => ?_⟩
  · simp at h2
    rw [alike35, if_neg (by simp [h1]), if_pos h2]; rfl
  have h2 : ck35 b = 0 := by simpa using h2
  have hn := ck35_len h1
  refine ⟨fun h3 => ?_, fun h3 => ?_⟩
  rotate_left
  · rw [alike35_len h1 h2 (by intro e; simp [e] at h3)]; rfl
  have h3 : a.length = b.length := by simp at h3; omega
  refine ⟨fun h4 => ?_, fun h4 => ?_⟩
  focus
    have h4 : 0 < a.length := by simpa using h4
    have h4' : 0 < b.length := by omega
    refine ⟨0, rfl, h4, by decide, _, idx h4, rfl, ?_⟩
    refine ⟨0, rfl, h4', by decide, _, idx h4', rfl, ?_⟩
    refine ⟨_, k_bas a[0] b[0] (by have := (ck27_0 (ck35_rows h1 _ (List.getElem_mem h4))).1; omega), rfl, ?_⟩
    refine ⟨fun h5 => ?_, fun h5 => ?_⟩
    · have h5 : bas a[0] b[0] = false := by simpa using h5
      rw [alike35_bad h1 h2 ⟨0, h4, h4', .inl h5⟩]; rfl
    have h5 : bas a[0] b[0] = true := by simpa using h5
    have hbas : ∀ (t : Nat) (ht : t < a.length) (ht' : t < b.length), bas a[t] b[t] = true := fun t ht ht' => bas_trans3 (ck35_bas h1 ht h4) h5 (ck35_bas h2 h4' ht')
  rotate_left
  focus
    have h4 : a.length = 0 := by simp at h4; simp [h4]
    have hbas : ∀ (t : Nat) (ht : t < a.length) (ht' : t < b.length), bas a[t] b[t] = true := fun t ht ht' => by omega
  all_goals
    refine ⟨Nat, { inv := fun k => k ≤ a.length ∧ (∀ (t : Nat) (ht : t < a.length) (ht' : t < b.length), t < k → clos a[t] b[t] = true), slots := [(44, fun k => i64 k)],  mu := fun k => a.length - k }, 0, ⟨⟨rfl, trivial⟩, trivial, (by repeat' first | exact trivial | rfl | apply And.intro), Nat.zero_le _, (fun t _ _ h => absurd h (Nat.not_lt_zero _))⟩, ?_⟩
    intro k ⟨hk, hall⟩
    refine ⟨fun h6 => ?_, fun h6 => ?_⟩
    · simp at h6
      have h6' : k < b.length := by omega
      refine ⟨k, rfl, h6, by decide, _, idx h6, rfl, ?_⟩
      refine ⟨k, rfl, h6', by decide, _, idx h6', rfl, ?_⟩
      refine ⟨[], _, k_samePh a[k] b[k] (ha _ (List.getElem_mem h6)) (hb _ (List.getElem_mem h6')) (ck35_rows h1 _ (List.getElem_mem h6)), rfl, ?_⟩
      refine ⟨fun h => absurd h (by first | decide | simp), fun _ => ?_⟩
      refine ⟨fun h7 => ?_, fun h7 => ?_⟩
      rotate_left
      · have h7 : phB a[k] b[k] = false := by simpa using h7
        rw [alike35_bad h1 h2 ⟨k, h6, h6', .inr (by rw [clos, h7]; rfl)⟩]; rfl
      have h7 : phB a[k] b[k] = true := by simpa using h7
      refine ⟨k, rfl, h6', by decide, _, idx h6', rfl, ?_⟩
      refine ⟨[], _, k_sameAmps a[k] b[k] (ha _ (List.getElem_mem h6)) (hb _ (List.getElem_mem h6')), rfl, ?_⟩
      refine ⟨fun h8 => ?_, fun h8 => ?_⟩
      · have h8 : amps a[k] b[k] = false := by simpa using h8
        rw [alike35_bad h1 h2 ⟨k, h6, h6', .inr (by rw [clos, h8, Bool.and_false])⟩]; rfl
      have h8 : amps a[k] b[k] = true := by simpa using h8
      refine ⟨k + 1, by show _ < _; simp; omega, ⟨rfl, rfl⟩, ⟨by show PV.v (.int _ _) = _; rw [succ_w (by omega)], trivial⟩, trivial, (by repeat' first | exact trivial | rfl | apply And.intro), h6, fun t ht ht' q => ?_⟩
      by_cases e : t = k
      · subst e; rw [clos, h7, h8]; rfl
      · exact hall t ht ht' (by omega)
    · simp at h6
      have : k = a.length := by omega
      subst this
      rw [alike35_all h1 h2 h3 fun t ht ht' => ⟨hbas t ht ht', hall t ht ht' ht⟩]; rfl
end Go.Pv
