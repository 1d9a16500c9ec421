/- Contracts of chains: valid stages, their matrices, their inverses. -/
import Derived.Test.YtfbcedhbeebipaaNa
namespace Go.Pv
open Go.Vc
open Go.Proofs
set_option maxRecDepth 10000

theorem ml {n : Nat} (h : n ≤ maxLen) : n ≤ 9223372036854775807 := by simpa only [maxLen] using h

theorem k_valid1 (s : Stg) (n m : Int) (hs : Enc.ok s) : Ret Try.prog 75 [stg s, i64 n, i64 m] [] (.p (bl (decide (gainsOk s.gains n)))) := by
  refine ret (fn := Try.f75) (by kernel_rfl) (by kernel_rfl) rfl ?_
  refine ⟨[], _, k_gains s.gains n hs.2.1.2 hs.2.1.1, rfl, ?_⟩
  rfl

theorem k_valid2 (s : Stg) (n m : Int) (hs : Enc.ok s) : Ret Try.prog 79 [stg s, i64 n, i64 m] [] (.p (bl (decide (∀ r ∈ s.band, gainsOk r m)))) := by
  obtain ⟨_, _, ⟨hl, hb⟩, _⟩ := hs
  have hl := ml hl
  have bad : ¬ (∀ r ∈ s.band, gainsOk r m) → SV.p (bl false) = SV.p (bl (decide (∀ r ∈ s.band, gainsOk r m))) := fun h => by rw [decide_eq_false h]
  refine ret (fn := Try.f79) (by kernel_rfl) (by kernel_rfl) rfl ?_
  refine ⟨Nat, { inv := fun k => k ≤ s.band.length ∧ (∀ r ∈ s.band.take k, gainsOk r m), slots := [(12, fun k => i64 k)],  mu := fun k => s.band.length - k }, 0, ⟨⟨rfl, trivial⟩, trivial, (by repeat' first | exact trivial | rfl | apply And.intro), Nat.zero_le _, by simp⟩, ?_⟩
  intro k ⟨hk, hall⟩
  refine ⟨fun h2 => ?_, fun h2 => ?_⟩
  · simp at h2
    refine ⟨k, rfl, h2, by decide, _, idx h2, rfl, ?_⟩
    have hr := hb _ (List.getElem_mem h2)
    refine ⟨[], _, k_gains s.band[k] m hr.2 hr.1, rfl, ?_⟩
    refine ⟨fun h3 => ?_, fun h3 => ?_⟩
    · simp at h3
      exact bad fun h => h3 (h _ (List.getElem_mem h2))
    · simp at h3
      refine ⟨k + 1, by show _ < _; simp; omega, ⟨rfl, rfl⟩, ⟨by show PV.v (.int _ _) = _; rw [succ_w3 (by omega)], trivial⟩, trivial, (by repeat' first | exact trivial | rfl | apply And.intro), h2, ?_⟩
      intro c hc
      rw [List.take_succ_eq_append_getElem h2, List.mem_append] at hc
      rcases hc with hc | hc
      · exact hall c hc
      · simp at hc; subst hc; exact h3
  · simp at h2
    have : k = s.band.length := by omega
    subst this
    rw [List.take_length] at hall
    show SV.p (bl true) = _
    rw [decide_eq_true hall]

theorem k_valid3 (s : Stg) (n m : Int) (hs : Enc.ok s) : Ret Try.prog 83 [stg s, i64 n, i64 m] [] (.p (bl (decide (regs s.mats)))) := by
  refine ret (fn := Try.f83) (by kernel_rfl) (by kernel_rfl) rfl ?_
  refine ⟨[], _, k_regular s.mats hs.2.2.2.1.2 hs.2.2.2.1.1, rfl, ?_⟩
  rfl

theorem k_valid4 (s : Stg) (n m : Int) (hs : Enc.ok s) : Ret Try.prog 87 [stg s, i64 n, i64 m] [] (.p (bl (decide (∀ t ∈ s.turns, 0 ≤ t ∧ t ≤ 3)))) := by
  have hl := ml hs.2.2.2.2.1.1
  have bad : ¬ (∀ t ∈ s.turns, 0 ≤ t ∧ t ≤ 3) → SV.p (bl false) = SV.p (bl (decide (∀ t ∈ s.turns, 0 ≤ t ∧ t ≤ 3))) := fun h => by rw [decide_eq_false h]
  refine ret (fn := Try.f87) (by kernel_rfl) (by kernel_rfl) rfl ?_
  refine ⟨Nat, { inv := fun k => k ≤ s.turns.length ∧ (∀ t ∈ s.turns.take k, 0 ≤ t ∧ t ≤ 3), slots := [(12, fun k => i64 k)],  mu := fun k => s.turns.length - k }, 0, ⟨⟨rfl, trivial⟩, trivial, (by repeat' first | exact trivial | rfl | apply And.intro), Nat.zero_le _, by simp⟩, ?_⟩
  intro k ⟨hk, hall⟩
  refine ⟨fun h2 => ?_, fun h2 => ?_⟩
  · simp at h2
    refine ⟨k, rfl, h2, by decide, _, idx h2, rfl, ?_⟩
    refine ⟨fun h3 => ?_, fun h3 => ?_⟩
    rotate_left
    · simp at h3
      exact bad fun h => by have := (h _ (List.getElem_mem h2)).1; omega
    simp at h3
    refine ⟨fun h4 => ?_, fun h4 => ?_⟩
    · simp at h4
      exact bad fun h => by have := (h _ (List.getElem_mem h2)).2; omega
    · simp at h4
      refine ⟨k + 1, by show _ < _; simp; omega, ⟨rfl, rfl⟩, ⟨by show PV.v (.int _ _) = _; rw [succ_w3 (by omega)], trivial⟩, trivial, (by repeat' first | exact trivial | rfl | apply And.intro), h2, ?_⟩
      intro c hc
      rw [List.take_succ_eq_append_getElem h2, List.mem_append] at hc
      rcases hc with hc | hc
      · exact hall c hc
      · simp at hc; subst hc; exact ⟨h3, h4⟩
  · simp at h2
    have : k = s.turns.length := by omega
    subst this
    rw [List.take_length] at hall
    show SV.p (bl true) = _
    rw [decide_eq_true hall]

theorem k_valid5 (s : Stg) (n m : Int) (hs : Enc.ok s) : Ret Try.prog 91 [stg s, i64 n, i64 m] [] (.p (bl (decide (∀ r ∈ s.full, (r.length : Int) = m ∧ regs r)))) := by
  obtain ⟨hl, hb⟩ := hs.2.2.2.2.2
  have hl := ml hl
  have bad : ¬ (∀ r ∈ s.full, (r.length : Int) = m ∧ regs r) → SV.p (bl false) = SV.p (bl (decide (∀ r ∈ s.full, (r.length : Int) = m ∧ regs r))) := fun h => by rw [decide_eq_false h]
  refine ret (fn := Try.f91) (by kernel_rfl) (by kernel_rfl) rfl ?_
  refine ⟨Nat, { inv := fun k => k ≤ s.full.length ∧ (∀ r ∈ s.full.take k, (r.length : Int) = m ∧ regs r), slots := [(12, fun k => i64 k)],  mu := fun k => s.full.length - k }, 0, ⟨⟨rfl, trivial⟩, trivial, (by repeat' first | exact trivial | rfl | apply And.intro), Nat.zero_le _, by simp⟩, ?_⟩
  intro k ⟨hk, hall⟩
  refine ⟨fun h2 => ?_, fun h2 => ?_⟩
  · simp at h2
    refine ⟨k, rfl, h2, by decide, _, idx h2, rfl, ?_⟩
    have hr := hb _ (List.getElem_mem h2)
    refine ⟨fun h3 => ?_, fun h3 => ?_⟩
    rotate_left
    · simp at h3
      exact bad fun h => h3 (h _ (List.getElem_mem h2)).1
    simp at h3
    refine ⟨[], _, k_regular s.full[k] hr.2 hr.1, rfl, ?_⟩
    refine ⟨fun h4 => ?_, fun h4 => ?_⟩
    · simp at h4
      exact bad fun h => h4 (h _ (List.getElem_mem h2)).2
    · simp at h4
      refine ⟨k + 1, by show _ < _; simp; omega, ⟨rfl, rfl⟩, ⟨by show PV.v (.int _ _) = _; rw [succ_w3 (by omega)], trivial⟩, trivial, (by repeat' first | exact trivial | rfl | apply And.intro), h2, ?_⟩
      intro c hc
      rw [List.take_succ_eq_append_getElem h2, List.mem_append] at hc
      rcases hc with hc | hc
      · exact hall c hc
      · simp at hc; subst hc; exact ⟨h3, h4⟩
  · simp at h2
    have : k = s.full.length := by omega
    subst this
    rw [List.take_length] at hall
    show SV.p (bl true) = _
    rw [decide_eq_true hall]

def szs (s : Stg) : Nat → Nat
  | 0 => s.gains.length
  | 1 => s.band.length
  | 2 => s.mats.length
  | 3 => s.turns.length
  | _ => s.full.length

theorem sizes_of {s : Stg} {n : Int} {c : Nat} (hc : s.kind = (c + 1 : Nat)) (h4 : c < 5) (h1 : ∀ j, j < 5 → j ≠ c → szs s j = 0) (h2 : (szs s c : Int) = n) : s.sizes n := by
  have key : ∀ j, j < 5 → (szs s j : Int) = (if s.kind = ((j + 1 : Nat) : Int) then n else 0) := fun j hj => by
    by_cases e : j = c
    · subst e; rw [if_pos hc]; exact h2
    · rw [if_neg (by rw [hc]; omega), h1 j hj e]; rfl
  exact ⟨key 0 (by decide), key 1 (by decide), key 2 (by decide), key 3 (by decide), key 4 (by decide)⟩

theorem sizes_bad {s : Stg} {n : Int} {j : Nat} (hj : j < 5) (h : s.kind ≠ (j + 1 : Nat)) (hz : szs s j ≠ 0) : ¬ s.sizes n := by
  rintro ⟨z1, z2, z3, z4, z5⟩
  obtain rfl | rfl | rfl | rfl | rfl : j = 0 ∨ j = 1 ∨ j = 2 ∨ j = 3 ∨ j = 4 := by omega
  · rw [if_neg (show ¬ s.kind = 1 by omega)] at z1; exact hz (by simpa [szs] using z1)
  · rw [if_neg (show ¬ s.kind = 2 by omega)] at z2; exact hz (by simpa [szs] using z2)
  · rw [if_neg (show ¬ s.kind = 3 by omega)] at z3; exact hz (by simpa [szs] using z3)
  · rw [if_neg (show ¬ s.kind = 4 by omega)] at z4; exact hz (by simpa [szs] using z4)
  · rw [if_neg (show ¬ s.kind = 5 by omega)] at z5; exact hz (by simpa [szs] using z5)

theorem sizes_own {s : Stg} {n : Int} {c : Nat} (hc : s.kind = (c + 1 : Nat)) (h4 : c < 5) (h : s.sizes n) : (szs s c : Int) = n := by
  obtain ⟨z1, z2, z3, z4, z5⟩ := h
  obtain rfl | rfl | rfl | rfl | rfl : c = 0 ∨ c = 1 ∨ c = 2 ∨ c = 3 ∨ c = 4 := by omega
  · rw [if_pos (show s.kind = 1 by omega)] at z1; exact z1
  · rw [if_pos (show s.kind = 2 by omega)] at z2; exact z2
  · rw [if_pos (show s.kind = 3 by omega)] at z3; exact z3
  · rw [if_pos (show s.kind = 4 by omega)] at z4; exact z4
  · rw [if_pos (show s.kind = 5 by omega)] at z5; exact z5

theorem none_step {s : Stg} {c k : Nat} (h : ∀ j, j < k → j ≠ c → szs s j = 0) (hk : k ≠ c → szs s k = 0) : ∀ j, j < k + 1 → j ≠ c → szs s j = 0 := fun j hj hn => by
  rcases Nat.lt_succ_iff_lt_or_eq.mp hj with h' | rfl
  · exact h j h' hn
  · exact hk hn

theorem k_valid_1 (s : Stg) (n m : Int) (hs : Enc.ok s) (ek : s.kind = 1) : Ret Try.prog 35 [stg s, i64 n, i64 m] [] (.p (bl (decide (s.good n m)))) := by
  have bad : ¬ s.good n m → SV.p (bl false) = SV.p (bl (decide (s.good n m))) := fun h => by rw [decide_eq_false h]
  have ekn : s.kind = ((0 + 1 : Nat) : Int) := ek
  refine ret (fn := Try.f35) (by kernel_rfl) (by kernel_rfl) rfl ?_
  refine ⟨[], _, (show Ret Try.prog 38 [u8 s.kind] [] (.tup [.p (.agg kd1), .p (bl true)]) by rw [ek]; exact k_ofE rfl rfl), rfl, ?_⟩
  refine ⟨fun h => absurd h (by first | decide | simp), fun _ => ?_⟩
  refine ⟨[], _, k_kinds, rfl, ?_⟩
  refine ⟨Nat, { inv := fun k => k ≤ 5 ∧ ∀ j, j < k → j ≠ 0 → szs s j = 0, slots := [(20, fun k => i64 k)], mu := fun k => 5 - k }, 0, ⟨⟨rfl, trivial⟩, trivial, (by repeat' first | exact trivial | rfl | apply And.intro), Nat.zero_le _, fun j h => absurd h (by omega)⟩, ?_⟩
  intro k ⟨hk, hn⟩
  obtain rfl | rfl | rfl | rfl | rfl | rfl : k = 0 ∨ k = 1 ∨ k = 2 ∨ k = 3 ∨ k = 4 ∨ k = 5 := by omega
  · refine ⟨fun _ => ?_, fun h => absurd h (by first | decide | simp)⟩
    refine ⟨0, rfl, by decide, _, rfl, rfl, ?_⟩
    refine ⟨fun h => absurd ek (by simp at h; omega), fun _ => ?_⟩
    exact ⟨1, by show _ < _; simp, ⟨rfl, rfl⟩, ⟨rfl, trivial⟩, trivial, (by repeat' first | exact trivial | rfl | apply And.intro), by decide, none_step hn fun h => absurd rfl h⟩
  · refine ⟨fun _ => ?_, fun h => absurd h (by first | decide | simp)⟩
    refine ⟨1, rfl, by decide, _, rfl, rfl, ?_⟩
    refine ⟨fun _ => ?_, fun h => absurd ek (by simp at h; omega)⟩
    refine ⟨[], _, k_size2 s, rfl, ?_⟩
    refine ⟨fun h => ?_, fun h => ?_⟩
    · simp at h
      exact bad fun q => sizes_bad (s := s) (j := 1) (by decide) (by omega) (by show _ ≠ 0; intro e; simp [szs] at e; exact h e) q.2.1
    · simp at h
      exact ⟨2, by show _ < _; simp, ⟨rfl, rfl⟩, ⟨rfl, trivial⟩, trivial, (by repeat' first | exact trivial | rfl | apply And.intro), by decide, none_step hn fun _ => by simp [szs, h]⟩
  · refine ⟨fun _ => ?_, fun h => absurd h (by first | decide | simp)⟩
    refine ⟨2, rfl, by decide, _, rfl, rfl, ?_⟩
    refine ⟨fun _ => ?_, fun h => absurd ek (by simp at h; omega)⟩
    refine ⟨[], _, k_size3 s, rfl, ?_⟩
    refine ⟨fun h => ?_, fun h => ?_⟩
    · simp at h
      exact bad fun q => sizes_bad (s := s) (j := 2) (by decide) (by omega) (by show _ ≠ 0; intro e; simp [szs] at e; exact h e) q.2.1
    · simp at h
      exact ⟨3, by show _ < _; simp, ⟨rfl, rfl⟩, ⟨rfl, trivial⟩, trivial, (by repeat' first | exact trivial | rfl | apply And.intro), by decide, none_step hn fun _ => by simp [szs, h]⟩
  · refine ⟨fun _ => ?_, fun h => absurd h (by first | decide | simp)⟩
    refine ⟨3, rfl, by decide, _, rfl, rfl, ?_⟩
    refine ⟨fun _ => ?_, fun h => absurd ek (by simp at h; omega)⟩
    refine ⟨[], _, k_size4 s, rfl, ?_⟩
    refine ⟨fun h => ?_, fun h => ?_⟩
    · simp at h
      exact bad fun q => sizes_bad (s := s) (j := 3) (by decide) (by omega) (by show _ ≠ 0; intro e; simp [szs] at e; exact h e) q.2.1
    · simp at h
      exact ⟨4, by show _ < _; simp, ⟨rfl, rfl⟩, ⟨rfl, trivial⟩, trivial, (by repeat' first | exact trivial | rfl | apply And.intro), by decide, none_step hn fun _ => by simp [szs, h]⟩
  · refine ⟨fun _ => ?_, fun h => absurd h (by first | decide | simp)⟩
    refine ⟨4, rfl, by decide, _, rfl, rfl, ?_⟩
    refine ⟨fun _ => ?_, fun h => absurd ek (by simp at h; omega)⟩
    refine ⟨[], _, k_size5 s, rfl, ?_⟩
    refine ⟨fun h => ?_, fun h => ?_⟩
    · simp at h
      exact bad fun q => sizes_bad (s := s) (j := 4) (by decide) (by omega) (by show _ ≠ 0; intro e; simp [szs] at e; exact h e) q.2.1
    · simp at h
      exact ⟨5, by show _ < _; simp, ⟨rfl, rfl⟩, ⟨rfl, trivial⟩, trivial, (by repeat' first | exact trivial | rfl | apply And.intro), by decide, none_step hn fun _ => by simp [szs, h]⟩
  · refine ⟨fun h => absurd h (by first | decide | simp), fun _ => ?_⟩
    refine ⟨[], _, k_size1 s, rfl, ?_⟩
    refine ⟨fun h => ?_, fun h => ?_⟩
    · have h : ((szs s 0 : Int) == n) = true := h
      have own : (szs s 0 : Int) = n := by simpa using h
      have sz := sizes_of ekn (by decide) hn own
      refine ⟨[], _, k_valid1 s n m hs, rfl, ?_⟩
      show SV.p (bl (decide (gainsOk s.gains n))) = SV.p (bl (decide (s.good n m)))
      congr 3
      exact propext ⟨fun q => ⟨⟨by omega, by omega⟩, sz, by unfold Stg.own; rw [if_pos ek]; exact q.2⟩, fun q => by have ho := q.2.2; unfold Stg.own at ho; rw [if_pos ek] at ho; exact ⟨own, ho⟩⟩
    · have h : ((szs s 0 : Int) == n) = false := h
      simp at h
      exact bad fun q => h (sizes_own ekn (by decide) q.2.1)

theorem k_valid_2 (s : Stg) (n m : Int) (hs : Enc.ok s) (ek : s.kind = 2) : Ret Try.prog 35 [stg s, i64 n, i64 m] [] (.p (bl (decide (s.good n m)))) := by
  have bad : ¬ s.good n m → SV.p (bl false) = SV.p (bl (decide (s.good n m))) := fun h => by rw [decide_eq_false h]
  have ekn : s.kind = ((1 + 1 : Nat) : Int) := ek
  refine ret (fn := Try.f35) (by kernel_rfl) (by kernel_rfl) rfl ?_
  refine ⟨[], _, (show Ret Try.prog 38 [u8 s.kind] [] (.tup [.p (.agg kd2), .p (bl true)]) by rw [ek]; exact k_ofE rfl rfl), rfl, ?_⟩
  refine ⟨fun h => absurd h (by first | decide | simp), fun _ => ?_⟩
  refine ⟨[], _, k_kinds, rfl, ?_⟩
  refine ⟨Nat, { inv := fun k => k ≤ 5 ∧ ∀ j, j < k → j ≠ 1 → szs s j = 0, slots := [(20, fun k => i64 k)], mu := fun k => 5 - k }, 0, ⟨⟨rfl, trivial⟩, trivial, (by repeat' first | exact trivial | rfl | apply And.intro), Nat.zero_le _, fun j h => absurd h (by omega)⟩, ?_⟩
  intro k ⟨hk, hn⟩
  obtain rfl | rfl | rfl | rfl | rfl | rfl : k = 0 ∨ k = 1 ∨ k = 2 ∨ k = 3 ∨ k = 4 ∨ k = 5 := by omega
  · refine ⟨fun _ => ?_, fun h => absurd h (by first | decide | simp)⟩
    refine ⟨0, rfl, by decide, _, rfl, rfl, ?_⟩
    refine ⟨fun _ => ?_, fun h => absurd ek (by simp at h; omega)⟩
    refine ⟨[], _, k_size1 s, rfl, ?_⟩
    refine ⟨fun h => ?_, fun h => ?_⟩
    · simp at h
      exact bad fun q => sizes_bad (s := s) (j := 0) (by decide) (by omega) (by show _ ≠ 0; intro e; simp [szs] at e; exact h e) q.2.1
    · simp at h
      exact ⟨1, by show _ < _; simp, ⟨rfl, rfl⟩, ⟨rfl, trivial⟩, trivial, (by repeat' first | exact trivial | rfl | apply And.intro), by decide, none_step hn fun _ => by simp [szs, h]⟩
  · refine ⟨fun _ => ?_, fun h => absurd h (by first | decide | simp)⟩
    refine ⟨1, rfl, by decide, _, rfl, rfl, ?_⟩
    refine ⟨fun h => absurd ek (by simp at h; omega), fun _ => ?_⟩
    exact ⟨2, by show _ < _; simp, ⟨rfl, rfl⟩, ⟨rfl, trivial⟩, trivial, (by repeat' first | exact trivial | rfl | apply And.intro), by decide, none_step hn fun h => absurd rfl h⟩
  · refine ⟨fun _ => ?_, fun h => absurd h (by first | decide | simp)⟩
    refine ⟨2, rfl, by decide, _, rfl, rfl, ?_⟩
    refine ⟨fun _ => ?_, fun h => absurd ek (by simp at h; omega)⟩
    refine ⟨[], _, k_size3 s, rfl, ?_⟩
    refine ⟨fun h => ?_, fun h => ?_⟩
    · simp at h
      exact bad fun q => sizes_bad (s := s) (j := 2) (by decide) (by omega) (by show _ ≠ 0; intro e; simp [szs] at e; exact h e) q.2.1
    · simp at h
      exact ⟨3, by show _ < _; simp, ⟨rfl, rfl⟩, ⟨rfl, trivial⟩, trivial, (by repeat' first | exact trivial | rfl | apply And.intro), by decide, none_step hn fun _ => by simp [szs, h]⟩
  · refine ⟨fun _ => ?_, fun h => absurd h (by first | decide | simp)⟩
    refine ⟨3, rfl, by decide, _, rfl, rfl, ?_⟩
    refine ⟨fun _ => ?_, fun h => absurd ek (by simp at h; omega)⟩
    refine ⟨[], _, k_size4 s, rfl, ?_⟩
    refine ⟨fun h => ?_, fun h => ?_⟩
    · simp at h
      exact bad fun q => sizes_bad (s := s) (j := 3) (by decide) (by omega) (by show _ ≠ 0; intro e; simp [szs] at e; exact h e) q.2.1
    · simp at h
      exact ⟨4, by show _ < _; simp, ⟨rfl, rfl⟩, ⟨rfl, trivial⟩, trivial, (by repeat' first | exact trivial | rfl | apply And.intro), by decide, none_step hn fun _ => by simp [szs, h]⟩
  · refine ⟨fun _ => ?_, fun h => absurd h (by first | decide | simp)⟩
    refine ⟨4, rfl, by decide, _, rfl, rfl, ?_⟩
    refine ⟨fun _ => ?_, fun h => absurd ek (by simp at h; omega)⟩
    refine ⟨[], _, k_size5 s, rfl, ?_⟩
    refine ⟨fun h => ?_, fun h => ?_⟩
    · simp at h
      exact bad fun q => sizes_bad (s := s) (j := 4) (by decide) (by omega) (by show _ ≠ 0; intro e; simp [szs] at e; exact h e) q.2.1
    · simp at h
      exact ⟨5, by show _ < _; simp, ⟨rfl, rfl⟩, ⟨rfl, trivial⟩, trivial, (by repeat' first | exact trivial | rfl | apply And.intro), by decide, none_step hn fun _ => by simp [szs, h]⟩
  · refine ⟨fun h => absurd h (by first | decide | simp), fun _ => ?_⟩
    refine ⟨[], _, k_size2 s, rfl, ?_⟩
    refine ⟨fun h => ?_, fun h => ?_⟩
    · have h : ((szs s 1 : Int) == n) = true := h
      have own : (szs s 1 : Int) = n := by simpa using h
      have sz := sizes_of ekn (by decide) hn own
      refine ⟨[], _, k_valid2 s n m hs, rfl, ?_⟩
      show SV.p (bl (decide (∀ r ∈ s.band, gainsOk r m))) = SV.p (bl (decide (s.good n m)))
      congr 3
      exact propext ⟨fun q => ⟨⟨by omega, by omega⟩, sz, by unfold Stg.own; rw [if_neg (by omega), if_pos ek]; exact q⟩, fun q => by have ho := q.2.2; unfold Stg.own at ho; rw [if_neg (by omega), if_pos ek] at ho; exact ho⟩
    · have h : ((szs s 1 : Int) == n) = false := h
      simp at h
      exact bad fun q => h (sizes_own ekn (by decide) q.2.1)

theorem k_valid_3 (s : Stg) (n m : Int) (hs : Enc.ok s) (ek : s.kind = 3) : Ret Try.prog 35 [stg s, i64 n, i64 m] [] (.p (bl (decide (s.good n m)))) := by
  have bad : ¬ s.good n m → SV.p (bl false) = SV.p (bl (decide (s.good n m))) := fun h => by rw [decide_eq_false h]
  have ekn : s.kind = ((2 + 1 : Nat) : Int) := ek
  refine ret (fn := Try.f35) (by kernel_rfl) (by kernel_rfl) rfl ?_
  refine ⟨[], _, (show Ret Try.prog 38 [u8 s.kind] [] (.tup [.p (.agg kd3), .p (bl true)]) by rw [ek]; exact k_ofE rfl rfl), rfl, ?_⟩
  refine ⟨fun h => absurd h (by first | decide | simp), fun _ => ?_⟩
  refine ⟨[], _, k_kinds, rfl, ?_⟩
  refine ⟨Nat, { inv := fun k => k ≤ 5 ∧ ∀ j, j < k → j ≠ 2 → szs s j = 0, slots := [(20, fun k => i64 k)], mu := fun k => 5 - k }, 0, ⟨⟨rfl, trivial⟩, trivial, (by repeat' first | exact trivial | rfl | apply And.intro), Nat.zero_le _, fun j h => absurd h (by omega)⟩, ?_⟩
  intro k ⟨hk, hn⟩
  obtain rfl | rfl | rfl | rfl | rfl | rfl : k = 0 ∨ k = 1 ∨ k = 2 ∨ k = 3 ∨ k = 4 ∨ k = 5 := by omega
  · refine ⟨fun _ => ?_, fun h => absurd h (by first | decide | simp)⟩
    refine ⟨0, rfl, by decide, _, rfl, rfl, ?_⟩
    refine ⟨fun _ => ?_, fun h => absurd ek (by simp at h; omega)⟩
    refine ⟨[], _, k_size1 s, rfl, ?_⟩
    refine ⟨fun h => ?_, fun h => ?_⟩
    · simp at h
      exact bad fun q => sizes_bad (s := s) (j := 0) (by decide) (by omega) (by show _ ≠ 0; intro e; simp [szs] at e; exact h e) q.2.1
    · simp at h
      exact ⟨1, by show _ < _; simp, ⟨rfl, rfl⟩, ⟨rfl, trivial⟩, trivial, (by repeat' first | exact trivial | rfl | apply And.intro), by decide, none_step hn fun _ => by simp [szs, h]⟩
  · refine ⟨fun _ => ?_, fun h => absurd h (by first | decide | simp)⟩
    refine ⟨1, rfl, by decide, _, rfl, rfl, ?_⟩
    refine ⟨fun _ => ?_, fun h => absurd ek (by simp at h; omega)⟩
    refine ⟨[], _, k_size2 s, rfl, ?_⟩
    refine ⟨fun h => ?_, fun h => ?_⟩
    · simp at h
      exact bad fun q => sizes_bad (s := s) (j := 1) (by decide) (by omega) (by show _ ≠ 0; intro e; simp [szs] at e; exact h e) q.2.1
    · simp at h
      exact ⟨2, by show _ < _; simp, ⟨rfl, rfl⟩, ⟨rfl, trivial⟩, trivial, (by repeat' first | exact trivial | rfl | apply And.intro), by decide, none_step hn fun _ => by simp [szs, h]⟩
  · refine ⟨fun _ => ?_, fun h => absurd h (by first | decide | simp)⟩
    refine ⟨2, rfl, by decide, _, rfl, rfl, ?_⟩
    refine ⟨fun h => absurd ek (by simp at h; omega), fun _ => ?_⟩
    exact ⟨3, by show _ < _; simp, ⟨rfl, rfl⟩, ⟨rfl, trivial⟩, trivial, (by repeat' first | exact trivial | rfl | apply And.intro), by decide, none_step hn fun h => absurd rfl h⟩
  · refine ⟨fun _ => ?_, fun h => absurd h (by first | decide | simp)⟩
    refine ⟨3, rfl, by decide, _, rfl, rfl, ?_⟩
    refine ⟨fun _ => ?_, fun h => absurd ek (by simp at h; omega)⟩
    refine ⟨[], _, k_size4 s, rfl, ?_⟩
    refine ⟨fun h => ?_, fun h => ?_⟩
    · simp at h
      exact bad fun q => sizes_bad (s := s) (j := 3) (by decide) (by omega) (by show _ ≠ 0; intro e; simp [szs] at e; exact h e) q.2.1
    · simp at h
      exact ⟨4, by show _ < _; simp, ⟨rfl, rfl⟩, ⟨rfl, trivial⟩, trivial, (by repeat' first | exact trivial | rfl | apply And.intro), by decide, none_step hn fun _ => by simp [szs, h]⟩
  · refine ⟨fun _ => ?_, fun h => absurd h (by first | decide | simp)⟩
    refine ⟨4, rfl, by decide, _, rfl, rfl, ?_⟩
    refine ⟨fun _ => ?_, fun h => absurd ek (by simp at h; omega)⟩
    refine ⟨[], _, k_size5 s, rfl, ?_⟩
    refine ⟨fun h => ?_, fun h => ?_⟩
    · simp at h
      exact bad fun q => sizes_bad (s := s) (j := 4) (by decide) (by omega) (by show _ ≠ 0; intro e; simp [szs] at e; exact h e) q.2.1
    · simp at h
      exact ⟨5, by show _ < _; simp, ⟨rfl, rfl⟩, ⟨rfl, trivial⟩, trivial, (by repeat' first | exact trivial | rfl | apply And.intro), by decide, none_step hn fun _ => by simp [szs, h]⟩
  · refine ⟨fun h => absurd h (by first | decide | simp), fun _ => ?_⟩
    refine ⟨[], _, k_size3 s, rfl, ?_⟩
    refine ⟨fun h => ?_, fun h => ?_⟩
    · have h : ((szs s 2 : Int) == n) = true := h
      have own : (szs s 2 : Int) = n := by simpa using h
      have sz := sizes_of ekn (by decide) hn own
      refine ⟨[], _, k_valid3 s n m hs, rfl, ?_⟩
      show SV.p (bl (decide (regs s.mats))) = SV.p (bl (decide (s.good n m)))
      congr 3
      exact propext ⟨fun q => ⟨⟨by omega, by omega⟩, sz, by unfold Stg.own; rw [if_neg (by omega), if_neg (by omega), if_pos ek]; exact q⟩, fun q => by have ho := q.2.2; unfold Stg.own at ho; rw [if_neg (by omega), if_neg (by omega), if_pos ek] at ho; exact ho⟩
    · have h : ((szs s 2 : Int) == n) = false := h
      simp at h
      exact bad fun q => h (sizes_own ekn (by decide) q.2.1)

theorem k_valid_4 (s : Stg) (n m : Int) (hs : Enc.ok s) (ek : s.kind = 4) : Ret Try.prog 35 [stg s, i64 n, i64 m] [] (.p (bl (decide (s.good n m)))) := by
  have bad : ¬ s.good n m → SV.p (bl false) = SV.p (bl (decide (s.good n m))) := fun h => by rw [decide_eq_false h]
  have ekn : s.kind = ((3 + 1 : Nat) : Int) := ek
  refine ret (fn := Try.f35) (by kernel_rfl) (by kernel_rfl) rfl ?_
  refine ⟨[], _, (show Ret Try.prog 38 [u8 s.kind] [] (.tup [.p (.agg kd4), .p (bl true)]) by rw [ek]; exact k_ofE rfl rfl), rfl, ?_⟩
  refine ⟨fun h => absurd h (by first | decide | simp), fun _ => ?_⟩
  refine ⟨[], _, k_kinds, rfl, ?_⟩
  refine ⟨Nat, { inv := fun k => k ≤ 5 ∧ ∀ j, j < k → j ≠ 3 → szs s j = 0, slots := [(20, fun k => i64 k)], mu := fun k => 5 - k }, 0, ⟨⟨rfl, trivial⟩, trivial, (by repeat' first | exact trivial | rfl | apply And.intro), Nat.zero_le _, fun j h => absurd h (by omega)⟩, ?_⟩
  intro k ⟨hk, hn⟩
  obtain rfl | rfl | rfl | rfl | rfl | rfl : k = 0 ∨ k = 1 ∨ k = 2 ∨ k = 3 ∨ k = 4 ∨ k = 5 := by omega
  · refine ⟨fun _ => ?_, fun h => absurd h (by first | decide | simp)⟩
    refine ⟨0, rfl, by decide, _, rfl, rfl, ?_⟩
    refine ⟨fun _ => ?_, fun h => absurd ek (by simp at h; omega)⟩
    refine ⟨[], _, k_size1 s, rfl, ?_⟩
    refine ⟨fun h => ?_, fun h => ?_⟩
    · simp at h
      exact bad fun q => sizes_bad (s := s) (j := 0) (by decide) (by omega) (by show _ ≠ 0; intro e; simp [szs] at e; exact h e) q.2.1
    · simp at h
      exact ⟨1, by show _ < _; simp, ⟨rfl, rfl⟩, ⟨rfl, trivial⟩, trivial, (by repeat' first | exact trivial | rfl | apply And.intro), by decide, none_step hn fun _ => by simp [szs, h]⟩
  · refine ⟨fun _ => ?_, fun h => absurd h (by first | decide | simp)⟩
    refine ⟨1, rfl, by decide, _, rfl, rfl, ?_⟩
    refine ⟨fun _ => ?_, fun h => absurd ek (by simp at h; omega)⟩
    refine ⟨[], _, k_size2 s, rfl, ?_⟩
    refine ⟨fun h => ?_, fun h => ?_⟩
    · simp at h
      exact bad fun q => sizes_bad (s := s) (j := 1) (by decide) (by omega) (by show _ ≠ 0; intro e; simp [szs] at e; exact h e) q.2.1
    · simp at h
      exact ⟨2, by show _ < _; simp, ⟨rfl, rfl⟩, ⟨rfl, trivial⟩, trivial, (by repeat' first | exact trivial | rfl | apply And.intro), by decide, none_step hn fun _ => by simp [szs, h]⟩
  · refine ⟨fun _ => ?_, fun h => absurd h (by first | decide | simp)⟩
    refine ⟨2, rfl, by decide, _, rfl, rfl, ?_⟩
    refine ⟨fun _ => ?_, fun h => absurd ek (by simp at h; omega)⟩
    refine ⟨[], _, k_size3 s, rfl, ?_⟩
    refine ⟨fun h => ?_, fun h => ?_⟩
    · simp at h
      exact bad fun q => sizes_bad (s := s) (j := 2) (by decide) (by omega) (by show _ ≠ 0; intro e; simp [szs] at e; exact h e) q.2.1
    · simp at h
      exact ⟨3, by show _ < _; simp, ⟨rfl, rfl⟩, ⟨rfl, trivial⟩, trivial, (by repeat' first | exact trivial | rfl | apply And.intro), by decide, none_step hn fun _ => by simp [szs, h]⟩
  · refine ⟨fun _ => ?_, fun h => absurd h (by first | decide | simp)⟩
    refine ⟨3, rfl, by decide, _, rfl, rfl, ?_⟩
    refine ⟨fun h => absurd ek (by simp at h; omega), fun _ => ?_⟩
    exact ⟨4, by show _ < _; simp, ⟨rfl, rfl⟩, ⟨rfl, trivial⟩, trivial, (by repeat' first | exact trivial | rfl | apply And.intro), by decide, none_step hn fun h => absurd rfl h⟩
  · refine ⟨fun _ => ?_, fun h => absurd h (by first | decide | simp)⟩
    refine ⟨4, rfl, by decide, _, rfl, rfl, ?_⟩
    refine ⟨fun _ => ?_, fun h => absurd ek (by simp at h; omega)⟩
    refine ⟨[], _, k_size5 s, rfl, ?_⟩
    refine ⟨fun h => ?_, fun h => ?_⟩
    · simp at h
      exact bad fun q => sizes_bad (s := s) (j := 4) (by decide) (by omega) (by show _ ≠ 0; intro e; simp [szs] at e; exact h e) q.2.1
    · simp at h
      exact ⟨5, by show _ < _; simp, ⟨rfl, rfl⟩, ⟨rfl, trivial⟩, trivial, (by repeat' first | exact trivial | rfl | apply And.intro), by decide, none_step hn fun _ => by simp [szs, h]⟩
  · refine ⟨fun h => absurd h (by first | decide | simp), fun _ => ?_⟩
    refine ⟨[], _, k_size4 s, rfl, ?_⟩
    refine ⟨fun h => ?_, fun h => ?_⟩
    · have h : ((szs s 3 : Int) == n) = true := h
      have own : (szs s 3 : Int) = n := by simpa using h
      have sz := sizes_of ekn (by decide) hn own
      refine ⟨[], _, k_valid4 s n m hs, rfl, ?_⟩
      show SV.p (bl (decide (∀ t ∈ s.turns, 0 ≤ t ∧ t ≤ 3))) = SV.p (bl (decide (s.good n m)))
      congr 3
      exact propext ⟨fun q => ⟨⟨by omega, by omega⟩, sz, by unfold Stg.own; rw [if_neg (by omega), if_neg (by omega), if_neg (by omega), if_pos ek]; exact q⟩, fun q => by have ho := q.2.2; unfold Stg.own at ho; rw [if_neg (by omega), if_neg (by omega), if_neg (by omega), if_pos ek] at ho; exact ho⟩
    · have h : ((szs s 3 : Int) == n) = false := h
      simp at h
      exact bad fun q => h (sizes_own ekn (by decide) q.2.1)

theorem k_valid_5 (s : Stg) (n m : Int) (hs : Enc.ok s) (ek : s.kind = 5) : Ret Try.prog 35 [stg s, i64 n, i64 m] [] (.p (bl (decide (s.good n m)))) := by
  have bad : ¬ s.good n m → SV.p (bl false) = SV.p (bl (decide (s.good n m))) := fun h => by rw [decide_eq_false h]
  have ekn : s.kind = ((4 + 1 : Nat) : Int) := ek
  refine ret (fn := Try.f35) (by kernel_rfl) (by kernel_rfl) rfl ?_
  refine ⟨[], _, (show Ret Try.prog 38 [u8 s.kind] [] (.tup [.p (.agg kd5), .p (bl true)]) by rw [ek]; exact k_ofE rfl rfl), rfl, ?_⟩
  refine ⟨fun h => absurd h (by first | decide | simp), fun _ => ?_⟩
  refine ⟨[], _, k_kinds, rfl, ?_⟩
  refine ⟨Nat, { inv := fun k => k ≤ 5 ∧ ∀ j, j < k → j ≠ 4 → szs s j = 0, slots := [(20, fun k => i64 k)], mu := fun k => 5 - k }, 0, ⟨⟨rfl, trivial⟩, trivial, (by repeat' first | exact trivial | rfl | apply And.intro), Nat.zero_le _, fun j h => absurd h (by omega)⟩, ?_⟩
  intro k ⟨hk, hn⟩
  obtain rfl | rfl | rfl | rfl | rfl | rfl : k = 0 ∨ k = 1 ∨ k = 2 ∨ k = 3 ∨ k = 4 ∨ k = 5 := by omega
  · refine ⟨fun _ => ?_, fun h => absurd h (by first | decide | simp)⟩
    refine ⟨0, rfl, by decide, _, rfl, rfl, ?_⟩
    refine ⟨fun _ => ?_, fun h => absurd ek (by simp at h; omega)⟩
    refine ⟨[], _, k_size1 s, rfl, ?_⟩
    refine ⟨fun h => ?_, fun h => ?_⟩
    · simp at h
      exact bad fun q => sizes_bad (s := s) (j := 0) (by decide) (by omega) (by show _ ≠ 0; intro e; simp [szs] at e; exact h e) q.2.1
    · simp at h
      exact ⟨1, by show _ < _; simp, ⟨rfl, rfl⟩, ⟨rfl, trivial⟩, trivial, (by repeat' first | exact trivial | rfl | apply And.intro), by decide, none_step hn fun _ => by simp [szs, h]⟩
  · refine ⟨fun _ => ?_, fun h => absurd h (by first | decide | simp)⟩
    refine ⟨1, rfl, by decide, _, rfl, rfl, ?_⟩
    refine ⟨fun _ => ?_, fun h => absurd ek (by simp at h; omega)⟩
    refine ⟨[], _, k_size2 s, rfl, ?_⟩
    refine ⟨fun h => ?_, fun h => ?_⟩
    · simp at h
      exact bad fun q => sizes_bad (s := s) (j := 1) (by decide) (by omega) (by show _ ≠ 0; intro e; simp [szs] at e; exact h e) q.2.1
    · simp at h
      exact ⟨2, by show _ < _; simp, ⟨rfl, rfl⟩, ⟨rfl, trivial⟩, trivial, (by repeat' first | exact trivial | rfl | apply And.intro), by decide, none_step hn fun _ => by simp [szs, h]⟩
  · refine ⟨fun _ => ?_, fun h => absurd h (by first | decide | simp)⟩
    refine ⟨2, rfl, by decide, _, rfl, rfl, ?_⟩
    refine ⟨fun _ => ?_, fun h => absurd ek (by simp at h; omega)⟩
    refine ⟨[], _, k_size3 s, rfl, ?_⟩
    refine ⟨fun h => ?_, fun h => ?_⟩
    · simp at h
      exact bad fun q => sizes_bad (s := s) (j := 2) (by decide) (by omega) (by show _ ≠ 0; intro e; simp [szs] at e; exact h e) q.2.1
    · simp at h
      exact ⟨3, by show _ < _; simp, ⟨rfl, rfl⟩, ⟨rfl, trivial⟩, trivial, (by repeat' first | exact trivial | rfl | apply And.intro), by decide, none_step hn fun _ => by simp [szs, h]⟩
  · refine ⟨fun _ => ?_, fun h => absurd h (by first | decide | simp)⟩
    refine ⟨3, rfl, by decide, _, rfl, rfl, ?_⟩
    refine ⟨fun _ => ?_, fun h => absurd ek (by simp at h; omega)⟩
    refine ⟨[], _, k_size4 s, rfl, ?_⟩
    refine ⟨fun h => ?_, fun h => ?_⟩
    · simp at h
      exact bad fun q => sizes_bad (s := s) (j := 3) (by decide) (by omega) (by show _ ≠ 0; intro e; simp [szs] at e; exact h e) q.2.1
    · simp at h
      exact ⟨4, by show _ < _; simp, ⟨rfl, rfl⟩, ⟨rfl, trivial⟩, trivial, (by repeat' first | exact trivial | rfl | apply And.intro), by decide, none_step hn fun _ => by simp [szs, h]⟩
  · refine ⟨fun _ => ?_, fun h => absurd h (by first | decide | simp)⟩
    refine ⟨4, rfl, by decide, _, rfl, rfl, ?_⟩
    refine ⟨fun h => absurd ek (by simp at h; omega), fun _ => ?_⟩
    exact ⟨5, by show _ < _; simp, ⟨rfl, rfl⟩, ⟨rfl, trivial⟩, trivial, (by repeat' first | exact trivial | rfl | apply And.intro), by decide, none_step hn fun h => absurd rfl h⟩
  · refine ⟨fun h => absurd h (by first | decide | simp), fun _ => ?_⟩
    refine ⟨[], _, k_size5 s, rfl, ?_⟩
    refine ⟨fun h => ?_, fun h => ?_⟩
    · have h : ((szs s 4 : Int) == n) = true := h
      have own : (szs s 4 : Int) = n := by simpa using h
      have sz := sizes_of ekn (by decide) hn own
      refine ⟨[], _, k_valid5 s n m hs, rfl, ?_⟩
      show SV.p (bl (decide (∀ r ∈ s.full, (r.length : Int) = m ∧ regs r))) = SV.p (bl (decide (s.good n m)))
      congr 3
      exact propext ⟨fun q => ⟨⟨by omega, by omega⟩, sz, by unfold Stg.own; rw [if_neg (by omega), if_neg (by omega), if_neg (by omega), if_neg (by omega)]; exact q⟩, fun q => by have ho := q.2.2; unfold Stg.own at ho; rw [if_neg (by omega), if_neg (by omega), if_neg (by omega), if_neg (by omega)] at ho; exact ho⟩
    · have h : ((szs s 4 : Int) == n) = false := h
      simp at h
      exact bad fun q => h (sizes_own ekn (by decide) q.2.1)

theorem k_valid (s : Stg) (n m : Int) (hs : Enc.ok s) : Ret Try.prog 35 [stg s, i64 n, i64 m] [] (.p (bl (decide (s.good n m)))) := by
  by_cases h : 1 ≤ s.kind ∧ s.kind ≤ 5
  · obtain e | e | e | e | e : s.kind = 1 ∨ s.kind = 2 ∨ s.kind = 3 ∨ s.kind = 4 ∨ s.kind = 5 := by omega
    · exact k_valid_1 s n m hs e
    · exact k_valid_2 s n m hs e
    · exact k_valid_3 s n m hs e
    · exact k_valid_4 s n m hs e
    · exact k_valid_5 s n m hs e
  · have ek : kdc s.kind = kd0 := by unfold kdc; rw [if_neg (by omega), if_neg (by omega), if_neg (by omega), if_neg (by omega), if_neg (by omega)]
    refine ret (fn := Try.f35) (by kernel_rfl) (by kernel_rfl) rfl ?_
    refine ⟨[], _, (show Ret Try.prog 38 [u8 s.kind] [] (.tup [.p (.agg kd0), .p (bl false)]) from k_ofE ek (by rw [decide_eq_false h])), rfl, ?_⟩
    refine ⟨fun _ => ?_, fun h => absurd h (by first | decide | simp)⟩
    show SV.p (bl false) = SV.p (bl (decide (s.good n m)))
    rw [decide_eq_false fun q => h q.1]

theorem k_at1 (s : Stg) (i c : Nat) (h : i < s.gains.length) : Ret Try.prog 76 [stg s, i64 i, i64 c] [] (resJ (diag (gat s.gains i), 0)) := by
  rw [gat_get h]
  refine ret (fn := Try.f76) (by kernel_rfl) (by kernel_rfl) rfl ?_
  refine ⟨i, rfl, h, by decide, _, idx h, rfl, ?_⟩
  refine ⟨[], _, k_diag s.gains[i], rfl, ?_⟩
  refine ⟨Nat.le_refl _, ?_⟩
  exact ⟨_, rfl, rfl, rfl⟩

theorem k_at2 (s : Stg) (i c : Nat) (h : i < s.band.length) (hc : c < (el [] s.band i).length) : Ret Try.prog 80 [stg s, i64 i, i64 c] [] (resJ (diag (gat (el [] s.band i) c), 0)) := by
  rw [el_get h] at hc ⊢
  rw [gat_get hc]
  refine ret (fn := Try.f80) (by kernel_rfl) (by kernel_rfl) rfl ?_
  refine ⟨i, rfl, h, by decide, _, idx h, rfl, ?_⟩
  refine ⟨c, rfl, hc, by decide, _, idx hc, rfl, ?_⟩
  refine ⟨[], _, k_diag s.band[i][c], rfl, ?_⟩
  refine ⟨Nat.le_refl _, ?_⟩
  exact ⟨_, rfl, rfl, rfl⟩

theorem k_at3 (s : Stg) (i c : Nat) (h : i < s.mats.length) : Ret Try.prog 84 [stg s, i64 i, i64 c] [] (resJ (el j0 s.mats i, 0)) := by
  rw [el_get h]
  refine ret (fn := Try.f84) (by kernel_rfl) (by kernel_rfl) rfl ?_
  refine ⟨i, rfl, h, by decide, _, idx h, rfl, ?_⟩
  refine ⟨Nat.le_refl _, ?_⟩
  exact ⟨_, rfl, rfl, rfl⟩

theorem k_at4 (s : Stg) (i c : Nat) (h : i < s.turns.length) (hs : Enc.ok s) : Ret Try.prog 88 [stg s, i64 i, i64 c] [] (resJ (diag (rotN (quart (el 0 s.turns i)) one), 0)) := by
  rw [el_get h]
  refine ret (fn := Try.f88) (by kernel_rfl) (by kernel_rfl) rfl ?_
  refine ⟨_, k_one, rfl, ?_⟩
  refine ⟨i, rfl, h, by decide, _, idx h, rfl, ?_⟩
  refine ⟨_, (show Ret Try.prog 72 [cx one, i64 s.turns[i]] [] (resC (rotN (quart s.turns[i]) one, 0)) by have := c_turn one s.turns[i] (ok_valid oneC_valid) (hs.2.2.2.2.1.2 _ (List.getElem_mem h)); rw [turn, if_pos oneC_valid] at this; exact this), rfl, ?_⟩
  refine ⟨[], _, k_diag (rotN (quart s.turns[i]) one), rfl, ?_⟩
  refine ⟨Nat.le_refl _, ?_⟩
  exact ⟨_, rfl, rfl, rfl⟩

theorem k_at5 (s : Stg) (i c : Nat) (h : i < s.full.length) (hc : c < (el [] s.full i).length) : Ret Try.prog 92 [stg s, i64 i, i64 c] [] (resJ (el j0 (el [] s.full i) c, 0)) := by
  rw [el_get h] at hc ⊢
  rw [el_get hc]
  refine ret (fn := Try.f92) (by kernel_rfl) (by kernel_rfl) rfl ?_
  refine ⟨i, rfl, h, by decide, _, idx h, rfl, ?_⟩
  refine ⟨c, rfl, hc, by decide, _, idx hc, rfl, ?_⟩
  refine ⟨Nat.le_refl _, ?_⟩
  exact ⟨_, rfl, rfl, rfl⟩

theorem k_at (s : Stg) (n m : Int) (hs : Enc.ok s) (hg : s.good n m) {i c : Nat} (hi : (i : Int) < n) (hc : (c : Int) < m) : Ret Try.prog 36 [stg s, i64 i, i64 c] [] (resJ (sat s i c, 0)) := by
  have hk := hg.1
  obtain e | e | e | e | e : s.kind = 1 ∨ s.kind = 2 ∨ s.kind = 3 ∨ s.kind = 4 ∨ s.kind = 5 := by omega

  · obtain ⟨l, _, _, _, _, ho⟩ := good_own1 hg e
    unfold sat
    rw [if_pos e]
    refine ret (fn := Try.f36) (by kernel_rfl) (by kernel_rfl) rfl ?_
    refine ⟨[], _, (show Ret Try.prog 38 [u8 s.kind] [] (.tup [.p (.agg kd1), .p (bl true)]) by rw [e]; exact k_ofE rfl rfl), rfl, ?_⟩
    refine ⟨fun h => absurd h (by first | decide | simp), fun _ => ?_⟩
    refine ⟨[], _, k_at1 s i c (by omega), rfl, ?_⟩
    refine ⟨Nat.le_refl _, ?_⟩
    exact ⟨_, rfl, rfl, rfl⟩
  · obtain ⟨l, _, _, _, _, ho⟩ := good_own2 hg e
    have hl : i < s.band.length := by omega
    have hlc : c < (el [] s.band i).length := by rw [el_get hl]; have := (ho _ (List.getElem_mem hl)).1; omega
    unfold sat
    rw [if_neg (by omega), if_pos e]
    refine ret (fn := Try.f36) (by kernel_rfl) (by kernel_rfl) rfl ?_
    refine ⟨[], _, (show Ret Try.prog 38 [u8 s.kind] [] (.tup [.p (.agg kd2), .p (bl true)]) by rw [e]; exact k_ofE rfl rfl), rfl, ?_⟩
    refine ⟨fun h => absurd h (by first | decide | simp), fun _ => ?_⟩
    refine ⟨[], _, k_at2 s i c (by omega) hlc, rfl, ?_⟩
    refine ⟨Nat.le_refl _, ?_⟩
    exact ⟨_, rfl, rfl, rfl⟩
  · obtain ⟨l, _, _, _, _, ho⟩ := good_own3 hg e
    unfold sat
    rw [if_neg (by omega), if_neg (by omega), if_pos e]
    refine ret (fn := Try.f36) (by kernel_rfl) (by kernel_rfl) rfl ?_
    refine ⟨[], _, (show Ret Try.prog 38 [u8 s.kind] [] (.tup [.p (.agg kd3), .p (bl true)]) by rw [e]; exact k_ofE rfl rfl), rfl, ?_⟩
    refine ⟨fun h => absurd h (by first | decide | simp), fun _ => ?_⟩
    refine ⟨[], _, k_at3 s i c (by omega), rfl, ?_⟩
    refine ⟨Nat.le_refl _, ?_⟩
    exact ⟨_, rfl, rfl, rfl⟩
  · obtain ⟨l, _, _, _, _, ho⟩ := good_own4 hg e
    unfold sat
    rw [if_neg (by omega), if_neg (by omega), if_neg (by omega), if_pos e]
    refine ret (fn := Try.f36) (by kernel_rfl) (by kernel_rfl) rfl ?_
    refine ⟨[], _, (show Ret Try.prog 38 [u8 s.kind] [] (.tup [.p (.agg kd4), .p (bl true)]) by rw [e]; exact k_ofE rfl rfl), rfl, ?_⟩
    refine ⟨fun h => absurd h (by first | decide | simp), fun _ => ?_⟩
    refine ⟨[], _, k_at4 s i c (by omega) hs, rfl, ?_⟩
    refine ⟨Nat.le_refl _, ?_⟩
    exact ⟨_, rfl, rfl, rfl⟩
  · obtain ⟨l, _, _, _, _, ho⟩ := good_own5 hg e
    have hl : i < s.full.length := by omega
    have hlc : c < (el [] s.full i).length := by rw [el_get hl]; have := (ho _ (List.getElem_mem hl)).1; omega
    unfold sat
    rw [if_neg (by omega), if_neg (by omega), if_neg (by omega), if_neg (by omega)]
    refine ret (fn := Try.f36) (by kernel_rfl) (by kernel_rfl) rfl ?_
    refine ⟨[], _, (show Ret Try.prog 38 [u8 s.kind] [] (.tup [.p (.agg kd5), .p (bl true)]) by rw [e]; exact k_ofE rfl rfl), rfl, ?_⟩
    refine ⟨fun h => absurd h (by first | decide | simp), fun _ => ?_⟩
    refine ⟨[], _, k_at5 s i c (by omega) hlc, rfl, ?_⟩
    refine ⟨Nat.le_refl _, ?_⟩
    exact ⟨_, rfl, rfl, rfl⟩

theorem k_undo1 (s : Stg) (hs : Enc.ok s) (h : s.gains.length ≤ 1000) (e : s.kind = 1) : Ret Try.prog 77 [stg s] [] (resSt (undo s)) := by
  rw [undo, if_pos e]
  refine ret (fn := Try.f77) (by kernel_rfl) (by kernel_rfl) rfl ?_
  refine ⟨[], _, k_quo s.gains hs.2.1.2 h, rfl, ?_⟩
  rfl

theorem k_undo3 (s : Stg) (hs : Enc.ok s) (h : s.mats.length ≤ 1000) (e : s.kind = 3) : Ret Try.prog 85 [stg s] [] (resSt (undo s)) := by
  rw [undo, if_neg (by omega), if_neg (by omega), if_pos e]
  refine ret (fn := Try.f85) (by kernel_rfl) (by kernel_rfl) rfl ?_
  refine ⟨[], _, k_inverses s.mats hs.2.2.2.1.2 h, rfl, ?_⟩
  rfl

theorem k_undo2 (s : Stg) (hs : Enc.ok s) (h : s.band.length ≤ 1000) (hr : ∀ r ∈ s.band, r.length ≤ 1000) (e : s.kind = 2) : Ret Try.prog 81 [stg s] [] (resSt (undo s)) := by
  have hb := hs.2.2.1.2
  rw [undo, if_neg (by omega), if_pos e]
  refine ret (fn := Try.f81) (by kernel_rfl) (by kernel_rfl) rfl ?_
  refine ⟨Nat, { inv := fun k => k ≤ s.band.length ∧ cferr (fun k => quo (el [] s.band k)) k = 0, slots := [(15, fun k => i64 k)], cells := [(2, 2, 28, 1, fun k => k, fun k => flat ((List.range k).map fun k => (quo (el [] s.band k)).1))], mu := fun k => s.band.length - k }, 0, ⟨⟨rfl, trivial⟩, ⟨⟨rfl, rfl⟩, trivial⟩, (by repeat' first | exact trivial | rfl | apply And.intro), Nat.zero_le _, rfl⟩, ?_⟩
  intro k ⟨hk, hz⟩
  refine ⟨fun h2 => ?_, fun h2 => ?_⟩
  · simp at h2
    refine ⟨k, rfl, h2, by decide, _, idx h2, rfl, ?_⟩
    refine ⟨[], _, (show Ret Try.prog 110 [sl s.band[k]] [] (resCs (quo (el [] s.band k))) by rw [el_get h2]; exact k_quo _ (hb _ (List.getElem_mem h2)).2 (hr _ (List.getElem_mem h2))), rfl, ?_⟩
    refine ⟨fun h3 => ?_, fun h3 => ?_⟩
    · simp at h3
      have e1 := cferr_bad (f := fun k => quo (el [] s.band k)) h2 hz h3
      have e2 : (cgath (fun k => quo (el [] s.band k)) s.band.length).2 = (quo (el [] s.band k)).2 := by rw [cgath, if_neg (by rw [e1]; exact h3)]; exact e1
      rw [if_neg (by rw [e2]; exact h3), e2]
      rfl
    · simp at h3
      refine ⟨⟨by show k + 1 ≤ _; omega, by show (k + 1) * 24 ≤ _; omega⟩, ?_⟩
      refine ⟨k + 1, by show _ < _; simp; omega, ⟨rfl, rfl⟩, ⟨by show PV.v (.int _ _) = _; rw [succ_w (by omega)], trivial⟩, ⟨⟨rfl, ?_⟩, trivial⟩, (by repeat' first | exact trivial | rfl | apply And.intro), h2, ?_⟩
      · show _ ++ [sl (quo (el [] s.band k)).1] = flat _
        rw [List.range_succ, List.map_append, List.map_singleton, flat_snoc]; rfl
      · rw [cferr, if_neg (by simp [hz])]; exact h3
  · simp at h2
    have : k = s.band.length := by omega
    subst this
    have e1 : cgath (fun k => quo (el [] s.band k)) s.band.length = ((List.range s.band.length).map fun k => (quo (el [] s.band k)).1, 0) := by rw [cgath, if_pos hz]
    rw [e1, if_pos rfl]
    show SV.tup [.p (.agg [u8 s.kind, .sl false 0 [], .sl false s.band.length (flat ((List.range s.band.length).map fun k => (quo (el [] s.band k)).1)), .sl false 0 [], .sl false 0 [], .sl false 0 []]), .p (i64 0)] = _
    simp [sl]

theorem k_undo5 (s : Stg) (hs : Enc.ok s) (h : s.full.length ≤ 1000) (hr : ∀ r ∈ s.full, r.length ≤ 1000) (e : s.kind = 5) : Ret Try.prog 93 [stg s] [] (resSt (undo s)) := by
  have hb := hs.2.2.2.2.2.2
  rw [undo, if_neg (by omega), if_neg (by omega), if_neg (by omega), if_neg (by omega)]
  refine ret (fn := Try.f93) (by kernel_rfl) (by kernel_rfl) rfl ?_
  refine ⟨Nat, { inv := fun k => k ≤ s.full.length ∧ cferr (fun k => invs (el [] s.full k)) k = 0, slots := [(15, fun k => i64 k)], cells := [(2, 5, 30, 1, fun k => k, fun k => flat ((List.range k).map fun k => (invs (el [] s.full k)).1))], mu := fun k => s.full.length - k }, 0, ⟨⟨rfl, trivial⟩, ⟨⟨rfl, rfl⟩, trivial⟩, (by repeat' first | exact trivial | rfl | apply And.intro), Nat.zero_le _, rfl⟩, ?_⟩
  intro k ⟨hk, hz⟩
  refine ⟨fun h2 => ?_, fun h2 => ?_⟩
  · simp at h2
    refine ⟨k, rfl, h2, by decide, _, idx h2, rfl, ?_⟩
    refine ⟨[], _, (show Ret Try.prog 112 [sl s.full[k]] [] (resJs (invs (el [] s.full k))) by rw [el_get h2]; exact k_inverses _ (hb _ (List.getElem_mem h2)).2 (hr _ (List.getElem_mem h2))), rfl, ?_⟩
    refine ⟨fun h3 => ?_, fun h3 => ?_⟩
    · simp at h3
      have e1 := cferr_bad (f := fun k => invs (el [] s.full k)) h2 hz h3
      have e2 : (cgath (fun k => invs (el [] s.full k)) s.full.length).2 = (invs (el [] s.full k)).2 := by rw [cgath, if_neg (by rw [e1]; exact h3)]; exact e1
      rw [if_neg (by rw [e2]; exact h3), e2]
      rfl
    · simp at h3
      refine ⟨⟨by show k + 1 ≤ _; omega, by show (k + 1) * 24 ≤ _; omega⟩, ?_⟩
      refine ⟨k + 1, by show _ < _; simp; omega, ⟨rfl, rfl⟩, ⟨by show PV.v (.int _ _) = _; rw [succ_w (by omega)], trivial⟩, ⟨⟨rfl, ?_⟩, trivial⟩, (by repeat' first | exact trivial | rfl | apply And.intro), h2, ?_⟩
      · show _ ++ [sl (invs (el [] s.full k)).1] = flat _
        rw [List.range_succ, List.map_append, List.map_singleton, flat_snoc]; rfl
      · rw [cferr, if_neg (by simp [hz])]; exact h3
  · simp at h2
    have : k = s.full.length := by omega
    subst this
    have e1 : cgath (fun k => invs (el [] s.full k)) s.full.length = ((List.range s.full.length).map fun k => (invs (el [] s.full k)).1, 0) := by rw [cgath, if_pos hz]
    rw [e1, if_pos rfl]
    show SV.tup [.p (.agg [u8 s.kind, .sl false 0 [], .sl false 0 [], .sl false 0 [], .sl false 0 [], .sl false s.full.length (flat ((List.range s.full.length).map fun k => (invs (el [] s.full k)).1))]), .p (i64 0)] = _
    simp [sl]

theorem k_undo4 (s : Stg) (h : s.turns.length ≤ 1000) (ht : ∀ t ∈ s.turns, 0 ≤ t ∧ t ≤ 3) (e : s.kind = 4) : Ret Try.prog 89 [stg s] [] (resSt (undo s)) := by
  rw [undo, if_neg (by omega), if_neg (by omega), if_neg (by omega), if_pos e]
  refine ret (fn := Try.f89) (by kernel_rfl) (by kernel_rfl) rfl ?_
  refine ⟨Nat, { inv := fun k => k ≤ s.turns.length, slots := [(13, fun k => i64 k)], cells := [(2, 4, 3, 1, fun k => k, fun k => flat ((s.turns.take k).map fun t => (4 - t).tmod 4))], mu := fun k => s.turns.length - k }, 0, ⟨⟨rfl, trivial⟩, ⟨⟨rfl, rfl⟩, trivial⟩, (by repeat' first | exact trivial | rfl | apply And.intro), Nat.zero_le _⟩, ?_⟩
  intro k hk
  refine ⟨fun h2 => ?_, fun h2 => ?_⟩
  · simp at h2
    have h3 := ht _ (List.getElem_mem h2)
    refine ⟨k, rfl, h2, by decide, _, idx h2, rfl, ?_⟩
    refine ⟨by decide, ?_⟩
    refine ⟨⟨by show k + 1 ≤ _; omega, by show (k + 1) * 8 ≤ _; omega⟩, ?_⟩
    refine ⟨k + 1, by show _ < _; simp; omega, ⟨rfl, rfl⟩, ⟨by show PV.v (.int _ _) = _; rw [succ_w (by omega)], trivial⟩, ⟨⟨rfl, ?_⟩, trivial⟩, (by repeat' first | exact trivial | rfl | apply And.intro), h2⟩
    show _ ++ [i64 ((IntKind.i64.wrap (4 - s.turns[k])).tmod 4)] = flat _
    rw [List.take_succ_eq_append_getElem h2, List.map_append, List.map_singleton, flat_snoc, wrap_id (by omega) (by omega)]; rfl
  · simp at h2
    have : k = s.turns.length := by have hk : k ≤ s.turns.length := hk; omega
    subst this
    show SV.tup [.p (.agg [u8 s.kind, .sl false 0 [], .sl false 0 [], .sl false 0 [], .sl false s.turns.length (flat ((s.turns.take s.turns.length).map fun t => (4 - t).tmod 4)), .sl false 0 []]), .p (i64 0)] = _
    rw [List.take_length]
    simp [sl]
end Go.Pv
