/- Contracts of the reference's chains: numbers, matrices, valid stages. -/
import Derived.Test.YtfbcedhbeebipaaNe
namespace Go.Pv
open Go.Vc
open Go.Proofs
set_option maxRecDepth 10000

theorem r_num34 (a : Cx) : Ret Try.prog 53 [cx a] [] (.p (bl (decide (okG a)))) := by
  refine ret (fn := Try.f53) (by kernel_rfl) (by kernel_rfl) rfl ?_
  refine ⟨[], _, r_check a, rfl, ?_⟩
  refine ⟨fun h1 => ?_, fun h1 => ?_⟩
  · simp at h1
    refine ⟨[], _, r_zero a, rfl, ?_⟩
    have hv : a.valid := by
      by_cases h : a.valid
      · exact h
      · unfold chk at h1; rw [if_neg h] at h1; simp at h1
    show SV.p (bl (!decide a.zero)) = _
    congr 3
    simp [okG, hv]
  · simp at h1
    have hv : ¬ a.valid := by intro h; unfold chk at h1; rw [if_pos h] at h1; simp at h1
    show SV.p (bl false) = _
    rw [decide_eq_false fun h => hv h.1]

theorem r_mat34 (a : Jn) : Ret Try.prog 50 [jn a] [] (.p (bl (decide ((jinv a).2 = 0)))) := by
  refine ret (fn := Try.f50) (by kernel_rfl) (by kernel_rfl) rfl ?_
  refine ⟨_, rfl, rfl, ?_⟩
  refine ⟨[], _, jr_inv a, rfl, ?_⟩
  refine ⟨Nat.le_refl _, ?_⟩
  show SV.p (bl _) = _
  congr 3

set_option maxHeartbeats 4000000 in
theorem r_stage1 (g : List Cx) (b : List (List Cx)) (ms : List Jn) (t : List Int) (f : List (List Jn)) (n m : Int) (hs : Enc.ok (⟨1, g, b, ms, t, f⟩ : Stg)) : Ret Try.prog 32 [stg ⟨1, g, b, ms, t, f⟩, i64 n, i64 m] [] (.p (bl (decide ((⟨1, g, b, ms, t, f⟩ : Stg).good n m)))) := by
  have bad : ¬ (⟨1, g, b, ms, t, f⟩ : Stg).good n m → SV.p (bl false) = SV.p (bl (decide ((⟨1, g, b, ms, t, f⟩ : Stg).good n m))) := fun h => by rw [decide_eq_false h]
  have z : (⟨1, g, b, ms, t, f⟩ : Stg).sizes n ↔ ((g.length : Int) = n ∧ (b.length : Int) = 0 ∧ (ms.length : Int) = 0 ∧ (t.length : Int) = 0 ∧ (f.length : Int) = 0) := by unfold Stg.sizes; simp
  have o : (⟨1, g, b, ms, t, f⟩ : Stg).own m ↔ ∀ c ∈ g, okG c := by unfold Stg.own; simp
  have hl : g.length ≤ 9223372036854775807 := ml hs.2.1.1
  refine ret (fn := Try.f32) (by kernel_rfl) (by kernel_rfl) rfl ?_
  refine ⟨Nat.le_refl _, ?_⟩
  refine ⟨fun _ => ?_, fun h => absurd h (by first | decide | simp)⟩
  refine ⟨fun h => absurd h (by first | decide | simp), fun _ => ?_⟩
  refine ⟨0, rfl, by decide, by decide, ?_⟩
  refine ⟨0, rfl, by decide, _, rfl, rfl, ?_⟩
  refine ⟨fun h1 => ?_, fun h1 => ?_⟩
  rotate_left
  · simp at h1
    exact bad fun q => h1 (by have := (z.1 q.2.1).1; simpa using this)
  refine ⟨1, rfl, by decide, _, rfl, rfl, ?_⟩
  refine ⟨fun h2 => ?_, fun h2 => ?_⟩
  rotate_left
  · simp at h2
    exact bad fun q => h2 (by have := (z.1 q.2.1).2.1; simpa using this)
  refine ⟨2, rfl, by decide, _, rfl, rfl, ?_⟩
  refine ⟨fun h3 => ?_, fun h3 => ?_⟩
  rotate_left
  · simp at h3
    exact bad fun q => h3 (by have := (z.1 q.2.1).2.2.1; simpa using this)
  refine ⟨3, rfl, by decide, _, rfl, rfl, ?_⟩
  refine ⟨fun h4 => ?_, fun h4 => ?_⟩
  rotate_left
  · simp at h4
    exact bad fun q => h4 (by have := (z.1 q.2.1).2.2.2.1; simpa using this)
  refine ⟨4, rfl, by decide, _, rfl, rfl, ?_⟩
  refine ⟨fun h5 => ?_, fun h5 => ?_⟩
  · simp at h5
    exact bad fun q => h5 (by have := (z.1 q.2.1).2.2.2.2; simpa using this)
  simp at h1 h2 h3 h4 h5
  subst h1
  refine ⟨Nat, { inv := fun k => k ≤ g.length ∧ (∀ c ∈ g.take k, okG c), slots := [(8, fun k => i64 k)],  mu := fun k => g.length - k }, 0, ⟨⟨rfl, trivial⟩, trivial, (by repeat' first | exact trivial | rfl | apply And.intro), Nat.zero_le _, by simp⟩, ?_⟩
  intro k ⟨hk, hall⟩
  refine ⟨fun h6 => ?_, fun h6 => ?_⟩
  · simp at h6
    refine ⟨fun _ => ?_, fun h => absurd h (by first | decide | simp)⟩
    refine ⟨k, rfl, h6, by decide, _, idx h6, rfl, ?_⟩
    refine ⟨[], _, r_num34 g[k], rfl, ?_⟩
    refine ⟨fun h7 => ?_, fun h7 => ?_⟩
    · simp at h7
      exact bad fun q => h7 (o.1 q.2.2 _ (List.getElem_mem h6))
    · simp at h7
      refine ⟨k + 1, by show _ < _; simp; omega, ⟨rfl, rfl⟩, ⟨by show PV.v (.int _ _) = _; rw [succ_w3 (by omega)], trivial⟩, trivial, (by repeat' first | exact trivial | rfl | apply And.intro), h6, ?_⟩
      intro c hc
      rw [List.take_succ_eq_append_getElem h6, List.mem_append] at hc
      rcases hc with hc | hc
      · exact hall c hc
      · simp at hc; subst hc; exact h7
  · simp at h6
    have : k = g.length := by omega
    subst this
    rw [List.take_length] at hall
    show SV.p (bl true) = _
    rw [decide_eq_true (show Stg.good _ _ _ from ⟨⟨by show (1 : Int) ≤ 1; decide, by show (1 : Int) ≤ 5; decide⟩, z.2 ⟨rfl, by simp [h2], by simp [h3], by simp [h4], by simp [h5]⟩, o.2 hall⟩)]

set_option maxHeartbeats 4000000 in
theorem r_stage2 (g : List Cx) (b : List (List Cx)) (ms : List Jn) (t : List Int) (f : List (List Jn)) (n m : Int) (hs : Enc.ok (⟨2, g, b, ms, t, f⟩ : Stg)) : Ret Try.prog 32 [stg ⟨2, g, b, ms, t, f⟩, i64 n, i64 m] [] (.p (bl (decide ((⟨2, g, b, ms, t, f⟩ : Stg).good n m)))) := by
  have bad : ¬ (⟨2, g, b, ms, t, f⟩ : Stg).good n m → SV.p (bl false) = SV.p (bl (decide ((⟨2, g, b, ms, t, f⟩ : Stg).good n m))) := fun h => by rw [decide_eq_false h]
  have z : (⟨2, g, b, ms, t, f⟩ : Stg).sizes n ↔ ((g.length : Int) = 0 ∧ (b.length : Int) = n ∧ (ms.length : Int) = 0 ∧ (t.length : Int) = 0 ∧ (f.length : Int) = 0) := by unfold Stg.sizes; simp
  have o : (⟨2, g, b, ms, t, f⟩ : Stg).own m ↔ ∀ c ∈ b, gainsOk c m := by unfold Stg.own; simp
  have hl : b.length ≤ 9223372036854775807 := ml hs.2.2.1.1
  refine ret (fn := Try.f32) (by kernel_rfl) (by kernel_rfl) rfl ?_
  refine ⟨Nat.le_refl _, ?_⟩
  refine ⟨fun _ => ?_, fun h => absurd h (by first | decide | simp)⟩
  refine ⟨fun h => absurd h (by first | decide | simp), fun _ => ?_⟩
  refine ⟨1, rfl, by decide, by decide, ?_⟩
  refine ⟨0, rfl, by decide, _, rfl, rfl, ?_⟩
  refine ⟨fun h1 => ?_, fun h1 => ?_⟩
  rotate_left
  · simp at h1
    exact bad fun q => h1 (by have := (z.1 q.2.1).1; simpa using this)
  refine ⟨1, rfl, by decide, _, rfl, rfl, ?_⟩
  refine ⟨fun h2 => ?_, fun h2 => ?_⟩
  rotate_left
  · simp at h2
    exact bad fun q => h2 (by have := (z.1 q.2.1).2.1; simpa using this)
  refine ⟨2, rfl, by decide, _, rfl, rfl, ?_⟩
  refine ⟨fun h3 => ?_, fun h3 => ?_⟩
  rotate_left
  · simp at h3
    exact bad fun q => h3 (by have := (z.1 q.2.1).2.2.1; simpa using this)
  refine ⟨3, rfl, by decide, _, rfl, rfl, ?_⟩
  refine ⟨fun h4 => ?_, fun h4 => ?_⟩
  rotate_left
  · simp at h4
    exact bad fun q => h4 (by have := (z.1 q.2.1).2.2.2.1; simpa using this)
  refine ⟨4, rfl, by decide, _, rfl, rfl, ?_⟩
  refine ⟨fun h5 => ?_, fun h5 => ?_⟩
  · simp at h5
    exact bad fun q => h5 (by have := (z.1 q.2.1).2.2.2.2; simpa using this)
  simp at h1 h2 h3 h4 h5
  subst h2
  refine ⟨Nat, { inv := fun k => k ≤ b.length ∧ (∀ c ∈ b.take k, gainsOk c m), slots := [(8, fun k => i64 k)],  mu := fun k => b.length - k }, 0, ⟨⟨rfl, trivial⟩, trivial, (by repeat' first | exact trivial | rfl | apply And.intro), Nat.zero_le _, by simp⟩, ?_⟩
  intro k ⟨hk, hall⟩
  refine ⟨fun h6 => ?_, fun h6 => ?_⟩
  · simp at h6
    refine ⟨fun h => absurd h (by first | decide | simp), fun _ => ?_⟩
    refine ⟨fun _ => ?_, fun h => absurd h (by first | decide | simp)⟩
    refine ⟨k, rfl, h6, by decide, _, idx h6, rfl, ?_⟩
    have hr := hs.2.2.1.2 _ (List.getElem_mem h6)
    have hrl : b[k].length ≤ 9223372036854775807 := ml hr.1
    refine ⟨fun h7 => ?_, fun h7 => ?_⟩
    · simp at h7
      exact bad fun q => h7 (o.1 q.2.2 _ (List.getElem_mem h6)).1
    simp at h7
    refine ⟨Nat, { inv := fun j => j ≤ b[k].length ∧ (∀ c ∈ b[k].take j, okG c), slots := [(9, fun j => i64 j)],  mu := fun j => b[k].length - j }, 0, ⟨⟨rfl, trivial⟩, trivial, (by repeat' first | exact trivial | rfl | apply And.intro), Nat.zero_le _, by simp⟩, ?_⟩
    intro j ⟨hj, hall2⟩
    refine ⟨fun h8 => ?_, fun h8 => ?_⟩
    · have h8 : decide ((j : Int) < m) = true := h8
      simp at h8
      have h8 : j < b[k].length := by omega
      refine ⟨k, rfl, h6, by decide, _, idx h6, rfl, ?_⟩
      refine ⟨j, rfl, h8, by decide, _, idx h8, rfl, ?_⟩
      refine ⟨[], _, r_num34 b[k][j], rfl, ?_⟩
      refine ⟨fun h9 => ?_, fun h9 => ?_⟩
      · simp at h9
        exact bad fun q => h9 ((o.1 q.2.2 _ (List.getElem_mem h6)).2 _ (List.getElem_mem h8))
      · simp at h9
        refine ⟨j + 1, by show _ < _; simp; omega, ⟨rfl, rfl⟩, ⟨by show PV.v (.int _ _) = _; rw [succ_w3 (by omega)], trivial⟩, trivial, (by repeat' first | exact trivial | rfl | apply And.intro), h8, ?_⟩
        intro c hc
        rw [List.take_succ_eq_append_getElem h8, List.mem_append] at hc
        rcases hc with hc | hc
        · exact hall2 c hc
        · simp at hc; subst hc; exact h9
    · have h8 : decide ((j : Int) < m) = false := h8
      simp at h8
      have : j = b[k].length := by omega
      subst this
      rw [List.take_length] at hall2
      refine ⟨k + 1, by show _ < _; simp; omega, ⟨rfl, rfl⟩, ⟨by show PV.v (.int _ _) = _; rw [succ_w3 (by omega)], trivial⟩, trivial, (by repeat' first | exact trivial | rfl | apply And.intro), h6, ?_⟩
      intro c hc
      rw [List.take_succ_eq_append_getElem h6, List.mem_append] at hc
      rcases hc with hc | hc
      · exact hall c hc
      · simp at hc; subst hc; exact ⟨h7, hall2⟩
  · simp at h6
    have : k = b.length := by omega
    subst this
    rw [List.take_length] at hall
    show SV.p (bl true) = _
    rw [decide_eq_true (show Stg.good _ _ _ from ⟨⟨by show (1 : Int) ≤ 2; decide, by show (2 : Int) ≤ 5; decide⟩, z.2 ⟨by simp [h1], rfl, by simp [h3], by simp [h4], by simp [h5]⟩, o.2 hall⟩)]

set_option maxHeartbeats 4000000 in
theorem r_stage3 (g : List Cx) (b : List (List Cx)) (ms : List Jn) (t : List Int) (f : List (List Jn)) (n m : Int) (hs : Enc.ok (⟨3, g, b, ms, t, f⟩ : Stg)) : Ret Try.prog 32 [stg ⟨3, g, b, ms, t, f⟩, i64 n, i64 m] [] (.p (bl (decide ((⟨3, g, b, ms, t, f⟩ : Stg).good n m)))) := by
  have bad : ¬ (⟨3, g, b, ms, t, f⟩ : Stg).good n m → SV.p (bl false) = SV.p (bl (decide ((⟨3, g, b, ms, t, f⟩ : Stg).good n m))) := fun h => by rw [decide_eq_false h]
  have z : (⟨3, g, b, ms, t, f⟩ : Stg).sizes n ↔ ((g.length : Int) = 0 ∧ (b.length : Int) = 0 ∧ (ms.length : Int) = n ∧ (t.length : Int) = 0 ∧ (f.length : Int) = 0) := by unfold Stg.sizes; simp
  have o : (⟨3, g, b, ms, t, f⟩ : Stg).own m ↔ ∀ c ∈ ms, (jinv c).2 = 0 := by unfold Stg.own; simp [regs]
  have hl : ms.length ≤ 9223372036854775807 := ml hs.2.2.2.1.1
  refine ret (fn := Try.f32) (by kernel_rfl) (by kernel_rfl) rfl ?_
  refine ⟨Nat.le_refl _, ?_⟩
  refine ⟨fun _ => ?_, fun h => absurd h (by first | decide | simp)⟩
  refine ⟨fun h => absurd h (by first | decide | simp), fun _ => ?_⟩
  refine ⟨2, rfl, by decide, by decide, ?_⟩
  refine ⟨0, rfl, by decide, _, rfl, rfl, ?_⟩
  refine ⟨fun h1 => ?_, fun h1 => ?_⟩
  rotate_left
  · simp at h1
    exact bad fun q => h1 (by have := (z.1 q.2.1).1; simpa using this)
  refine ⟨1, rfl, by decide, _, rfl, rfl, ?_⟩
  refine ⟨fun h2 => ?_, fun h2 => ?_⟩
  rotate_left
  · simp at h2
    exact bad fun q => h2 (by have := (z.1 q.2.1).2.1; simpa using this)
  refine ⟨2, rfl, by decide, _, rfl, rfl, ?_⟩
  refine ⟨fun h3 => ?_, fun h3 => ?_⟩
  rotate_left
  · simp at h3
    exact bad fun q => h3 (by have := (z.1 q.2.1).2.2.1; simpa using this)
  refine ⟨3, rfl, by decide, _, rfl, rfl, ?_⟩
  refine ⟨fun h4 => ?_, fun h4 => ?_⟩
  rotate_left
  · simp at h4
    exact bad fun q => h4 (by have := (z.1 q.2.1).2.2.2.1; simpa using this)
  refine ⟨4, rfl, by decide, _, rfl, rfl, ?_⟩
  refine ⟨fun h5 => ?_, fun h5 => ?_⟩
  · simp at h5
    exact bad fun q => h5 (by have := (z.1 q.2.1).2.2.2.2; simpa using this)
  simp at h1 h2 h3 h4 h5
  subst h3
  refine ⟨Nat, { inv := fun k => k ≤ ms.length ∧ (∀ c ∈ ms.take k, (jinv c).2 = 0), slots := [(8, fun k => i64 k)],  mu := fun k => ms.length - k }, 0, ⟨⟨rfl, trivial⟩, trivial, (by repeat' first | exact trivial | rfl | apply And.intro), Nat.zero_le _, by simp⟩, ?_⟩
  intro k ⟨hk, hall⟩
  refine ⟨fun h6 => ?_, fun h6 => ?_⟩
  · simp at h6
    refine ⟨fun h => absurd h (by first | decide | simp), fun _ => ?_⟩
    refine ⟨fun h => absurd h (by first | decide | simp), fun _ => ?_⟩
    refine ⟨fun _ => ?_, fun h => absurd h (by first | decide | simp)⟩
    refine ⟨k, rfl, h6, by decide, _, idx h6, rfl, ?_⟩
    refine ⟨[], _, r_mat34 ms[k], rfl, ?_⟩
    refine ⟨fun h7 => ?_, fun h7 => ?_⟩
    · simp at h7
      exact bad fun q => h7 (o.1 q.2.2 _ (List.getElem_mem h6))
    · simp at h7
      refine ⟨k + 1, by show _ < _; simp; omega, ⟨rfl, rfl⟩, ⟨by show PV.v (.int _ _) = _; rw [succ_w3 (by omega)], trivial⟩, trivial, (by repeat' first | exact trivial | rfl | apply And.intro), h6, ?_⟩
      intro c hc
      rw [List.take_succ_eq_append_getElem h6, List.mem_append] at hc
      rcases hc with hc | hc
      · exact hall c hc
      · simp at hc; subst hc; exact h7
  · simp at h6
    have : k = ms.length := by omega
    subst this
    rw [List.take_length] at hall
    show SV.p (bl true) = _
    rw [decide_eq_true (show Stg.good _ _ _ from ⟨⟨by show (1 : Int) ≤ 3; decide, by show (3 : Int) ≤ 5; decide⟩, z.2 ⟨by simp [h1], by simp [h2], rfl, by simp [h4], by simp [h5]⟩, o.2 hall⟩)]

set_option maxHeartbeats 4000000 in
theorem r_stage4 (g : List Cx) (b : List (List Cx)) (ms : List Jn) (t : List Int) (f : List (List Jn)) (n m : Int) (hs : Enc.ok (⟨4, g, b, ms, t, f⟩ : Stg)) : Ret Try.prog 32 [stg ⟨4, g, b, ms, t, f⟩, i64 n, i64 m] [] (.p (bl (decide ((⟨4, g, b, ms, t, f⟩ : Stg).good n m)))) := by
  have bad : ¬ (⟨4, g, b, ms, t, f⟩ : Stg).good n m → SV.p (bl false) = SV.p (bl (decide ((⟨4, g, b, ms, t, f⟩ : Stg).good n m))) := fun h => by rw [decide_eq_false h]
  have z : (⟨4, g, b, ms, t, f⟩ : Stg).sizes n ↔ ((g.length : Int) = 0 ∧ (b.length : Int) = 0 ∧ (ms.length : Int) = 0 ∧ (t.length : Int) = n ∧ (f.length : Int) = 0) := by unfold Stg.sizes; simp
  have o : (⟨4, g, b, ms, t, f⟩ : Stg).own m ↔ ∀ c ∈ t, 0 ≤ c ∧ c ≤ 3 := by unfold Stg.own; simp
  have hl : t.length ≤ 9223372036854775807 := ml hs.2.2.2.2.1.1
  refine ret (fn := Try.f32) (by kernel_rfl) (by kernel_rfl) rfl ?_
  refine ⟨Nat.le_refl _, ?_⟩
  refine ⟨fun _ => ?_, fun h => absurd h (by first | decide | simp)⟩
  refine ⟨fun h => absurd h (by first | decide | simp), fun _ => ?_⟩
  refine ⟨3, rfl, by decide, by decide, ?_⟩
  refine ⟨0, rfl, by decide, _, rfl, rfl, ?_⟩
  refine ⟨fun h1 => ?_, fun h1 => ?_⟩
  rotate_left
  · simp at h1
    exact bad fun q => h1 (by have := (z.1 q.2.1).1; simpa using this)
  refine ⟨1, rfl, by decide, _, rfl, rfl, ?_⟩
  refine ⟨fun h2 => ?_, fun h2 => ?_⟩
  rotate_left
  · simp at h2
    exact bad fun q => h2 (by have := (z.1 q.2.1).2.1; simpa using this)
  refine ⟨2, rfl, by decide, _, rfl, rfl, ?_⟩
  refine ⟨fun h3 => ?_, fun h3 => ?_⟩
  rotate_left
  · simp at h3
    exact bad fun q => h3 (by have := (z.1 q.2.1).2.2.1; simpa using this)
  refine ⟨3, rfl, by decide, _, rfl, rfl, ?_⟩
  refine ⟨fun h4 => ?_, fun h4 => ?_⟩
  rotate_left
  · simp at h4
    exact bad fun q => h4 (by have := (z.1 q.2.1).2.2.2.1; simpa using this)
  refine ⟨4, rfl, by decide, _, rfl, rfl, ?_⟩
  refine ⟨fun h5 => ?_, fun h5 => ?_⟩
  · simp at h5
    exact bad fun q => h5 (by have := (z.1 q.2.1).2.2.2.2; simpa using this)
  simp at h1 h2 h3 h4 h5
  subst h4
  refine ⟨Nat, { inv := fun k => k ≤ t.length ∧ (∀ c ∈ t.take k, 0 ≤ c ∧ c ≤ 3), slots := [(8, fun k => i64 k)],  mu := fun k => t.length - k }, 0, ⟨⟨rfl, trivial⟩, trivial, (by repeat' first | exact trivial | rfl | apply And.intro), Nat.zero_le _, by simp⟩, ?_⟩
  intro k ⟨hk, hall⟩
  refine ⟨fun h6 => ?_, fun h6 => ?_⟩
  · simp at h6
    refine ⟨fun h => absurd h (by first | decide | simp), fun _ => ?_⟩
    refine ⟨fun h => absurd h (by first | decide | simp), fun _ => ?_⟩
    refine ⟨fun h => absurd h (by first | decide | simp), fun _ => ?_⟩
    refine ⟨fun _ => ?_, fun h => absurd h (by first | decide | simp)⟩
    refine ⟨k, rfl, h6, by decide, _, idx h6, rfl, ?_⟩
    refine ⟨fun h7 => ?_, fun h7 => ?_⟩
    rotate_left
    · simp at h7
      exact bad fun q => by have := (o.1 q.2.2 _ (List.getElem_mem h6)).1; omega
    simp at h7
    refine ⟨k, rfl, h6, by decide, _, idx h6, rfl, ?_⟩
    refine ⟨fun h8 => ?_, fun h8 => ?_⟩
    · simp at h8
      exact bad fun q => by have := (o.1 q.2.2 _ (List.getElem_mem h6)).2; omega
    · simp at h8
      refine ⟨k + 1, by show _ < _; simp; omega, ⟨rfl, rfl⟩, ⟨by show PV.v (.int _ _) = _; rw [succ_w3 (by omega)], trivial⟩, trivial, (by repeat' first | exact trivial | rfl | apply And.intro), h6, ?_⟩
      intro c hc
      rw [List.take_succ_eq_append_getElem h6, List.mem_append] at hc
      rcases hc with hc | hc
      · exact hall c hc
      · simp at hc; subst hc; exact ⟨h7, h8⟩
  · simp at h6
    have : k = t.length := by omega
    subst this
    rw [List.take_length] at hall
    show SV.p (bl true) = _
    rw [decide_eq_true (show Stg.good _ _ _ from ⟨⟨by show (1 : Int) ≤ 4; decide, by show (4 : Int) ≤ 5; decide⟩, z.2 ⟨by simp [h1], by simp [h2], by simp [h3], rfl, by simp [h5]⟩, o.2 hall⟩)]

set_option maxHeartbeats 4000000 in
theorem r_stage5 (g : List Cx) (b : List (List Cx)) (ms : List Jn) (t : List Int) (f : List (List Jn)) (n m : Int) (hs : Enc.ok (⟨5, g, b, ms, t, f⟩ : Stg)) : Ret Try.prog 32 [stg ⟨5, g, b, ms, t, f⟩, i64 n, i64 m] [] (.p (bl (decide ((⟨5, g, b, ms, t, f⟩ : Stg).good n m)))) := by
  have bad : ¬ (⟨5, g, b, ms, t, f⟩ : Stg).good n m → SV.p (bl false) = SV.p (bl (decide ((⟨5, g, b, ms, t, f⟩ : Stg).good n m))) := fun h => by rw [decide_eq_false h]
  have z : (⟨5, g, b, ms, t, f⟩ : Stg).sizes n ↔ ((g.length : Int) = 0 ∧ (b.length : Int) = 0 ∧ (ms.length : Int) = 0 ∧ (t.length : Int) = 0 ∧ (f.length : Int) = n) := by unfold Stg.sizes; simp
  have o : (⟨5, g, b, ms, t, f⟩ : Stg).own m ↔ ∀ c ∈ f, (c.length : Int) = m ∧ regs c := by unfold Stg.own; simp
  have hl : f.length ≤ 9223372036854775807 := ml hs.2.2.2.2.2.1
  refine ret (fn := Try.f32) (by kernel_rfl) (by kernel_rfl) rfl ?_
  refine ⟨Nat.le_refl _, ?_⟩
  refine ⟨fun _ => ?_, fun h => absurd h (by first | decide | simp)⟩
  refine ⟨fun h => absurd h (by first | decide | simp), fun _ => ?_⟩
  refine ⟨4, rfl, by decide, by decide, ?_⟩
  refine ⟨0, rfl, by decide, _, rfl, rfl, ?_⟩
  refine ⟨fun h1 => ?_, fun h1 => ?_⟩
  rotate_left
  · simp at h1
    exact bad fun q => h1 (by have := (z.1 q.2.1).1; simpa using this)
  refine ⟨1, rfl, by decide, _, rfl, rfl, ?_⟩
  refine ⟨fun h2 => ?_, fun h2 => ?_⟩
  rotate_left
  · simp at h2
    exact bad fun q => h2 (by have := (z.1 q.2.1).2.1; simpa using this)
  refine ⟨2, rfl, by decide, _, rfl, rfl, ?_⟩
  refine ⟨fun h3 => ?_, fun h3 => ?_⟩
  rotate_left
  · simp at h3
    exact bad fun q => h3 (by have := (z.1 q.2.1).2.2.1; simpa using this)
  refine ⟨3, rfl, by decide, _, rfl, rfl, ?_⟩
  refine ⟨fun h4 => ?_, fun h4 => ?_⟩
  rotate_left
  · simp at h4
    exact bad fun q => h4 (by have := (z.1 q.2.1).2.2.2.1; simpa using this)
  refine ⟨4, rfl, by decide, _, rfl, rfl, ?_⟩
  refine ⟨fun h5 => ?_, fun h5 => ?_⟩
  · simp at h5
    exact bad fun q => h5 (by have := (z.1 q.2.1).2.2.2.2; simpa using this)
  simp at h1 h2 h3 h4 h5
  subst h5
  refine ⟨Nat, { inv := fun k => k ≤ f.length ∧ (∀ c ∈ f.take k, (c.length : Int) = m ∧ regs c), slots := [(8, fun k => i64 k)],  mu := fun k => f.length - k }, 0, ⟨⟨rfl, trivial⟩, trivial, (by repeat' first | exact trivial | rfl | apply And.intro), Nat.zero_le _, by simp⟩, ?_⟩
  intro k ⟨hk, hall⟩
  refine ⟨fun h6 => ?_, fun h6 => ?_⟩
  · simp at h6
    refine ⟨fun h => absurd h (by first | decide | simp), fun _ => ?_⟩
    refine ⟨fun h => absurd h (by first | decide | simp), fun _ => ?_⟩
    refine ⟨fun h => absurd h (by first | decide | simp), fun _ => ?_⟩
    refine ⟨fun h => absurd h (by first | decide | simp), fun _ => ?_⟩
    refine ⟨k, rfl, h6, by decide, _, idx h6, rfl, ?_⟩
    have hr := hs.2.2.2.2.2.2 _ (List.getElem_mem h6)
    have hrl : f[k].length ≤ 9223372036854775807 := ml hr.1
    refine ⟨fun h7 => ?_, fun h7 => ?_⟩
    · simp at h7
      exact bad fun q => h7 (o.1 q.2.2 _ (List.getElem_mem h6)).1
    simp at h7
    refine ⟨Nat, { inv := fun j => j ≤ f[k].length ∧ (∀ c ∈ f[k].take j, (jinv c).2 = 0), slots := [(10, fun j => i64 j)],  mu := fun j => f[k].length - j }, 0, ⟨⟨rfl, trivial⟩, trivial, (by repeat' first | exact trivial | rfl | apply And.intro), Nat.zero_le _, by simp⟩, ?_⟩
    intro j ⟨hj, hall2⟩
    refine ⟨fun h8 => ?_, fun h8 => ?_⟩
    · have h8 : decide ((j : Int) < m) = true := h8
      simp at h8
      have h8 : j < f[k].length := by omega
      refine ⟨k, rfl, h6, by decide, _, idx h6, rfl, ?_⟩
      refine ⟨j, rfl, h8, by decide, _, idx h8, rfl, ?_⟩
      refine ⟨[], _, r_mat34 f[k][j], rfl, ?_⟩
      refine ⟨fun h9 => ?_, fun h9 => ?_⟩
      · simp at h9
        exact bad fun q => h9 ((o.1 q.2.2 _ (List.getElem_mem h6)).2 _ (List.getElem_mem h8))
      · simp at h9
        refine ⟨j + 1, by show _ < _; simp; omega, ⟨rfl, rfl⟩, ⟨by show PV.v (.int _ _) = _; rw [succ_w3 (by omega)], trivial⟩, trivial, (by repeat' first | exact trivial | rfl | apply And.intro), h8, ?_⟩
        intro c hc
        rw [List.take_succ_eq_append_getElem h8, List.mem_append] at hc
        rcases hc with hc | hc
        · exact hall2 c hc
        · simp at hc; subst hc; exact h9
    · have h8 : decide ((j : Int) < m) = false := h8
      simp at h8
      have : j = f[k].length := by omega
      subst this
      rw [List.take_length] at hall2
      refine ⟨k + 1, by show _ < _; simp; omega, ⟨rfl, rfl⟩, ⟨by show PV.v (.int _ _) = _; rw [succ_w3 (by omega)], trivial⟩, trivial, (by repeat' first | exact trivial | rfl | apply And.intro), h6, ?_⟩
      intro c hc
      rw [List.take_succ_eq_append_getElem h6, List.mem_append] at hc
      rcases hc with hc | hc
      · exact hall c hc
      · simp at hc; subst hc; exact ⟨h7, hall2⟩
  · simp at h6
    have : k = f.length := by omega
    subst this
    rw [List.take_length] at hall
    show SV.p (bl true) = _
    rw [decide_eq_true (show Stg.good _ _ _ from ⟨⟨by show (1 : Int) ≤ 5; decide, by show (5 : Int) ≤ 5; decide⟩, z.2 ⟨by simp [h1], by simp [h2], by simp [h3], by simp [h4], rfl⟩, o.2 hall⟩)]

theorem r_stage (s : Stg) (n m : Int) (hs : Enc.ok s) : Ret Try.prog 32 [stg s, i64 n, i64 m] [] (.p (bl (decide (s.good n m)))) := by
  by_cases hk : 1 ≤ s.kind ∧ s.kind ≤ 5
  · obtain ⟨kd, g, b, ms, t, f⟩ := s
    obtain rfl | rfl | rfl | rfl | rfl : kd = 1 ∨ kd = 2 ∨ kd = 3 ∨ kd = 4 ∨ kd = 5 := by simp at hk; omega
    · exact r_stage1 g b ms t f n m hs
    · exact r_stage2 g b ms t f n m hs
    · exact r_stage3 g b ms t f n m hs
    · exact r_stage4 g b ms t f n m hs
    · exact r_stage5 g b ms t f n m hs
  · have e : SV.p (bl false) = SV.p (bl (decide (s.good n m))) := by rw [decide_eq_false fun q => hk q.1]
    refine ret (fn := Try.f32) (by kernel_rfl) (by kernel_rfl) rfl ?_
    refine ⟨Nat.le_refl _, ?_⟩
    refine ⟨fun h1 => ?_, fun h1 => ?_⟩
    rotate_left
    · exact e
    refine ⟨fun h2 => ?_, fun h2 => ?_⟩
    · exact e
    · simp at h1 h2
      exact absurd ⟨h1, h2⟩ hk
end Go.Pv
