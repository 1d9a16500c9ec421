/- Gains acting on ones; which triples there are. -/
import Derived.Test.YtikimjgbbbajoaaPlGains
namespace Go.Pv
open Go.Vc

theorem mem_tris {l : List Vis} {t : Tri} : ∀ {n : Nat}, t ∈ tris l n ↔ ∃ k, k < n ∧ isTri l k = true ∧ t = ⟨(k / 64 : Nat), (k / 8 % 8 : Nat), (k % 8 : Nat)⟩
  | 0 => by simp [tris]
  | n + 1 => by
    rw [tris, List.mem_append, mem_tris (n := n)]
    constructor
    · rintro (⟨k, h1, h2, h3⟩ | h)
      · exact ⟨k, by omega, h2, h3⟩
      · split at h
        · rename_i hi
          exact ⟨n, by omega, hi, by simpa using h⟩
        · simp at h
    · rintro ⟨k, h1, h2, h3⟩
      by_cases e : k = n
      · subst e
        right
        rw [if_pos h2]; simp [h3]
      · exact .inl ⟨k, by omega, h2, h3⟩

theorem tris_up {l : List Vis} {t : Tri} {n : Nat} (h : t ∈ tris l n) : t.a < t.b ∧ t.b < t.c := by
  obtain ⟨k, _, h2, rfl⟩ := mem_tris.1 h
  unfold isTri at h2
  simp only [Bool.and_eq_true, decide_eq_true_eq] at h2
  exact ⟨by show ((k / 64 : Nat) : Int) < ((k / 8 % 8 : Nat) : Int); omega, by show ((k / 8 % 8 : Nat) : Int) < ((k % 8 : Nat) : Int); omega⟩

theorem tris_has {l : List Vis} (hl : ∀ v ∈ l, v.good 8) {a b c : Int} (ha : 0 ≤ a) (hab : a < b) (hbc : b < c) (hc : c < 8) :
    (⟨a, b, c⟩ ∈ tris l 512) ↔ ((got a b l).isSome = true ∧ (got b c l).isSome = true ∧ (got a c l).isSome = true) := by
  obtain ⟨x, rfl⟩ : ∃ x : Nat, a = x := ⟨a.toNat, by omega⟩
  obtain ⟨y, rfl⟩ : ∃ y : Nat, b = y := ⟨b.toNat, by omega⟩
  obtain ⟨z, rfl⟩ : ∃ z : Nat, c = z := ⟨c.toNat, by omega⟩
  rw [got_some hl (by omega) (by omega), got_some hl (by omega) (by omega), got_some hl (by omega) (by omega), mem_tris]
  have e := isTri_at l (a := x) (b := y) (c := z) (by omega) (by omega) (by omega)
  constructor
  · rintro ⟨k, h1, h2, h3⟩
    simp only [Tri.mk.injEq] at h3
    have : k = x * 64 + y * 8 + z := by omega
    subst this
    rw [e] at h2
    simpa [Bool.and_eq_true, and_assoc] using h2
  · rintro ⟨h1, h2, h3⟩
    refine ⟨x * 64 + y * 8 + z, by omega, by rw [e, h1, h2, h3]; rfl, ?_⟩
    have e1 : (x * 64 + y * 8 + z) / 64 = x := by omega
    have e2 : (x * 64 + y * 8 + z) / 8 % 8 = y := by omega
    have e3 : (x * 64 + y * 8 + z) % 8 = z := by omega
    rw [e1, e2, e3]

/-- The phase of a triple is told unless a visibility lacks. -/
theorem phase_6 {l : List Vis} (h0 : ck27 l = 0) {a b c : Int} (hc : circle [a, b, c]) : (phase l [a, b, c]).2 ≠ 6 ↔ ((got a b l).isSome = true ∧ (got b c l).isSome = true ∧ (got a c l).isSome = true) := by
  obtain ⟨_, hgood, _⟩ := ck27_0 h0
  have hp : pairs [a, b, c] = [⟨a, b⟩, ⟨b, c⟩, ⟨c, a⟩] := by simp [pairs, List.range, List.range.loop]
  have hall : ((pairs [a, b, c]).all fun s => (got s.a s.b l).isSome) = true ↔ ((got a b l).isSome = true ∧ (got b c l).isSome = true ∧ (got a c l).isSome = true) := by
    rw [hp]
    simp only [List.all_cons, List.all_nil, Bool.and_true, Bool.and_eq_true]
    rw [got_swap hgood a c, Option.isSome_map]
  rw [← hall]
  rcases phase_cases h0 hc with ⟨h1, h2⟩ | ⟨h1, h2⟩
  · rw [h2]
    show (along27 l (pairs [a, b, c])).2 ≠ 6 ↔ _
    unfold along27
    by_cases H : ((pairs [a, b, c]).all fun s => (got s.a s.b l).isSome) = true
    · rw [if_pos H]
      split <;> simp [H]
    · rw [if_neg H]; simp [H]
  · have H : ((pairs [a, b, c]).all fun s => (got s.a s.b l).isSome) = true := by
      by_cases H : ((pairs [a, b, c]).all fun s => (got s.a s.b l).isSome) = true
      · exact H
      · unfold along27 at h1; rw [if_neg H] at h1; simp at h1
    simp only [H, iff_true]
    rcases h2 with h2 | h2
    · rw [h2]; decide
    · rw [h2.1]; decide

def onesOf (l : List Vis) : List Vis := l.map fun v => v.set one

theorem ones_ck {l : List Vis} (h0 : ck27 l = 0) : ck27 (onesOf l) = 0 := by
  obtain ⟨h1, h2, h3⟩ := ck27_0 h0
  have e : all26 (onesOf l) 8 = 0 := by
    unfold all26 onesOf
    rw [if_neg (by rw [List.length_map]; omega), if_pos]
    rw [List.all_eq_true]
    intro v hv
    rw [List.mem_map] at hv
    obtain ⟨u, hu, rfl⟩ := hv
    have hgood := h2 u hu
    exact decide_eq_true ⟨hgood.1, hgood.2.1, hgood.2.2.1, hgood.2.2.2.1, one_valid⟩
  unfold ck27
  rw [if_neg (by simp [e]), if_pos]
  unfold onesOf
  rw [List.map_map]
  exact h3

theorem ones_got (l : List Vis) (i j : Int) : got i j (onesOf l) = none ∨ got i j (onesOf l) = some one := by
  induction l with
  | nil => exact .inl rfl
  | cons v r ih =>
    show got i j (v.set one :: onesOf r) = none ∨ got i j (v.set one :: onesOf r) = some one
    unfold got
    split
    · exact .inr rfl
    · split
      · exact .inr rfl
      · exact ih

theorem ones_gD {l : List Vis} {s : Pr} (h : (got s.a s.b (onesOf l)).isSome = true) : gD (onesOf l) s = one := by
  unfold gD
  rcases ones_got l s.a s.b with h' | h'
  · rw [h'] at h; cases h
  · rw [h']; rfl

theorem ones_phase {g : List Cx} {l m : List Vis} (H : Acts g (onesOf l) m) {a b c : Int} (h : (phase m [a, b, c]).2 = 0) : (phase m [a, b, c]).1 = one := by
  by_cases hc : circle [a, b, c]
  · have ha := acts_along H (pairs [a, b, c])
    have hz : (along27 (onesOf l) (pairs [a, b, c])).2 = 0 := by
      rw [← ha]
      rcases phase_cases H.h1 hc with ⟨q1, q2⟩ | ⟨q1, _⟩
      · rw [q2] at h; exact absurd h q1
      · exact q1
    obtain ⟨_, hgood, _⟩ := ck27_0 H.h0
    obtain ⟨e1, e2, _⟩ := along27_0 hgood hz
    have hp : pairs [a, b, c] = [⟨a, b⟩, ⟨b, c⟩, ⟨c, a⟩] := by simp [pairs, List.range, List.range.loop]
    have e : phase (onesOf l) [a, b, c] = (one, 0) := by
      rw [phase, if_neg (by simp [H.h0]), if_neg (by simp [hc]), if_neg (by simp [hz]), e1]
      rw [hp] at e2 ⊢
      rw [List.map_cons, List.map_cons, List.map_cons, List.map_nil, ones_gD (e2 _ (by simp)), ones_gD (e2 _ (by simp)), ones_gD (e2 _ (by simp))]
      decide +kernel
    have := (acts_phase H [a, b, c]).2 (by rw [e]) h
    rw [← this, e]
  · have e2 : phase m [a, b, c] = (c0, 2) := by rw [phase, if_neg (by simp [H.h1]), if_pos hc]
    rw [e2] at h; simp at h

theorem ones_amp {g : List Cx} {l m : List Vis} (H : Acts g (onesOf l) m) {a b c d : Int} (h : (amp m a b c d).2 = 0) : (amp m a b c d).1 = ⟨1, 1⟩ := by
  have ha := acts_along H [⟨a, b⟩, ⟨c, d⟩, ⟨a, c⟩, ⟨b, d⟩]
  obtain ⟨_, hgood, _⟩ := ck27_0 H.h0
  rcases amp_cases H.h1 a b c d with ⟨q1, q2⟩ | ⟨q1, q2, q3⟩ | ⟨q1, q2, q3⟩
  · rw [q2] at h; simp at h
  · rw [q3] at h; exact absurd h q2
  · have hz : (along27 (onesOf l) [⟨a, b⟩, ⟨c, d⟩, ⟨a, c⟩, ⟨b, d⟩]).2 = 0 := by rw [← ha]; exact q2
    obtain ⟨_, e2, _⟩ := along27_0 hgood hz
    have e : amp (onesOf l) a b c d = (⟨1, 1⟩, 0) := by
      rw [amp, if_neg (by simp [H.h0]), if_neg (by simp [q1]), if_neg (by simp [hz])]
      rw [ones_gD (e2 _ (by simp)), ones_gD (e2 _ (by simp)), ones_gD (e2 _ (by simp)), ones_gD (e2 _ (by simp))]
      decide +kernel
    have := (acts_amp H a b c d).2 (by rw [e]) h
    rw [← this, e]

end Go.Pv
