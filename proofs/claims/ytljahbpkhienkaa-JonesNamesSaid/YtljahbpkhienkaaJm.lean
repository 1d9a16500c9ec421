/- Contracts: loops of four stations, the code's. -/
import Derived.Test.YtljahbpkhienkaaJl
namespace Go.Pv
open Go.Vc
open Go.Proofs
set_option maxRecDepth 10000
set_option maxHeartbeats 4000000

/-- Four matrices' cells. -/
def c4 (w x y z : Jn) : List PV := Enc.cs w ++ (Enc.cs x ++ (Enc.cs y ++ Enc.cs z))

def ms4 (f : Nat → Jn) : Nat → List PV
  | 0 => c4 j0 j0 j0 j0
  | 1 => c4 (f 0) j0 j0 j0
  | 2 => c4 (f 0) (f 1) j0 j0
  | 3 => c4 (f 0) (f 1) (f 2) j0
  | _ => c4 (f 0) (f 1) (f 2) (f 3)

def ms2 (f : Nat → Jn) (g : Nat → Jn) : Nat → List PV
  | 0 => c4 (f 0) (f 1) (f 2) (f 3)
  | 1 => c4 (f 0) (g 1) (f 2) (f 3)
  | _ => c4 (f 0) (g 1) (f 2) (g 3)

def pr3 (x y z w : Jn) : Nat → Jn
  | 0 => x
  | 1 => (jmul x y).1
  | 2 => (jmul (jmul x y).1 z).1
  | _ => (jmul (jmul (jmul x y).1 z).1 w).1

theorem j_loop (l : List Pol) (a b c d : Int) (hl : ∀ p ∈ l, Enc.ok p) : Ret Try.prog 29 [sl l, i64 a, i64 b, i64 c, i64 d] [] (resJ (jloop l a b c d)) := by
  refine ret (fn := Try.f29) (by kernel_rfl) (by kernel_rfl) rfl ?_
  refine ⟨[], _, j_lerr l a b c d hl, rfl, ?_⟩
  refine ⟨fun h1 => ?_, fun h1 => ?_⟩
  · have h1 : jlerr l [a, b, c, d] ≠ 0 := by simpa using h1
    refine ⟨Nat.le_refl _, ?_⟩
    refine ⟨_, rfl, rfl, ?_⟩
    show resJ (j0, jlerr l [a, b, c, d]) = _
    rw [jloop, if_pos h1]
  have h1 : jlerr l [a, b, c, d] = 0 := by simpa using h1
  have hck : jck l = 0 := by
    unfold jlerr at h1
    split at h1
    · rename_i h'; exact absurd h1 h'
    · rename_i h'; simpa using h'
  obtain ⟨l1, l2, _⟩ := jck_0 hck
  have e0 : jloop l a b c d = jlp l a b c d := by rw [jloop, if_neg (by simp [h1])]
  rw [e0]
  obtain ⟨f, hf⟩ : ∃ f : Nat → Jn, f = fun k => match k with | 0 => gJ l a b | 1 => gJ l c b | 2 => gJ l c d | _ => gJ l a d := ⟨_, rfl⟩
  have none6 : ((jgot a b l).isNone = true ∨ (jgot c b l).isNone = true ∨ (jgot c d l).isNone = true ∨ (jgot a d l).isNone = true) → resJ (j0, 6) = resJ (jlp l a b c d) := fun h => by rw [jlp, if_pos h]
  refine ⟨Nat, { inv := fun k => k ≤ 4 ∧ (1 ≤ k → (jgot a b l).isNone = false) ∧ (2 ≤ k → (jgot c b l).isNone = false) ∧ (3 ≤ k → (jgot c d l).isNone = false) ∧ (4 ≤ k → (jgot a d l).isNone = false), slots := [(51, fun k => i64 k)], boxes := [(1, ms4 f)], mu := fun k => 4 - k }, 0, ⟨⟨rfl, trivial⟩, trivial, (by repeat' first | exact trivial | rfl | apply And.intro), Nat.zero_le _, by omega, by omega, by omega, by omega⟩, ?_⟩
  intro k ⟨hk, n1, n2, n3, n4⟩
  obtain rfl | rfl | rfl | rfl | rfl : k = 0 ∨ k = 1 ∨ k = 2 ∨ k = 3 ∨ k = 4 := by omega
  · refine ⟨fun _ => ?_, fun h => absurd h (by first | decide | simp)⟩
    refine ⟨0, rfl, by decide, _, rfl, rfl, ?_⟩
    refine ⟨Nat.le_refl _, ?_⟩
    refine ⟨0, rfl, by decide, ?_⟩
    refine ⟨_, rfl, rfl, ?_⟩
    refine ⟨1, rfl, by decide, ?_⟩
    refine ⟨_, rfl, rfl, ?_⟩
    refine ⟨[], _, j_find l a b l1 l2, rfl, ?_⟩
    refine ⟨Nat.le_refl _, ?_⟩
    refine ⟨fun hb => ?_, fun hb => ?_⟩
    · have hb : (jgot a b l).isNone = true := by
        have hb : ((if (jgot a b l).isNone = true then (6 : Int) else 0) != 0) = true := hb
        cases e : (jgot a b l).isNone with
        | true => rfl
        | false => rw [e] at hb; simp at hb
      have e6 : (jfind l a b).2 = 6 := by rw [jfind, if_pos hb]
      refine ⟨Nat.le_refl _, ?_⟩
      refine ⟨_, rfl, rfl, ?_⟩
      show resJ (j0, (jfind l a b).2) = _
      rw [e6]
      exact none6 (.inl hb)
    have hb : (jgot a b l).isNone = false := by
      have hb : ((if (jgot a b l).isNone = true then (6 : Int) else 0) != 0) = false := hb
      cases e : (jgot a b l).isNone with
      | false => rfl
      | true => rw [e] at hb; simp at hb
    refine ⟨_, rfl, rfl, ?_⟩
    refine ⟨0, rfl, by decide, ?_⟩
    refine ⟨(by decide : 0 * 12 + 12 ≤ 48), ?_⟩
    subst hf
    exact ⟨1, by show _ < _; simp, ⟨rfl, rfl⟩, ⟨rfl, trivial⟩, trivial, (by repeat' first | exact trivial | rfl | apply And.intro), (by decide : 1 ≤ 4), fun _ => hb, by omega, by omega, by omega⟩
  · refine ⟨fun _ => ?_, fun h => absurd h (by first | decide | simp)⟩
    refine ⟨1, rfl, by decide, _, rfl, rfl, ?_⟩
    refine ⟨Nat.le_refl _, ?_⟩
    refine ⟨0, rfl, by decide, ?_⟩
    refine ⟨_, rfl, rfl, ?_⟩
    refine ⟨1, rfl, by decide, ?_⟩
    refine ⟨_, rfl, rfl, ?_⟩
    refine ⟨[], _, j_find l c b l1 l2, rfl, ?_⟩
    refine ⟨Nat.le_refl _, ?_⟩
    refine ⟨fun hb => ?_, fun hb => ?_⟩
    · have hb : (jgot c b l).isNone = true := by
        have hb : ((if (jgot c b l).isNone = true then (6 : Int) else 0) != 0) = true := hb
        cases e : (jgot c b l).isNone with
        | true => rfl
        | false => rw [e] at hb; simp at hb
      have e6 : (jfind l c b).2 = 6 := by rw [jfind, if_pos hb]
      refine ⟨Nat.le_refl _, ?_⟩
      refine ⟨_, rfl, rfl, ?_⟩
      show resJ (j0, (jfind l c b).2) = _
      rw [e6]
      exact none6 (.inr (.inl hb))
    have hb : (jgot c b l).isNone = false := by
      have hb : ((if (jgot c b l).isNone = true then (6 : Int) else 0) != 0) = false := hb
      cases e : (jgot c b l).isNone with
      | false => rfl
      | true => rw [e] at hb; simp at hb
    refine ⟨_, rfl, rfl, ?_⟩
    refine ⟨1, rfl, by decide, ?_⟩
    refine ⟨(by decide : 1 * 12 + 12 ≤ 48), ?_⟩
    subst hf
    exact ⟨2, by show _ < _; simp, ⟨rfl, rfl⟩, ⟨rfl, trivial⟩, trivial, (by repeat' first | exact trivial | rfl | apply And.intro), (by decide : 2 ≤ 4), fun _ => n1 (by omega), fun _ => hb, by omega, by omega⟩
  · refine ⟨fun _ => ?_, fun h => absurd h (by first | decide | simp)⟩
    refine ⟨2, rfl, by decide, _, rfl, rfl, ?_⟩
    refine ⟨Nat.le_refl _, ?_⟩
    refine ⟨0, rfl, by decide, ?_⟩
    refine ⟨_, rfl, rfl, ?_⟩
    refine ⟨1, rfl, by decide, ?_⟩
    refine ⟨_, rfl, rfl, ?_⟩
    refine ⟨[], _, j_find l c d l1 l2, rfl, ?_⟩
    refine ⟨Nat.le_refl _, ?_⟩
    refine ⟨fun hb => ?_, fun hb => ?_⟩
    · have hb : (jgot c d l).isNone = true := by
        have hb : ((if (jgot c d l).isNone = true then (6 : Int) else 0) != 0) = true := hb
        cases e : (jgot c d l).isNone with
        | true => rfl
        | false => rw [e] at hb; simp at hb
      have e6 : (jfind l c d).2 = 6 := by rw [jfind, if_pos hb]
      refine ⟨Nat.le_refl _, ?_⟩
      refine ⟨_, rfl, rfl, ?_⟩
      show resJ (j0, (jfind l c d).2) = _
      rw [e6]
      exact none6 (.inr (.inr (.inl hb)))
    have hb : (jgot c d l).isNone = false := by
      have hb : ((if (jgot c d l).isNone = true then (6 : Int) else 0) != 0) = false := hb
      cases e : (jgot c d l).isNone with
      | false => rfl
      | true => rw [e] at hb; simp at hb
    refine ⟨_, rfl, rfl, ?_⟩
    refine ⟨2, rfl, by decide, ?_⟩
    refine ⟨(by decide : 2 * 12 + 12 ≤ 48), ?_⟩
    subst hf
    exact ⟨3, by show _ < _; simp, ⟨rfl, rfl⟩, ⟨rfl, trivial⟩, trivial, (by repeat' first | exact trivial | rfl | apply And.intro), (by decide : 3 ≤ 4), fun _ => n1 (by omega), fun _ => n2 (by omega), fun _ => hb, by omega⟩
  · refine ⟨fun _ => ?_, fun h => absurd h (by first | decide | simp)⟩
    refine ⟨3, rfl, by decide, _, rfl, rfl, ?_⟩
    refine ⟨Nat.le_refl _, ?_⟩
    refine ⟨0, rfl, by decide, ?_⟩
    refine ⟨_, rfl, rfl, ?_⟩
    refine ⟨1, rfl, by decide, ?_⟩
    refine ⟨_, rfl, rfl, ?_⟩
    refine ⟨[], _, j_find l a d l1 l2, rfl, ?_⟩
    refine ⟨Nat.le_refl _, ?_⟩
    refine ⟨fun hb => ?_, fun hb => ?_⟩
    · have hb : (jgot a d l).isNone = true := by
        have hb : ((if (jgot a d l).isNone = true then (6 : Int) else 0) != 0) = true := hb
        cases e : (jgot a d l).isNone with
        | true => rfl
        | false => rw [e] at hb; simp at hb
      have e6 : (jfind l a d).2 = 6 := by rw [jfind, if_pos hb]
      refine ⟨Nat.le_refl _, ?_⟩
      refine ⟨_, rfl, rfl, ?_⟩
      show resJ (j0, (jfind l a d).2) = _
      rw [e6]
      exact none6 (.inr (.inr (.inr hb)))
    have hb : (jgot a d l).isNone = false := by
      have hb : ((if (jgot a d l).isNone = true then (6 : Int) else 0) != 0) = false := hb
      cases e : (jgot a d l).isNone with
      | false => rfl
      | true => rw [e] at hb; simp at hb
    refine ⟨_, rfl, rfl, ?_⟩
    refine ⟨3, rfl, by decide, ?_⟩
    refine ⟨(by decide : 3 * 12 + 12 ≤ 48), ?_⟩
    subst hf
    exact ⟨4, by show _ < _; simp, ⟨rfl, rfl⟩, ⟨rfl, trivial⟩, trivial, (by repeat' first | exact trivial | rfl | apply And.intro), (by decide : 4 ≤ 4), fun _ => n1 (by omega), fun _ => n2 (by omega), fun _ => n3 (by omega), fun _ => hb⟩
  refine ⟨fun h => absurd h (by first | decide | simp), fun _ => ?_⟩
  have n1 := n1 (by omega)
  have n2 := n2 (by omega)
  have n3 := n3 (by omega)
  have n4 := n4 (by omega)
  have f0 : f 0 = gJ l a b := congrFun hf 0
  have f1 : f 1 = gJ l c b := congrFun hf 1
  have f2 : f 2 = gJ l c d := congrFun hf 2
  have f3 : f 3 = gJ l a d := congrFun hf 3
  have v0 : (f 0).valid := by rw [f0]; exact gJ_valid l2 n1
  have v1 : (f 1).valid := by rw [f1]; exact gJ_valid l2 n2
  have v2 : (f 2).valid := by rw [f2]; exact gJ_valid l2 n3
  have v3 : (f 3).valid := by rw [f3]; exact gJ_valid l2 n4
  have e1 : jlp l a b c d = if (jinv (f 1)).2 ≠ 0 then (j0, (jinv (f 1)).2) else if (jinv (f 3)).2 ≠ 0 then (j0, (jinv (f 3)).2) else jm3 (f 0) (jinv (f 1)).1 (f 2) (jinv (f 3)).1 := by
    rw [f0, f1, f2, f3, jlp, if_neg (by simp [n1, n2, n3, n4])]
  rw [e1]
  clear e1 f0 f1 f2 f3 hf none6
  refine ⟨Nat, { inv := fun k => k ≤ 2 ∧ (1 ≤ k → (jinv (f 1)).2 = 0) ∧ (2 ≤ k → (jinv (f 3)).2 = 0), slots := [(73, fun k => i64 k)], boxes := [(1, ms2 f fun k => (jinv (f k)).1)], mu := fun k => 2 - k }, 0, ⟨⟨rfl, trivial⟩, trivial, (by repeat' first | exact trivial | rfl | apply And.intro), Nat.zero_le _, by omega, by omega⟩, ?_⟩
  intro k ⟨hk, i1, i3⟩
  obtain rfl | rfl | rfl : k = 0 ∨ k = 1 ∨ k = 2 := by omega
  · refine ⟨fun _ => ?_, fun h => absurd h (by first | decide | simp)⟩
    refine ⟨0, rfl, by decide, _, rfl, rfl, ?_⟩
    refine ⟨1, rfl, by decide, ?_⟩
    refine ⟨_, rfl, rfl, ?_⟩
    refine ⟨[], _, j_inv (f 1) (jn_ok v1), rfl, ?_⟩
    refine ⟨Nat.le_refl _, ?_⟩
    refine ⟨fun hb => ?_, fun hb => ?_⟩
    · have hb : (jinv (f 1)).2 ≠ 0 := by simpa using hb
      refine ⟨Nat.le_refl _, ?_⟩
      refine ⟨_, rfl, rfl, ?_⟩
      show resJ (j0, (jinv (f 1)).2) = _
      rw [if_pos hb]
    have hb : (jinv (f 1)).2 = 0 := by simpa using hb
    refine ⟨_, rfl, rfl, ?_⟩
    refine ⟨1, rfl, by decide, ?_⟩
    refine ⟨(by decide : 1 * 12 + 12 ≤ 48), ?_⟩
    exact ⟨1, by show _ < _; simp, ⟨rfl, rfl⟩, ⟨rfl, trivial⟩, trivial, (by repeat' first | exact trivial | rfl | apply And.intro), (by decide : 1 ≤ 2), fun _ => hb, by omega⟩
  · refine ⟨fun _ => ?_, fun h => absurd h (by first | decide | simp)⟩
    refine ⟨1, rfl, by decide, _, rfl, rfl, ?_⟩
    refine ⟨3, rfl, by decide, ?_⟩
    refine ⟨_, rfl, rfl, ?_⟩
    refine ⟨[], _, j_inv (f 3) (jn_ok v3), rfl, ?_⟩
    refine ⟨Nat.le_refl _, ?_⟩
    refine ⟨fun hb => ?_, fun hb => ?_⟩
    · have hb : (jinv (f 3)).2 ≠ 0 := by simpa using hb
      refine ⟨Nat.le_refl _, ?_⟩
      refine ⟨_, rfl, rfl, ?_⟩
      show resJ (j0, (jinv (f 3)).2) = _
      rw [if_neg (by simp [i1 (by omega)]), if_pos hb]
    have hb : (jinv (f 3)).2 = 0 := by simpa using hb
    refine ⟨_, rfl, rfl, ?_⟩
    refine ⟨3, rfl, by decide, ?_⟩
    refine ⟨(by decide : 3 * 12 + 12 ≤ 48), ?_⟩
    exact ⟨2, by show _ < _; simp, ⟨rfl, rfl⟩, ⟨rfl, trivial⟩, trivial, (by repeat' first | exact trivial | rfl | apply And.intro), (by decide : 2 ≤ 2), fun _ => i1 (by omega), fun _ => hb⟩
  refine ⟨fun h => absurd h (by first | decide | simp), fun _ => ?_⟩
  have i1 := i1 (by omega)
  have i3 := i3 (by omega)
  obtain ⟨_, w1, _⟩ := jinv_v i1
  obtain ⟨_, w3, _⟩ := jinv_v i3
  rw [if_neg (by simp [i1]), if_neg (by simp [i3])]
  obtain ⟨X, hX⟩ : ∃ X, X = f 0 := ⟨_, rfl⟩
  refine ⟨0, rfl, by decide, ?_⟩
  refine ⟨_, rfl, rfl, ?_⟩
  refine ⟨Nat.le_refl _, ?_⟩
  refine ⟨rfl, 1, rfl, by decide, Nat.le_refl _, ?_⟩
  refine ⟨Nat, { inv := fun k => k ≤ 3 ∧ (1 ≤ k → (jmul (f 0) (jinv (f 1)).1).2 = 0) ∧ (2 ≤ k → (jmul (jmul (f 0) (jinv (f 1)).1).1 (f 2)).2 = 0) ∧ (3 ≤ k → (jmul (jmul (jmul (f 0) (jinv (f 1)).1).1 (f 2)).1 (jinv (f 3)).1).2 = 0), slots := [(95, fun k => i64 k)], boxes := [(2, fun k => Enc.cs (pr3 (f 0) (jinv (f 1)).1 (f 2) (jinv (f 3)).1 k))], mu := fun k => 3 - k }, 0, ⟨⟨rfl, trivial⟩, trivial, (by repeat' first | exact trivial | rfl | apply And.intro), Nat.zero_le _, by omega, by omega, by omega⟩, ?_⟩
  intro k ⟨hk, p1, p2, p3⟩
  obtain rfl | rfl | rfl | rfl : k = 0 ∨ k = 1 ∨ k = 2 ∨ k = 3 := by omega
  · refine ⟨fun _ => ?_, fun h => absurd h (by first | decide | simp)⟩
    refine ⟨0, rfl, by decide, by decide, _, rfl, rfl, ?_⟩
    refine ⟨Nat.le_refl _, ?_⟩
    refine ⟨_, rfl, rfl, ?_⟩
    refine ⟨_, rfl, rfl, ?_⟩
    refine ⟨[], _, j_mul (f 0) (jinv (f 1)).1 (jn_ok v0) (jn_ok w1), rfl, ?_⟩
    refine ⟨Nat.le_refl _, ?_⟩
    refine ⟨fun hb => ?_, fun hb => ?_⟩
    · have hb : (jmul (f 0) (jinv (f 1)).1).2 ≠ 0 := by simpa using hb
      refine ⟨Nat.le_refl _, ?_⟩
      refine ⟨_, rfl, rfl, ?_⟩
      show resJ (j0, (jmul (f 0) (jinv (f 1)).1).2) = _
      rw [jm3, if_pos hb]
    have hb : (jmul (f 0) (jinv (f 1)).1).2 = 0 := by simpa using hb
    refine ⟨_, rfl, rfl, ?_⟩
    refine ⟨Nat.le_refl _, ?_⟩
    exact ⟨1, by show _ < _; simp, ⟨rfl, rfl⟩, ⟨rfl, trivial⟩, trivial, (by repeat' first | exact trivial | rfl | apply And.intro), (by decide : 1 ≤ 3), fun _ => hb, by omega, by omega⟩
  · refine ⟨fun _ => ?_, fun h => absurd h (by first | decide | simp)⟩
    refine ⟨1, rfl, by decide, by decide, _, rfl, rfl, ?_⟩
    refine ⟨Nat.le_refl _, ?_⟩
    refine ⟨_, rfl, rfl, ?_⟩
    refine ⟨_, rfl, rfl, ?_⟩
    refine ⟨[], _, j_mul (jmul (f 0) (jinv (f 1)).1).1 (f 2) (jn_ok (jmul_v (p1 (by omega))).2.2.1) (jn_ok v2), rfl, ?_⟩
    refine ⟨Nat.le_refl _, ?_⟩
    refine ⟨fun hb => ?_, fun hb => ?_⟩
    · have hb : (jmul (jmul (f 0) (jinv (f 1)).1).1 (f 2)).2 ≠ 0 := by simpa using hb
      refine ⟨Nat.le_refl _, ?_⟩
      refine ⟨_, rfl, rfl, ?_⟩
      show resJ (j0, (jmul (jmul (f 0) (jinv (f 1)).1).1 (f 2)).2) = _
      rw [jm3, if_neg (by simp [p1 (by omega)]), if_pos hb]
    have hb : (jmul (jmul (f 0) (jinv (f 1)).1).1 (f 2)).2 = 0 := by simpa using hb
    refine ⟨_, rfl, rfl, ?_⟩
    refine ⟨Nat.le_refl _, ?_⟩
    exact ⟨2, by show _ < _; simp, ⟨rfl, rfl⟩, ⟨rfl, trivial⟩, trivial, (by repeat' first | exact trivial | rfl | apply And.intro), (by decide : 2 ≤ 3), fun _ => p1 (by omega), fun _ => hb, by omega⟩
  · refine ⟨fun _ => ?_, fun h => absurd h (by first | decide | simp)⟩
    refine ⟨2, rfl, by decide, by decide, _, rfl, rfl, ?_⟩
    refine ⟨Nat.le_refl _, ?_⟩
    refine ⟨_, rfl, rfl, ?_⟩
    refine ⟨_, rfl, rfl, ?_⟩
    refine ⟨[], _, j_mul (jmul (jmul (f 0) (jinv (f 1)).1).1 (f 2)).1 (jinv (f 3)).1 (jn_ok (jmul_v (p2 (by omega))).2.2.1) (jn_ok w3), rfl, ?_⟩
    refine ⟨Nat.le_refl _, ?_⟩
    refine ⟨fun hb => ?_, fun hb => ?_⟩
    · have hb : (jmul (jmul (jmul (f 0) (jinv (f 1)).1).1 (f 2)).1 (jinv (f 3)).1).2 ≠ 0 := by simpa using hb
      refine ⟨Nat.le_refl _, ?_⟩
      refine ⟨_, rfl, rfl, ?_⟩
      show resJ (j0, (jmul (jmul (jmul (f 0) (jinv (f 1)).1).1 (f 2)).1 (jinv (f 3)).1).2) = _
      rw [jm3, if_neg (by simp [p1 (by omega)]), if_neg (by simp [p2 (by omega)]), jmul_bad hb]
    have hb : (jmul (jmul (jmul (f 0) (jinv (f 1)).1).1 (f 2)).1 (jinv (f 3)).1).2 = 0 := by simpa using hb
    refine ⟨_, rfl, rfl, ?_⟩
    refine ⟨Nat.le_refl _, ?_⟩
    exact ⟨3, by show _ < _; simp, ⟨rfl, rfl⟩, ⟨rfl, trivial⟩, trivial, (by repeat' first | exact trivial | rfl | apply And.intro), (by decide : 3 ≤ 3), fun _ => p1 (by omega), fun _ => p2 (by omega), fun _ => hb⟩
  refine ⟨fun h => absurd h (by first | decide | simp), fun _ => ?_⟩
  refine ⟨_, rfl, rfl, ?_⟩
  refine ⟨Nat.le_refl _, ?_⟩
  refine ⟨_, rfl, rfl, ?_⟩
  show resJ ((jmul (jmul (jmul (f 0) (jinv (f 1)).1).1 (f 2)).1 (jinv (f 3)).1).1, 0) = _
  rw [jm3, if_neg (by simp [p1 (by omega)]), if_neg (by simp [p2 (by omega)])]
  have := p3 (by omega)
  rw [resJ, resJ, this]
end Go.Pv
