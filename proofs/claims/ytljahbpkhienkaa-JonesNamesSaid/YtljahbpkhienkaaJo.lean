/- Contracts: the reference's loops; the law JonesActs. -/
import Derived.Test.YtljahbpkhienkaaJm
namespace Go.Pv
open Go.Vc
open Go.Proofs
set_option maxRecDepth 10000
set_option maxHeartbeats 4000000

theorem r_station (s : Int) : Ret Try.prog 59 [i64 s] [] (.p (bl (decide (0 ≤ s ∧ s < 8)))) := by
  refine ret (fn := Try.f59) (by kernel_rfl) (by kernel_rfl) rfl ?_
  refine ⟨fun h => ?_, fun h => ?_⟩
  · show SV.p (.v (.bool _)) = _
    simp at h
    congr 3
    rw [Bool.eq_iff_iff]
    simp [h]
  · show SV.p (.v (.bool _)) = _
    simp at h
    have : ¬ (0 ≤ s ∧ s < 8) := by omega
    simp [this]


theorem r_apart27 (l : List Int) (hlen : l.length ≤ 1000000) : Ret Try.prog 32 [sl l] [] (.p (bl (decide (apart l)))) := by
  refine ret (fn := Try.f32) (by kernel_rfl) (by kernel_rfl) rfl ?_
  refine ⟨Nat, { inv := fun k => k ≤ l.length ∧ apart (l.take k), slots := [(3, fun k => i64 k)], mu := fun k => l.length - k }, 0, ⟨⟨rfl, trivial⟩, trivial, trivial, Nat.zero_le _, by simp [apart]⟩, ?_⟩
  intro k ⟨hk, hall⟩
  refine ⟨fun h2 => ?_, fun h2 => ?_⟩
  · simp at h2
    have bad : ¬ apart (l.take (k + 1)) → SV.p (bl false) = SV.p (bl (decide (apart l))) := fun h => by
      have : ¬ apart l := fun h' => h (apart_take _ h')
      simp [this]
    rw [apart_succ h2] at bad
    refine ⟨k, rfl, h2, by decide, _, idx h2, rfl, ?_⟩
    refine ⟨[], _, r_station l[k], rfl, ?_⟩
    refine ⟨fun h3 => ?_, fun h3 => ?_⟩
    · simp at h3
      exact bad fun h => by omega
    · simp at h3
      refine ⟨Nat, { inv := fun m => m ≤ k ∧ ∀ j, (hj : j < m) → (hk' : j < k) → (l[j]'(by omega)) ≠ l[k], slots := [(4, fun m => i64 m)], mu := fun m => k - m }, 0, ⟨⟨rfl, trivial⟩, trivial, trivial, Nat.zero_le _, fun j hj => absurd hj (by omega)⟩, ?_⟩
      intro m ⟨hm, hne⟩
      refine ⟨fun h4 => ?_, fun h4 => ?_⟩
      · simp at h4
        have h4' : m < l.length := by omega
        refine ⟨m, rfl, h4', by decide, _, idx h4', rfl, ?_⟩
        refine ⟨k, rfl, h2, by decide, _, idx h2, rfl, ?_⟩
        refine ⟨fun h5 => ?_, fun h5 => ?_⟩
        · simp at h5
          exact bad fun h => h.2.2 (by rw [← h5, List.mem_take_iff_getElem]; exact ⟨m, by omega, rfl⟩)
        · simp at h5
          refine ⟨m + 1, by show _ < _; simp; omega, ⟨rfl, rfl⟩, ⟨?_, trivial⟩, trivial, trivial, by omega, ?_⟩
          · show PV.v (.int _ _) = _
            rw [succ_w (by omega)]
          · intro j hj hk'
            by_cases e : j = m
            · subst e; exact h5
            · exact hne j (by omega) hk'
      · simp at h4
        refine ⟨k + 1, by show _ < _; simp; omega, ⟨rfl, rfl⟩, ⟨?_, trivial⟩, trivial, trivial, by omega, ?_⟩
        · show PV.v (.int _ _) = _
          rw [succ_w (by omega)]
        · rw [apart_succ h2]
          refine ⟨hall, by omega, fun hmem => ?_⟩
          rw [List.mem_take_iff_getElem] at hmem
          obtain ⟨j, hj, e⟩ := hmem
          exact hne j (by omega) (by omega) e
  · simp at h2
    have : k = l.length := by omega
    subst this
    rw [List.take_length] at hall
    show SV.p (bl _) = _
    simp [hall]


theorem jr_loop (l : List Pol) (a b c d : Int) : Ret Try.prog 30 [sl l, i64 a, i64 b, i64 c, i64 d] [] (resJ (jloop l a b c d)) := by
  refine ret (fn := Try.f30) (by kernel_rfl) (by kernel_rfl) rfl ?_
  refine ⟨[], _, jr_check l, rfl, ?_⟩
  refine ⟨fun h1 => ?_, fun h1 => ?_⟩
  · have h1 : jck l ≠ 0 := by simpa using h1
    have e : jlerr l [a, b, c, d] = jck l := by rw [jlerr, if_pos h1]
    refine ⟨Nat.le_refl _, ?_⟩
    refine ⟨_, rfl, rfl, ?_⟩
    show resJ (j0, jck l) = _
    rw [jloop, e, if_pos h1]
  have h1 : jck l = 0 := by simpa using h1
  obtain ⟨l1, l2, _⟩ := jck_0 h1
  refine ⟨[], _, r_apart27 [a, b, c, d] (by show 4 ≤ _; omega), rfl, ?_⟩
  refine ⟨fun h2 => ?_, fun h2 => ?_⟩
  · have h2 : ¬ apart [a, b, c, d] := by simpa using h2
    have e : jlerr l [a, b, c, d] = 2 := by rw [jlerr, if_neg (by simp [h1]), if_neg h2]
    refine ⟨Nat.le_refl _, ?_⟩
    refine ⟨_, rfl, rfl, ?_⟩
    show resJ (j0, 2) = _
    rw [jloop, e, if_pos (by decide)]
  have h2 : apart [a, b, c, d] := by simpa using h2
  have e : jlerr l [a, b, c, d] = 0 := by rw [jlerr, if_neg (by simp [h1]), if_pos h2]
  have e0 : jloop l a b c d = jlp l a b c d := by rw [jloop, if_neg (by simp [e])]
  have none6 : ((jgot a b l).isNone = true ∨ (jgot c b l).isNone = true ∨ (jgot c d l).isNone = true ∨ (jgot a d l).isNone = true) → resJ (j0, 6) = resJ (jloop l a b c d) := fun h => by rw [e0, jlp, if_pos h]
  refine ⟨[], _, jr_got l a b l1 l2, rfl, ?_⟩
  refine ⟨Nat.le_refl _, ?_⟩
  refine ⟨[], _, jr_got l c b l1 l2, rfl, ?_⟩
  refine ⟨Nat.le_refl _, ?_⟩
  refine ⟨[], _, jr_got l c d l1 l2, rfl, ?_⟩
  refine ⟨Nat.le_refl _, ?_⟩
  refine ⟨[], _, jr_got l a d l1 l2, rfl, ?_⟩
  refine ⟨Nat.le_refl _, ?_⟩
  refine ⟨fun n1 => ?_, fun n1 => ?_⟩
  rotate_left
  · have n1 : (jgot a b l).isNone = true := by simpa using n1
    refine ⟨Nat.le_refl _, ?_⟩
    refine ⟨_, rfl, rfl, ?_⟩
    exact none6 (.inl n1)
  have n1 : (jgot a b l).isNone = false := by simpa using n1
  refine ⟨fun n2 => ?_, fun n2 => ?_⟩
  rotate_left
  · have n2 : (jgot c b l).isNone = true := by simpa using n2
    refine ⟨Nat.le_refl _, ?_⟩
    refine ⟨_, rfl, rfl, ?_⟩
    exact none6 (.inr (.inl n2))
  have n2 : (jgot c b l).isNone = false := by simpa using n2
  refine ⟨fun n3 => ?_, fun n3 => ?_⟩
  rotate_left
  · have n3 : (jgot c d l).isNone = true := by simpa using n3
    refine ⟨Nat.le_refl _, ?_⟩
    refine ⟨_, rfl, rfl, ?_⟩
    exact none6 (.inr (.inr (.inl n3)))
  have n3 : (jgot c d l).isNone = false := by simpa using n3
  refine ⟨fun n4 => ?_, fun n4 => ?_⟩
  · have n4 : (jgot a d l).isNone = true := by simpa using n4
    refine ⟨Nat.le_refl _, ?_⟩
    refine ⟨_, rfl, rfl, ?_⟩
    exact none6 (.inr (.inr (.inr n4)))
  have n4 : (jgot a d l).isNone = false := by simpa using n4
  have e1 : jloop l a b c d = if (jinv (gJ l c b)).2 ≠ 0 then (j0, (jinv (gJ l c b)).2) else if (jinv (gJ l a d)).2 ≠ 0 then (j0, (jinv (gJ l a d)).2) else jm3 (gJ l a b) (jinv (gJ l c b)).1 (gJ l c d) (jinv (gJ l a d)).1 := by
    rw [e0, jlp, if_neg (by simp [n1, n2, n3, n4])]
  refine ⟨_, rfl, rfl, ?_⟩
  refine ⟨[], _, jr_inv (gJ l c b), rfl, ?_⟩
  refine ⟨Nat.le_refl _, ?_⟩
  refine ⟨fun i1 => ?_, fun i1 => ?_⟩
  · have i1 : (jinv (gJ l c b)).2 ≠ 0 := by simpa using i1
    refine ⟨Nat.le_refl _, ?_⟩
    refine ⟨_, rfl, rfl, ?_⟩
    show resJ (j0, (jinv (gJ l c b)).2) = _
    rw [e1, if_pos i1]
  have i1 : (jinv (gJ l c b)).2 = 0 := by simpa using i1
  refine ⟨_, rfl, rfl, ?_⟩
  refine ⟨[], _, jr_inv (gJ l a d), rfl, ?_⟩
  refine ⟨Nat.le_refl _, ?_⟩
  refine ⟨fun i3 => ?_, fun i3 => ?_⟩
  · have i3 : (jinv (gJ l a d)).2 ≠ 0 := by simpa using i3
    refine ⟨Nat.le_refl _, ?_⟩
    refine ⟨_, rfl, rfl, ?_⟩
    show resJ (j0, (jinv (gJ l a d)).2) = _
    rw [e1, if_neg (by simp [i1]), if_pos i3]
  have i3 : (jinv (gJ l a d)).2 = 0 := by simpa using i3
  refine ⟨_, rfl, rfl, ?_⟩
  refine ⟨_, rfl, rfl, ?_⟩
  refine ⟨[], _, jr_mul (gJ l a b) (jinv (gJ l c b)).1, rfl, ?_⟩
  refine ⟨Nat.le_refl _, ?_⟩
  refine ⟨fun p1 => ?_, fun p1 => ?_⟩
  · have p1 : (jmul (gJ l a b) (jinv (gJ l c b)).1).2 ≠ 0 := by simpa using p1
    refine ⟨Nat.le_refl _, ?_⟩
    refine ⟨_, rfl, rfl, ?_⟩
    show resJ (j0, (jmul (gJ l a b) (jinv (gJ l c b)).1).2) = _
    rw [e1, if_neg (by simp [i1]), if_neg (by simp [i3]), jm3, if_pos p1]
  have p1 : (jmul (gJ l a b) (jinv (gJ l c b)).1).2 = 0 := by simpa using p1
  refine ⟨_, rfl, rfl, ?_⟩
  refine ⟨_, rfl, rfl, ?_⟩
  refine ⟨[], _, jr_mul (jmul (gJ l a b) (jinv (gJ l c b)).1).1 (gJ l c d), rfl, ?_⟩
  refine ⟨Nat.le_refl _, ?_⟩
  refine ⟨fun p2 => ?_, fun p2 => ?_⟩
  · have p2 : (jmul (jmul (gJ l a b) (jinv (gJ l c b)).1).1 (gJ l c d)).2 ≠ 0 := by simpa using p2
    refine ⟨Nat.le_refl _, ?_⟩
    refine ⟨_, rfl, rfl, ?_⟩
    show resJ (j0, (jmul (jmul (gJ l a b) (jinv (gJ l c b)).1).1 (gJ l c d)).2) = _
    rw [e1, if_neg (by simp [i1]), if_neg (by simp [i3]), jm3, if_neg (by simp [p1]), if_pos p2]
  have p2 : (jmul (jmul (gJ l a b) (jinv (gJ l c b)).1).1 (gJ l c d)).2 = 0 := by simpa using p2
  refine ⟨_, rfl, rfl, ?_⟩
  refine ⟨_, rfl, rfl, ?_⟩
  refine ⟨[], _, jr_mul (jmul (jmul (gJ l a b) (jinv (gJ l c b)).1).1 (gJ l c d)).1 (jinv (gJ l a d)).1, rfl, ?_⟩
  refine ⟨Nat.le_refl _, ?_⟩
  refine ⟨fun p3 => ?_, fun p3 => ?_⟩
  · have p3 : (jmul (jmul (jmul (gJ l a b) (jinv (gJ l c b)).1).1 (gJ l c d)).1 (jinv (gJ l a d)).1).2 ≠ 0 := by simpa using p3
    refine ⟨Nat.le_refl _, ?_⟩
    refine ⟨_, rfl, rfl, ?_⟩
    show resJ (j0, (jmul (jmul (jmul (gJ l a b) (jinv (gJ l c b)).1).1 (gJ l c d)).1 (jinv (gJ l a d)).1).2) = _
    rw [e1, if_neg (by simp [i1]), if_neg (by simp [i3]), jm3, if_neg (by simp [p1]), if_neg (by simp [p2]), jmul_bad p3]
  have p3 : (jmul (jmul (jmul (gJ l a b) (jinv (gJ l c b)).1).1 (gJ l c d)).1 (jinv (gJ l a d)).1).2 = 0 := by simpa using p3
  refine ⟨_, rfl, rfl, ?_⟩
  refine ⟨Nat.le_refl _, ?_⟩
  refine ⟨_, rfl, rfl, ?_⟩
  show resJ ((jmul (jmul (jmul (gJ l a b) (jinv (gJ l c b)).1).1 (gJ l c d)).1 (jinv (gJ l a d)).1).1, 0) = _
  rw [e1, if_neg (by simp [i1]), if_neg (by simp [i3]), jm3, if_neg (by simp [p1]), if_neg (by simp [p2]), resJ, resJ, p3]

theorem jloop_okv (l : List Pol) (a b c d : Int) : (jloop l a b c d).1 = j0 ∨ (jloop l a b c d).1.valid := by
  by_cases h : (jloop l a b c d).2 = 0
  · obtain ⟨_, _, _, _, _, e⟩ := jloop_ok h
    rw [e] at h ⊢
    exact .inr (jm3_ok h).1
  · unfold jloop jlp jm3 at h ⊢
    repeat' split
    all_goals first | exact .inl rfl | skip
    rename_i h1 h2 h3 h4 h5 h6
    rw [if_neg h1, if_neg h2, if_neg h3, if_neg h4, if_neg h5, if_neg h6] at h
    rw [jmul_bad h]; exact .inl rfl

theorem jact_len (t : List Jn) (l : List Pol) : (jact t l).1.length ≤ l.length := by
  unfold jact
  repeat' split
  all_goals simp

theorem jonesActs (t : List Jn) (l : List Pol) (a b c d : Int) (ht : ∀ m ∈ t, Enc.ok m) (hl : ∀ p ∈ l, Enc.ok p) : Ret Try.prog 6 [sl t, sl l, i64 a, i64 b, i64 c, i64 d] [] (.p (bl true)) := by
  refine ret (fn := Try.f6) (by kernel_rfl) (by kernel_rfl) rfl ?_
  refine ⟨fun h1 => ?_, fun h1 => ?_⟩
  rotate_left
  · rfl
  refine ⟨fun h2 => ?_, fun h2 => ?_⟩
  · rfl
  refine ⟨[], _, j_act t l ht hl, rfl, ?_⟩
  refine ⟨[], _, jr_act t l, rfl, ?_⟩
  refine ⟨[], _, j_loop l a b c d hl, rfl, ?_⟩
  refine ⟨Nat.le_refl _, ?_⟩
  refine ⟨[], _, jr_loop l a b c d, rfl, ?_⟩
  refine ⟨Nat.le_refl _, ?_⟩
  have hl2 : l.length ≤ 100 := by have := of_decide_eq_false h2; omega
  have sm := jr_same (jact t l).1 (jact t l).1 (by have := jact_len t l; omega)
  rw [decide_eq_true rfl] at sm
  refine ⟨[], _, sm, rfl, ?_⟩
  refine ⟨fun _ => ?_, fun h => absurd h (by first | decide | simp)⟩
  refine ⟨fun _ => ?_, fun h => absurd h (by simp)⟩
  refine ⟨_, rfl, rfl, ?_⟩
  refine ⟨_, rfl, rfl, ?_⟩
  refine ⟨fun _ => ?_, fun h => absurd h (by
    show ¬ (eqPL (Enc.cs (jloop l a b c d).1) (Enc.cs (jloop l a b c d).1) = false)
    rw [show eqPL (Enc.cs (jloop l a b c d).1) (Enc.cs (jloop l a b c d).1) = decide ((jloop l a b c d).1 = (jloop l a b c d).1) from eqPL_jn _ _]
    simp)⟩
  show SV.p (bl ((jloop l a b c d).2 == (jloop l a b c d).2)) = _
  simp
end Go.Pv
