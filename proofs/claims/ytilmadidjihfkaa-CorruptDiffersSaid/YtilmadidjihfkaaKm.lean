/- Contracts: closures of series compared, the reference's. -/
import Derived.Test.YtilmadidjihfkaaKl
namespace Go.Pv
open Go.Vc
open Go.Proofs
set_option maxRecDepth 10000
set_option maxHeartbeats 4000000

theorem clos_ph {a b : List Vis} (h : phB a b = false) : clos a b = false := by rw [clos, h]; rfl
theorem clos_am {a b : List Vis} (h : amps a b = false) : clos a b = false := by rw [clos, h, Bool.and_false]

theorem r_clos (a b : List Vis) (h0 : ck27 a = 0) : Ret Try.prog 30 [sl a, sl b] [] (.p (bl (clos a b))) := by
  refine ret (fn := Try.f30) (by kernel_rfl) (by kernel_rfl) rfl ?_
  refine ⟨[], _, r_triples a, rfl, ?_⟩
  have ht : (triples a).2 = 0 := by rw [triples, if_neg (by simp [h0])]
  have hn : (triples a).1.length ≤ 512 := by rw [triples, if_neg (by simp [h0])]; exact tris_length a 512
  refine ⟨Nat, { inv := fun k => k ≤ (triples a).1.length ∧ (((triples a).1.take k).all (fun t => phT a b t.list) = true), slots := [(7, fun k => i64 k)],  mu := fun k => (triples a).1.length - k }, 0, ⟨⟨rfl, trivial⟩, trivial, (by repeat' first | exact trivial | rfl | apply And.intro), Nat.zero_le _, rfl⟩, ?_⟩
  intro k ⟨hk, hall⟩
  refine ⟨fun h2 => ?_, fun h2 => ?_⟩
  · simp at h2
    have bad : phT a b ((triples a).1[k]).list = false → phB a b = false := fun h => by
      unfold phB
      rw [← List.take_append_drop (k + 1) (triples a).1, List.all_append, all_take_succ _ h2, h]; simp
    have good : phT a b ((triples a).1[k]).list = true → ((triples a).1.take (k + 1)).all (fun t => phT a b t.list) = true := fun h => by
      rw [all_take_succ _ h2, hall, h]; rfl
    refine ⟨k, rfl, h2, by decide, _, idx h2, rfl, ?_⟩
    refine ⟨0, rfl, by decide, _, rfl, rfl, ?_⟩
    refine ⟨k, rfl, h2, by decide, _, idx h2, rfl, ?_⟩
    refine ⟨1, rfl, by decide, _, rfl, rfl, ?_⟩
    refine ⟨k, rfl, h2, by decide, _, idx h2, rfl, ?_⟩
    refine ⟨2, rfl, by decide, _, rfl, rfl, ?_⟩
    refine ⟨_, r_phase a ((triples a).1[k]).list (by show 3 ≤ _; omega), rfl, ?_⟩
    refine ⟨k, rfl, h2, by decide, _, idx h2, rfl, ?_⟩
    refine ⟨0, rfl, by decide, _, rfl, rfl, ?_⟩
    refine ⟨k, rfl, h2, by decide, _, idx h2, rfl, ?_⟩
    refine ⟨1, rfl, by decide, _, rfl, rfl, ?_⟩
    refine ⟨k, rfl, h2, by decide, _, idx h2, rfl, ?_⟩
    refine ⟨2, rfl, by decide, _, rfl, rfl, ?_⟩
    refine ⟨_, r_phase b ((triples a).1[k]).list (by show 3 ≤ _; omega), rfl, ?_⟩
    generalize (triples a).1[k] = t at *
    refine ⟨fun h3 => ?_, fun h3 => ?_⟩
    focus
      refine ⟨fun h4 => ?_, fun h4 => ?_⟩
      focus
        have h3 : (phase a t.list).2 = 0 := by simpa using h3
        have h4 : (phase b t.list).2 = 0 := by simpa using h4
        refine ⟨fun h5 => ?_, fun h5 => ?_⟩
        focus
          have h5 : (!eqPL (Enc.cs (phase a t.list).1) (Enc.cs (phase b t.list).1)) = true := h5
          rw [eqPL_cxK] at h5
          simp at h5
          rw [clos_ph (bad (by rw [phT, decide_eq_false]; exact fun h => h5 (h h3 h4)))]; rfl
        have h5 : (!eqPL (Enc.cs (phase a t.list).1) (Enc.cs (phase b t.list).1)) = false := h5
        rw [eqPL_cxK] at h5
        simp at h5
        have gd := good (by rw [phT, decide_eq_true]; exact fun _ _ => h5)
      rotate_left
      focus
        have h4 : (phase b t.list).2 ≠ 0 := by simpa using h4
        have gd := good (by rw [phT, decide_eq_true]; exact fun _ h => absurd h h4)
    rotate_left 2
    focus
      have h3 : (phase a t.list).2 ≠ 0 := by simpa using h3
      have gd := good (by rw [phT, decide_eq_true]; exact fun h => absurd h h3)
    all_goals
      refine ⟨k + 1, by show _ < _; simp; omega, ⟨rfl, rfl⟩, ⟨by show PV.v (.int _ _) = _; rw [succ_w (by omega)], trivial⟩, trivial, (by repeat' first | exact trivial | rfl | apply And.intro), h2, gd⟩
  simp at h2
  have hk2 : k = (triples a).1.length := by omega
  rw [hk2, List.take_length] at hall
  have hph : phB a b = true := hall
  clear h2 hall hk hk2 ht hn
  refine ⟨Nat, { inv := fun i => i ≤ 8 ∧ (∀ i' : Nat, i' < i → ∀ j k n : Nat, i' < j → j < k → k < n → n < 8 → am2 a b i' j k n = true), slots := [(12, fun i => i64 i)],  mu := fun i => 8 - i }, 0, ⟨⟨rfl, trivial⟩, trivial, (by repeat' first | exact trivial | rfl | apply And.intro), Nat.zero_le _, (fun i' h => absurd h (Nat.not_lt_zero _))⟩, ?_⟩
  intro i ⟨hi, hI⟩
  refine ⟨fun h1 => ?_, fun h1 => ?_⟩
  · simp at h1
    have h1 : i < 8 := by omega
    refine ⟨Nat, { inv := fun j => i + 1 ≤ j ∧ j ≤ 8 ∧ ∀ j' : Nat, i < j' → j' < j → ∀ k n : Nat, j' < k → k < n → n < 8 → am2 a b i j' k n = true, slots := [(13, fun b => i64 b)], mu := fun b => 8 - b }, i + 1, ⟨⟨by show PV.v (.int _ _) = _; rw [succ_w (by omega)], trivial⟩, trivial, (by repeat' first | exact trivial | rfl | apply And.intro), Nat.le_refl _, by show i + 1 ≤ 8; omega, fun j' h1 h2 => by omega⟩, ?_⟩
    intro j ⟨hj1, hj2, hJ⟩
    refine ⟨fun h2 => ?_, fun h2 => ?_⟩
    · simp at h2
      have h2 : j < 8 := by omega
      refine ⟨Nat, { inv := fun k => j + 1 ≤ k ∧ k ≤ 8 ∧ ∀ k' : Nat, j < k' → k' < k → ∀ n : Nat, k' < n → n < 8 → am2 a b i j k' n = true, slots := [(14, fun b => i64 b)], mu := fun b => 8 - b }, j + 1, ⟨⟨by show PV.v (.int _ _) = _; rw [succ_w (by omega)], trivial⟩, trivial, (by repeat' first | exact trivial | rfl | apply And.intro), Nat.le_refl _, by show j + 1 ≤ 8; omega, fun j' h1 h2 => by omega⟩, ?_⟩
      intro k ⟨hk1, hk2, hK⟩
      refine ⟨fun h3 => ?_, fun h3 => ?_⟩
      · simp at h3
        have h3 : k < 8 := by omega
        refine ⟨Nat, { inv := fun n => k + 1 ≤ n ∧ n ≤ 8 ∧ ∀ n' : Nat, k < n' → n' < n → am2 a b i j k n' = true, slots := [(15, fun b => i64 b)], mu := fun b => 8 - b }, k + 1, ⟨⟨by show PV.v (.int _ _) = _; rw [succ_w (by omega)], trivial⟩, trivial, (by repeat' first | exact trivial | rfl | apply And.intro), Nat.le_refl _, by show k + 1 ≤ 8; omega, fun j' h1 h2 => by omega⟩, ?_⟩
        intro n ⟨hn1, hn2, hN⟩
        refine ⟨fun h4 => ?_, fun h4 => ?_⟩
        · simp at h4
          have h4 : n < 8 := by omega
          have bad : am2 a b i j k n = false → clos a b = false := fun h => clos_am (amps_bad (by omega) (by omega) (by omega) h4 h)
          have go : amB a b i j k n = true → amB a b i k n j = true → ∀ n' : Nat, k < n' → n' < n + 1 → am2 a b i j k n' = true := fun h5 h6 n' q1 q2 => by
            by_cases e : n' = n
            · subst e; rw [am2, h5, h6]; rfl
            · exact hN n' q1 (by omega)
          have d1 : ∀ {p q r s : Int}, (amp a p q r s).2 = 0 → (amp b p q r s).2 = 0 → (!eqPL (Enc.cs (amp a p q r s).1) (Enc.cs (amp b p q r s).1)) = true → amB a b p q r s = false := fun {p q r s} x1 x2 x3 => by
            rw [show eqPL (Enc.cs (amp a p q r s).1) (Enc.cs (amp b p q r s).1) = decide ((amp a p q r s).1 = (amp b p q r s).1) from eqPL_fr _ _] at x3
            simp at x3
            rw [amB, decide_eq_false]; exact fun h => x3 (h x1 x2)
          have d2 : ∀ {p q r s : Int}, (!eqPL (Enc.cs (amp a p q r s).1) (Enc.cs (amp b p q r s).1)) = false → amB a b p q r s = true := fun {p q r s} x3 => by
            rw [show eqPL (Enc.cs (amp a p q r s).1) (Enc.cs (amp b p q r s).1) = decide ((amp a p q r s).1 = (amp b p q r s).1) from eqPL_fr _ _] at x3
            simp at x3
            rw [amB, decide_eq_true]; exact fun _ _ => x3
          have d3 : ∀ {p q r s : Int}, (amp a p q r s).2 ≠ 0 → amB a b p q r s = true := fun {p q r s} x => by
            rw [amB, decide_eq_true]; exact fun h => absurd h x
          have d4 : ∀ {p q r s : Int}, (amp b p q r s).2 ≠ 0 → amB a b p q r s = true := fun {p q r s} x => by
            rw [amB, decide_eq_true]; exact fun _ h => absurd h x
          refine ⟨[], _, r_amp a i j k n, rfl, ?_⟩
          refine ⟨[], _, r_amp b i j k n, rfl, ?_⟩
          refine ⟨fun h5 => ?_, fun h5 => ?_⟩
          focus
            have h5 : (amp a i j k n).2 = 0 := by simpa using h5
            refine ⟨fun h6 => ?_, fun h6 => ?_⟩
            focus
              have h6 : (amp b i j k n).2 = 0 := by simpa using h6
              refine ⟨fun h7 => ?_, fun h7 => ?_⟩
              focus
                rw [bad (by rw [am2, d1 h5 h6 h7]; rfl)]; rfl
              have g1 := d2 h7
            rotate_left
            focus
              have g1 := d4 (p := i) (q := j) (r := k) (s := n) (by simpa using h6)
          rotate_left 2
          focus
            have g1 := d3 (p := i) (q := j) (r := k) (s := n) (by simpa using h5)
          all_goals
            refine ⟨[], _, r_amp a i k n j, rfl, ?_⟩
            refine ⟨[], _, r_amp b i k n j, rfl, ?_⟩
            refine ⟨fun h8 => ?_, fun h8 => ?_⟩
            focus
              have h8 : (amp a i k n j).2 = 0 := by simpa using h8
              refine ⟨fun h9 => ?_, fun h9 => ?_⟩
              focus
                have h9 : (amp b i k n j).2 = 0 := by simpa using h9
                refine ⟨fun h10 => ?_, fun h10 => ?_⟩
                focus
                  rw [bad (by rw [am2, d1 h8 h9 h10, Bool.and_false])]; rfl
                have g2 := d2 h10
              rotate_left
              focus
                have g2 := d4 (p := i) (q := k) (r := n) (s := j) (by simpa using h9)
            rotate_left 2
            focus
              have g2 := d3 (p := i) (q := k) (r := n) (s := j) (by simpa using h8)
            all_goals
              exact ⟨n + 1, by show _ < _; simp; omega, ⟨rfl, rfl⟩, ⟨by show PV.v (.int _ _) = _; rw [succ_w (by omega)], trivial⟩, trivial, (by repeat' first | exact trivial | rfl | apply And.intro), by show k + 1 ≤ n + 1; omega, by show n + 1 ≤ 8; omega, go g1 g2⟩
        · simp at h4
          have h4 : n = 8 := by omega
          subst h4
          refine ⟨k + 1, by show _ < _; simp; omega, ⟨rfl, rfl⟩, ⟨by show PV.v (.int _ _) = _; rw [succ_w (by omega)], trivial⟩, trivial, (by repeat' first | exact trivial | rfl | apply And.intro), by show j + 1 ≤ k + 1; omega, by show k + 1 ≤ 8; omega, fun k' q1 q2 => ?_⟩
          by_cases e : k' = k
          · subst e; exact hN
          · exact hK k' q1 (by omega)
      · simp at h3
        have h3 : k = 8 := by omega
        subst h3
        refine ⟨j + 1, by show _ < _; simp; omega, ⟨rfl, rfl⟩, ⟨by show PV.v (.int _ _) = _; rw [succ_w (by omega)], trivial⟩, trivial, (by repeat' first | exact trivial | rfl | apply And.intro), by show i + 1 ≤ j + 1; omega, by show j + 1 ≤ 8; omega, fun j' q1 q2 => ?_⟩
        by_cases e : j' = j
        · subst e; exact fun k n r1 r2 r3 => hK k r1 (by omega) n r2 r3
        · exact hJ j' q1 (by omega)
    · simp at h2
      have h2 : j = 8 := by omega
      subst h2
      refine ⟨i + 1, by show _ < _; simp; omega, ⟨rfl, rfl⟩, ⟨by show PV.v (.int _ _) = _; rw [succ_w (by omega)], trivial⟩, trivial, (by repeat' first | exact trivial | rfl | apply And.intro), h1, fun i' q => ?_⟩
      by_cases e : i' = i
      · subst e; exact fun j k n r0 r1 r2 r3 => hJ j r0 (by omega) k n r1 r2 r3
      · exact hI i' (by omega)
  · simp at h1
    have h1 : i = 8 := by omega
    subst h1
    rw [clos, hph, amps_all fun i j k n r0 r1 r2 r3 => hI i (by omega) j k n r0 r1 r2 r3]; rfl

theorem r_alike35 (a b : List (List Vis)) : Ret Try.prog 28 [sl a, sl b] [] (.tup [.p (bl (alike35 a b).1), .p (i64 (alike35 a b).2)]) := by
  refine ret (fn := Try.f28) (by kernel_rfl) (by kernel_rfl) rfl ?_
  refine ⟨[], _, r_check35 a, rfl, ?_⟩
  refine ⟨fun h1 => ?_, fun h1 => ?_⟩
  · simp at h1
    rw [alike35, if_pos h1]; rfl
  have h1 : ck35 a = 0 := by simpa using h1
  refine ⟨[], _, r_check35 b, rfl, ?_⟩
  refine ⟨fun h2 => ?_, fun h2 => ?_⟩
  · simp at h2
    rw [alike35, if_neg (by simp [h1]), if_pos h2]; rfl
  have h2 : ck35 b = 0 := by simpa using h2
  have hn := ck35_len h1
  refine ⟨fun h3 => ?_, fun h3 => ?_⟩
  · rw [alike35_len h1 h2 (by intro e; simp [e] at h3)]; rfl
  have h3 : a.length = b.length := by simp at h3; omega
  refine ⟨Nat, { inv := fun k => k ≤ a.length ∧ (∀ (t : Nat) (ht : t < a.length) (ht' : t < b.length), t < k → bas a[t] b[t] = true ∧ clos a[t] b[t] = true), slots := [(8, fun k => i64 k)],  mu := fun k => a.length - k }, 0, ⟨⟨rfl, trivial⟩, trivial, (by repeat' first | exact trivial | rfl | apply And.intro), Nat.zero_le _, (fun t _ _ h => absurd h (Nat.not_lt_zero _))⟩, ?_⟩
  intro k ⟨hk, hall⟩
  refine ⟨fun h6 => ?_, fun h6 => ?_⟩
  · simp at h6
    have h6' : k < b.length := by omega
    refine ⟨k, rfl, h6, by decide, _, idx h6, rfl, ?_⟩
    refine ⟨k, rfl, h6', by decide, _, idx h6', rfl, ?_⟩
    refine ⟨_, r_bas a[k] b[k] (by have := (ck27_0 (ck35_rows h1 _ (List.getElem_mem h6))).1; omega), rfl, ?_⟩
    refine ⟨fun h7 => ?_, fun h7 => ?_⟩
    rotate_left
    · have h7 : bas a[k] b[k] = false := by simpa using h7
      rw [alike35_bad h1 h2 ⟨k, h6, h6', .inl h7⟩]; rfl
    have h7 : bas a[k] b[k] = true := by simpa using h7
    refine ⟨k, rfl, h6, by decide, _, idx h6, rfl, ?_⟩
    refine ⟨k, rfl, h6', by decide, _, idx h6', rfl, ?_⟩
    refine ⟨_, r_clos a[k] b[k] (ck35_rows h1 _ (List.getElem_mem h6)), rfl, ?_⟩
    refine ⟨fun h8 => ?_, fun h8 => ?_⟩
    · have h8 : clos a[k] b[k] = false := by simpa using h8
      rw [alike35_bad h1 h2 ⟨k, h6, h6', .inr h8⟩]; rfl
    have h8 : clos a[k] b[k] = true := by simpa using h8
    refine ⟨k + 1, by show _ < _; simp; omega, ⟨rfl, rfl⟩, ⟨by show PV.v (.int _ _) = _; rw [succ_w (by omega)], trivial⟩, trivial, (by repeat' first | exact trivial | rfl | apply And.intro), h6, fun t ht ht' q => ?_⟩
    by_cases e : t = k
    · subst e; exact ⟨h7, h8⟩
    · exact hall t ht ht' (by omega)
  · simp at h6
    have : k = a.length := by omega
    subst this
    rw [alike35_all h1 h2 h3 fun t ht ht' => hall t ht ht' ht]; rfl
end Go.Pv
