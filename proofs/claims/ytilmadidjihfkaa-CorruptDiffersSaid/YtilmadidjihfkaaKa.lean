/- Contracts of the events' functions. -/
import Derived.Test.YtilmadidjihfkaaCl
import Derived.Test.YtilmadidjihfkaaPlCxm
namespace Go.Pv
open Go.Vc
open Go.Proofs
set_option maxRecDepth 10000

theorem k_valid (s : Spo) (hs : Enc.ok s) : Ret Try.prog 34 [spo s] [] (.p (bl (decide s.ok))) := by
  refine ret (fn := Try.f34) (by kernel_rfl) (by kernel_rfl) rfl ?_
  have bad : ¬ s.ok → SV.p (bl false) = SV.p (bl (decide s.ok)) := fun h => by rw [decide_eq_false h]
  have good : s.ok → SV.p (bl true) = SV.p (bl (decide s.ok)) := fun h => by rw [decide_eq_true h]
  refine ⟨fun h1 => ?_, fun h1 => ?_⟩
  rotate_left
  · exact bad fun h => by have := h.1; simp at h1; omega
  refine ⟨fun h2 => ?_, fun h2 => ?_⟩
  · exact bad fun h => by have := h.2.1; simp at h2; omega
  refine ⟨fun h3 => ?_, fun h3 => ?_⟩
  rotate_left
  · exact bad fun h => by have := h.2.2.1; simp at h3; omega
  refine ⟨fun h4 => ?_, fun h4 => ?_⟩
  rotate_left
  · exact bad fun h => by have := h.2.2.2.1; simp at h4; omega
  refine ⟨fun h5 => ?_, fun h5 => ?_⟩
  · exact bad fun h => by have := h.2.2.2.2.1; simp at h5; omega
  simp at h1 h2 h3 h4 h5
  refine ⟨fun h6 => ?_, fun h6 => ?_⟩
  · have h6 : s.kind = 1 := by simpa using h6
    have k1 : s.ok ↔ (s.q = 0 ∧ s.v.valid ∧ ¬ s.v.zero) := by
      unfold Spo.ok
      constructor
      · intro h
        rcases h.2.2.2.2.2 with h | h
        · exact h.2
        · omega
      · intro h; exact ⟨h1, h2, h3, h4, h5, .inl ⟨h6, h⟩⟩
    refine ⟨fun h7 => ?_, fun h7 => ?_⟩
    rotate_left
    · exact bad fun h => by have := (k1.1 h).1; simp [this] at h7
    refine ⟨[], _, c_check s.v hs.2.2.2.2.1, rfl, ?_⟩
    refine ⟨fun h8 => ?_, fun h8 => ?_⟩
    rotate_left
    · exact bad fun h => by have := (k1.1 h).2.1; rw [chk, if_pos this] at h8; simp at h8
    have hv : s.v.valid := by
      by_cases h : s.v.valid
      · exact h
      · rw [chk, if_neg h] at h8; simp at h8
    refine ⟨fun h9 => ?_, fun h9 => ?_⟩
    · simp at h7 h9
      show SV.p (bl (s.v.im != 0)) = _
      by_cases h10 : s.v.im = 0
      · rw [h10]; exact bad fun h => (k1.1 h).2.2 ⟨h9, h10⟩
      · rw [show (s.v.im != 0) = true by simpa using h10]; exact good (k1.2 ⟨h7, hv, fun h => h10 h.2⟩)
    · simp at h7 h9
      exact good (k1.2 ⟨h7, hv, fun h => h9 h.1⟩)
  · have h6 : s.kind ≠ 1 := by simpa using h6
    have fin : (s.kind = 2 ∨ s.kind = 3) → (s.ok ↔ (s.v = c0 ∧ 0 ≤ s.q ∧ s.q ≤ 3)) := fun hk => by
      unfold Spo.ok
      constructor
      · intro h
        rcases h.2.2.2.2.2 with h | h
        · omega
        · exact h.2
      · intro h; exact ⟨h1, h2, h3, h4, h5, .inr ⟨hk, h⟩⟩
    have fb : (s.kind = 2 ∨ s.kind = 3) → eqPL [i64 s.v.re, i64 s.v.im, i64 s.v.den] [i64 c0.re, i64 c0.im, i64 c0.den] = false → SV.p (bl false) = SV.p (bl (decide s.ok)) := fun hk he => by
      rw [eqPL_cx] at he
      exact bad fun h => by have := ((fin hk).1 h).1; simp [this] at he
    have fg : (s.kind = 2 ∨ s.kind = 3) → eqPL [i64 s.v.re, i64 s.v.im, i64 s.v.den] [i64 c0.re, i64 c0.im, i64 c0.den] = true → decide (0 ≤ s.q) = true → SV.p (bl (decide (s.q ≤ 3))) = SV.p (bl (decide s.ok)) := fun hk he hq => by
      rw [eqPL_cx] at he
      simp at he hq
      by_cases h : s.q ≤ 3
      · rw [decide_eq_true h]; exact good ((fin hk).2 ⟨he, hq, h⟩)
      · rw [decide_eq_false h]; exact bad fun h' => h ((fin hk).1 h').2.2
    have fq : (s.kind = 2 ∨ s.kind = 3) → decide (0 ≤ s.q) = false → SV.p (bl false) = SV.p (bl (decide s.ok)) := fun hk hq => by
      simp at hq
      exact bad fun h => by have := ((fin hk).1 h).2.1; omega
    refine ⟨fun h7 => ?_, fun h7 => ?_⟩
    · have hk : s.kind = 2 ∨ s.kind = 3 := .inl (by simpa using h7)
      refine ⟨fun _ => ?_, fun h => absurd (h7.symm.trans h) (by decide)⟩
      refine ⟨fun h8 => ?_, fun h8 => ?_⟩
      rotate_left
      · exact fb hk h8
      refine ⟨fun h9 => ?_, fun h9 => ?_⟩
      rotate_left
      · exact fq hk h9
      exact fg hk h8 h9
    · refine ⟨fun h10 => ?_, fun h10 => ?_⟩
      · have hk : s.kind = 2 ∨ s.kind = 3 := .inr (by simpa using h10)
        refine ⟨fun h8 => ?_, fun h8 => ?_⟩
        rotate_left
        · exact fb hk h8
        refine ⟨fun h9 => ?_, fun h9 => ?_⟩
        rotate_left
        · exact fq hk h9
        exact fg hk h8 h9
      · simp at h7 h10
        exact bad fun h => by
          rcases h.2.2.2.2.2 with h | h <;> omega

theorem turn_one (q : Int) : turn one q = (rotN (quart q) one, 0) := by rw [turn, if_pos one_validK]

theorem k_number (s : Spo) (t : Int) (hs : s.ok) (ht : 0 ≤ t ∧ t < 32) : Ret Try.prog 35 [spo s, i64 t] [] (resC (num s t, 0)) := by
  refine ret (fn := Try.f35) (by kernel_rfl) (by kernel_rfl) rfl ?_
  obtain ⟨s1, s2, s3, s4, s5, s6⟩ := hs
  refine ⟨fun h1 => ?_, fun h1 => ?_⟩
  rotate_left
  · simp at h1
    rw [num, if_pos (.inl h1)]; rfl
  refine ⟨fun h2 => ?_, fun h2 => ?_⟩
  · simp at h2
    rw [num, if_pos (.inr h2)]; rfl
  simp at h1 h2
  rw [num, if_neg (by omega)]
  refine ⟨fun h3 => ?_, fun h3 => ?_⟩
  · have h3 : s.kind = 1 := by simpa using h3
    rw [if_pos h3]; rfl
  · have h3 : s.kind ≠ 1 := by simpa using h3
    have hq : 0 ≤ s.q ∧ s.q ≤ 3 := by
      rcases s6 with h | h
      · omega
      · exact h.2.2
    rw [if_neg h3]
    refine ⟨fun h4 => ?_, fun h4 => ?_⟩
    · have h4 : s.kind = 2 := by simpa using h4
      rw [if_neg (by omega)]
      refine ⟨[], _, c_turn one s.q (ok_valid one_validK) (by unfold I64; omega), rfl, ?_⟩
      rw [turn_one]; rfl
    · have h4 : s.kind ≠ 2 := by simpa using h4
      have h5 : s.kind = 3 := by
        rcases s6 with h | h <;> omega
      rw [if_pos h5]
      have hb : 0 ≤ s.q * (t - s.fr) ∧ s.q * (t - s.fr) ≤ 3 * 32 := ⟨Int.mul_nonneg hq.1 (by omega), Int.mul_le_mul hq.2 (by omega) (by omega) (by omega)⟩
      have e : IntKind.i64.wrap (s.q * IntKind.i64.wrap (t - s.fr)) = s.q * (t - s.fr) := by
        rw [wrap_id (n := t - s.fr) (by omega) (by omega), wrap_id (by omega) (by omega)]
      refine ⟨[], resC (turn one (s.q * (t - s.fr))), ?_, rfl, ?_⟩
      · show Ret Try.prog 59 [cx one, i64 (IntKind.i64.wrap (s.q * IntKind.i64.wrap (t - s.fr)))] [] _
        rw [e]
        exact c_turn one _ (ok_valid one_validK) (by unfold I64; omega)
      · rw [turn_one]; rfl


theorem table_8 {l : List Spo} {t : Int} (ht : 0 ≤ t ∧ t < 32) (hl : l.length ≤ 8) {k : Nat} (hk : k < l.length) (hb : ¬ l[k].ok) : table l t = ([], 8) := by
  rw [table, if_neg (by omega), if_neg (by omega), if_neg (fun h => hb (h _ (List.getElem_mem hk)))]

theorem table_16 {l : List Spo} {t : Int} (ht : 0 ≤ t ∧ t < 32) (hl : l.length ≤ 8) (h : ∀ s ∈ l, s.ok) {i : Nat} (hi : i < 8) (hb : (stn l t i).2 ≠ 0) : table l t = ([], 16) := by
  rw [table, if_neg (by omega), if_neg (by omega), if_pos h, if_neg (fun h => hb (h i hi))]

theorem table_0 {l : List Spo} {t : Int} (ht : 0 ≤ t ∧ t < 32) (hl : l.length ≤ 8) (h : ∀ s ∈ l, s.ok) (hz : allOk l t 8) : table l t = (rowOf l t, 0) := by
  rw [table, if_neg (by omega), if_neg (by omega), if_pos h, if_pos hz]

theorem rowOf_length (l : List Spo) (t : Int) : (rowOf l t).length = 8 := by simp [rowOf]
theorem rowOf_get {l : List Spo} {t : Int} {i : Nat} (h : i < (rowOf l t).length) : (rowOf l t)[i] = (stn l t i).1 := by simp [rowOf]

def ones (k : Nat) : List Cx := List.replicate k one ++ List.replicate (8 - k) c0
theorem ones_set {k : Nat} (hk : k < 8) : (ones k).set k one = ones (k + 1) := by
  obtain rfl | rfl | rfl | rfl | rfl | rfl | rfl | rfl : k = 0 ∨ k = 1 ∨ k = 2 ∨ k = 3 ∨ k = 4 ∨ k = 5 ∨ k = 6 ∨ k = 7 := by omega
  all_goals rfl
theorem ones_length {k : Nat} (hk : k ≤ 8) : (ones k).length = 8 := by simp [ones]; omega

theorem k_table (l : List Spo) (t : Int) (hl : ∀ s ∈ l, Enc.ok s) : Ret Try.prog 12 [sl l, i64 t] [] (resCs (table l t)) := by
  refine ret (fn := Try.f12) (by kernel_rfl) (by kernel_rfl) rfl ?_
  refine ⟨fun h1 => ?_, fun h1 => ?_⟩
  rotate_left
  · simp at h1
    rw [table, if_pos (.inl h1)]; rfl
  refine ⟨fun h2 => ?_, fun h2 => ?_⟩
  · simp at h2
    rw [table, if_pos (.inr h2)]; rfl
  simp at h1 h2
  have ht : 0 ≤ t ∧ t < 32 := ⟨h1, h2⟩
  refine ⟨fun h3 => ?_, fun h3 => ?_⟩
  · simp at h3
    rw [table, if_neg (by omega), if_pos (by omega)]; rfl
  simp at h3
  have hlen : l.length ≤ 8 := by omega
  refine ⟨Nat, { inv := fun k => k ≤ l.length ∧ (∀ s ∈ l.take k, s.ok), slots := [(25, fun k => i64 k)],  mu := fun k => l.length - k }, 0, ⟨⟨rfl, trivial⟩, trivial, trivial, Nat.zero_le _, by simp⟩, ?_⟩
  intro k ⟨hk, hall⟩
  refine ⟨fun h4 => ?_, fun h4 => ?_⟩
  · simp at h4
    refine ⟨k, rfl, h4, by decide, _, idx h4, rfl, ?_⟩
    refine ⟨[], _, k_valid l[k] (hl _ (List.getElem_mem h4)), rfl, ?_⟩
    refine ⟨fun h5 => ?_, fun h5 => ?_⟩
    · simp at h5
      rw [table_8 ht hlen h4 h5]; rfl
    · have h5 : l[k].ok := by simpa using h5
      refine ⟨k + 1, by show _ < _; simp; omega, ⟨rfl, rfl⟩, ⟨by show PV.v (.int _ _) = _; rw [succ_w (by omega)], trivial⟩, trivial, (by repeat' first | exact trivial | rfl | apply And.intro), h4, ?_⟩
      intro s hs
      rw [List.take_succ_eq_append_getElem h4, List.mem_append] at hs
      rcases hs with hs | hs
      · exact hall s hs
      · simp at hs; subst hs; exact h5
  simp at h4
  have : k = l.length := by omega
  subst this
  rw [List.take_length] at hall
  clear h4 hk
  refine ⟨8, 8, rfl, rfl, Nat.le_refl _, ⟨by decide, by decide⟩, ?_⟩
  refine ⟨Nat, { inv := fun k => k ≤ 8 ∧ (True), slots := [(36, fun k => i64 k)], boxes := [(0, fun k => flat (ones k))], mu := fun k => 8 - k }, 0, ⟨⟨rfl, trivial⟩, trivial, (by repeat' first | exact trivial | rfl | apply And.intro), Nat.zero_le _, trivial⟩, ?_⟩
  intro k ⟨hk, _⟩
  refine ⟨fun h6 => ?_, fun h6 => ?_⟩
  · have h6 : k < 8 := by simp at h6; omega
    refine ⟨k, rfl, h6, ?_⟩
    refine ⟨by show k * 3 + 3 ≤ (flat (ones k)).length; rw [flat_length, ones_length hk]; show _ ≤ 8 * 3; omega, ?_⟩
    refine ⟨k + 1, by show _ < _; simp; omega, ⟨rfl, rfl⟩, ⟨by show PV.v (.int _ _) = _; rw [succ_w (by omega)], trivial⟩, trivial, ?_, h6, trivial⟩
    refine ⟨⟨rfl, ?_⟩, trivial⟩
    show spl (flat (ones k)) (k * 3) (Enc.cs one) = flat (ones (k + 1))
    rw [← ones_set h6]
    exact flat_put (by rw [ones_length hk]; exact h6) one
  simp at h6
  have : k = 8 := by omega
  subst this
  clear h6 hk
  have hrow0 : ones 8 = rowOf [] t := rfl
  refine ⟨Nat, { inv := fun k => k ≤ l.length ∧ allOk (l.take k) t 8, slots := [(46, fun k => i64 k)], boxes := [(0, fun k => flat (rowOf (l.take k) t))], mu := fun k => l.length - k }, 0, ⟨⟨rfl, trivial⟩, trivial, (by repeat' first | exact trivial | rfl | apply And.intro), Nat.zero_le _, fun i hi => rfl⟩, ?_⟩
  intro k ⟨hk, hz⟩
  refine ⟨fun h7 => ?_, fun h7 => ?_⟩
  · simp at h7
    have hok := hall l[k] (List.getElem_mem h7)
    have e1 : l[k].st = (l[k].st.toNat : Int) := by have := hok.1; omega
    have hj : l[k].st.toNat < 8 := by have := hok.1; have := hok.2.1; omega
    have hz' := hz _ hj
    have hv := stn_valid (l := l.take k) (t := t) (i := l[k].st.toNat) (fun s hs => hall s (List.mem_of_mem_take hs)) hz'
    have hn := num_valid hok t
    have hcell : ((flat (rowOf (l.take k) t)).drop (l[k].st.toNat * 3)).take 3 = Enc.cs (stn (l.take k) t l[k].st.toNat).1 := by
      have hh : l[k].st.toNat < (rowOf (l.take k) t).length := by rw [rowOf_length]; exact hj
      rw [← rowOf_get hh]
      exact idx hh
    refine ⟨k, rfl, h7, by decide, _, idx h7, rfl, ?_⟩
    refine ⟨[], _, k_number l[k] t hok ht, rfl, ?_⟩
    refine ⟨fun h => absurd h (by simp), fun _ => ?_⟩
    refine ⟨l[k].st.toNat, e1, hj, ?_⟩
    refine ⟨_, hcell, rfl, ?_⟩
    refine ⟨_, c_mul (stn (l.take k) t l[k].st.toNat).1 (num l[k] t) (ok_valid hv) (ok_valid hn), rfl, ?_⟩
    refine ⟨l[k].st.toNat, e1, hj, ?_⟩
    refine ⟨by show l[k].st.toNat * 3 + 3 ≤ (flat (rowOf (l.take k) t)).length; rw [flat_length, rowOf_length]; show _ ≤ 8 * 3; omega, ?_⟩
    refine ⟨fun h8 => ?_, fun h8 => ?_⟩
    · simp at h8
      rcases mul_err hv hn with h' | h'
      · exact absurd h' h8
      · have := step_bad e1 hz' h8
        rw [← List.take_succ_eq_append_getElem h7] at this
        rw [table_16 ht hlen hall hj (stn_bad this), h']; rfl
    · have h8 : (mul (stn (l.take k) t l[k].st.toNat).1 (num l[k] t)).2 = 0 := by simpa using h8
      have r1 := row_step e1 hz' h8
      have r2 := allOk_step e1 hz hz' h8
      rw [← List.take_succ_eq_append_getElem h7] at r1 r2
      refine ⟨k + 1, by show _ < _; simp; omega, ⟨rfl, rfl⟩, ⟨by show PV.v (.int _ _) = _; rw [succ_w (by omega)], trivial⟩, trivial, ?_, h7, r2⟩
      refine ⟨⟨rfl, ?_⟩, trivial⟩
      show spl (flat (rowOf (l.take k) t)) (l[k].st.toNat * 3) (Enc.cs (mul (stn (l.take k) t l[k].st.toNat).1 (num l[k] t)).1) = flat (rowOf (l.take (k + 1)) t)
      rw [r1]
      exact flat_put (by rw [rowOf_length]; exact hj) _
  · simp at h7
    have : k = l.length := by omega
    subst this
    rw [List.take_length] at hz
    rw [table_0 ht hlen hall hz]
    show SV.tup [.p (.sl false 8 (flat (rowOf (l.take l.length) t))), .p (i64 0)] = _
    rw [List.take_length]
    show _ = SV.tup [.p (.sl false (rowOf l t).length _), _]
    rw [rowOf_length]

end Go.Pv
