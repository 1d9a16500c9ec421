/- Contracts of bandpasses: averages, valid spectra. -/
import Derived.Test.YtaaijmojlodefaaBd
namespace Go.Pv
open Go.Vc
open Go.Proofs
set_option maxRecDepth 10000

theorem numC_ok (n : Nat) (h : 0 < n) (h2 : n ≤ 100) : (numC n).valid := by
  refine ⟨by show (1 : Int) ≤ 1; decide, by show (1 : Int) ≤ 1000000000; decide, by show fits (n : Int); unfold fits; omega, by show fits 0; unfold fits; omega, ?_⟩
  show g3 (n : Int) 0 1 = 1
  simp [g3]

theorem b_average (l : List Cx) (h0 : 0 < l.length) (h1 : l.length ≤ 100) (hl : ∀ c ∈ l, c.valid) : Ret Try.prog 56 [sl l] [] (resC (avg l)) := by
  obtain ⟨a, r, rfl⟩ : ∃ a r, l = a :: r := by cases l with | nil => simp at h0 | cons a r => exact ⟨a, r, rfl⟩
  have ha : a.valid := hl a List.mem_cons_self
  have hr : ∀ c ∈ r, c.valid := fun c hc => hl c (List.mem_cons_of_mem _ hc)
  refine ret (fn := Try.f56) (by kernel_rfl) (by kernel_rfl) rfl ?_
  refine ⟨0, rfl, h0, by decide, _, idx h0, rfl, ?_⟩
  refine ⟨by rw [flat_length]; rfl, 1, rfl, h0, Nat.le_refl _, ?_⟩
  refine ⟨Nat, { inv := fun k => k ≤ r.length ∧ (sums a (r.take k)).2 = 0, slots := [(16, fun k => i64 k)], boxes := [(1, fun k => Enc.cs (sums a (r.take k)).1)], mu := fun k => r.length - k }, 0, ⟨⟨rfl, trivial⟩, trivial, (by repeat' first | exact trivial | rfl | apply And.intro), Nat.zero_le _, rfl⟩, ?_⟩
  intro k ⟨hk, hz⟩
  have hv := sums_valid ha (l := r.take k) (fun c hc => hr c (List.mem_of_mem_take hc)) hz
  refine ⟨fun h2 => ?_, fun h2 => ?_⟩
  · have h2 : decide ((k : Int) < (((a :: r).length - 1 : Nat) : Int)) = true := h2
    simp at h2
    have h3 : k < (a :: r).length - 1 := by simpa using h2
    refine ⟨k, rfl, h3, by decide, _, idx_part (xs := a :: r) (a := 1) (Nat.le_refl _) h3, rfl, ?_⟩
    have e1 : (a :: r)[1 + k]'(by simp; omega) = r[k] := by
      simp only [Nat.add_comm 1 k, List.getElem_cons_succ]
    refine ⟨[], _, (show Ret Try.prog 78 [cx (sums a (r.take k)).1, cx ((a :: r)[1 + k]'(by simp; omega))] [] (resC (add (sums a (r.take k)).1 r[k])) by rw [e1]; exact c_add _ _ (ok_valid hv) (ok_valid (hr _ (List.getElem_mem h2)))), rfl, ?_⟩
    refine ⟨fun h4 => ?_, fun h4 => ?_⟩
    · simp at h4
      show SV.tup [.p (cx c0), .p (i64 _)] = resC _
      have e := sums_bad h2 hz h4
      rw [avg, if_pos (by show (sums a r).2 ≠ 0; rw [e]; exact h4)]
      show _ = SV.tup [.p (cx c0), .p (i64 (sums a r).2)]
      rw [e]
    · simp at h4
      have e := sums_ok h2 hz h4
      refine ⟨k + 1, by show _ < _; simp; omega, ⟨rfl, rfl⟩, ⟨by show PV.v (.int _ _) = _; rw [succ_w (by omega)], trivial⟩, trivial, ?_, h2, by rw [e]; exact h4⟩
      refine ⟨rfl, ?_, trivial⟩
      show [SV.p _, SV.p _, SV.p _] = mapP (Enc.cs (sums a (r.take (k + 1))).1)
      rw [e]; rfl
  have h2 : decide ((k : Int) < (((a :: r).length - 1 : Nat) : Int)) = false := h2
  simp at h2
  have : k = r.length := by omega
  subst this
  rw [List.take_length] at hz hv
  have lc : (a :: r).length ≤ 100 := h1
  refine ⟨[], _, (show Ret Try.prog 74 [cx (sums a (r.take r.length)).1, cx (numC (a :: r).length)] [] (resC (div (sums a r).1 (numC (a :: r).length))) by rw [List.take_length]; exact c_div _ _ (ok_valid hv) (ok_valid (numC_ok _ h0 h1))), rfl, ?_⟩
  have ez : avg (a :: r) = finC (sums a r).1 (a :: r).length := by rw [avg, if_neg (by show ¬ (sums a r).2 ≠ 0; simp [hz])]; rfl
  rw [ez, finC]
  generalize div (sums a r).1 (numC (a :: r).length) = d
  refine ⟨fun h5 => ?_, fun h5 => ?_⟩
  · simp at h5
    rw [if_pos h5]; rfl
  simp at h5
  rw [if_neg (by simp [h5])]
  refine ⟨fun h6 => ?_, fun h6 => ?_⟩
  · refine ⟨fun h7 => ?_, fun h7 => ?_⟩
    · rw [if_pos (zero_br h6 h7)]; rfl
    · simp at h7
      rw [if_neg (fun h => h7 h.2)]; rfl
  · simp at h6
    rw [if_neg (fun h => h6 h.1)]; rfl

theorem b_averageR {r : List Cx} {p q : Nat} (h1 : p < q) (h2 : q ≤ r.length) (h3 : r.length ≤ 16) (hr : ∀ c ∈ r, c.valid) : Ret Try.prog 56 [.sl false (q - p) (((flat r).drop (p * 3)).take ((q - p) * 3))] [] (resC (avg (cutR r p q))) := by
  have e : ((flat r).drop (p * 3)).take ((q - p) * 3) = flat (cutR r p q) := flat_part r p q
  rw [e]
  have := b_average (cutR r p q) (by rw [cutR_length h2]; omega) (by rw [cutR_length h2]; omega) (fun c hc => hr c (List.mem_of_mem_drop (List.mem_of_mem_take hc)))
  simpa [sl, cutR_length h2] using this

theorem b_mean (b : List (List Cx)) (w : Int) (hw : I64 w) (hb : ∀ r ∈ b, ∀ c ∈ r, Enc.ok c) : Ret Try.prog 24 [sl b, i64 w] [] (resBs (bmean b w)) := by
  refine ret (fn := Try.f24) (by kernel_rfl) (by kernel_rfl) rfl ?_
  refine ⟨[], _, b_check b hb, rfl, ?_⟩
  refine ⟨fun h1 => ?_, fun h1 => ?_⟩
  · simp at h1
    rw [bmean, if_pos h1]; rfl
  simp at h1
  obtain ⟨b1, b2, b3, b4, b5, b6⟩ := ck32_0 h1
  have eb := row0_get b2
  refine ⟨fun h2 => ?_, fun h2 => ?_⟩
  rotate_left
  · simp at h2
    show SV.tup [.p (.sl false 0 []), .p (i64 2)] = resBs _
    rw [bmean, if_neg (by simp [h1]), if_pos (.inl h2)]; rfl
  simp at h2
  refine ⟨0, rfl, b2, by decide, _, idx b2, rfl, ?_⟩
  refine ⟨by omega, ?_⟩
  have em : ((b[0].length : Int).tmod w) = ((row0 b).length : Int) % w := by rw [Int.tmod_eq_emod_of_nonneg (by omega), eb]
  refine ⟨fun h3 => ?_, fun h3 => ?_⟩
  · have h3 : ((b[0].length : Int).tmod w != 0) = true := h3
    rw [em] at h3
    simp only [bne_iff_ne] at h3
    show SV.tup [.p (.sl false 0 []), .p (i64 2)] = resBs _
    rw [bmean, if_neg (by simp [h1]), if_pos (.inr h3)]; rfl
  have h3 : ((b[0].length : Int).tmod w != 0) = false := h3
  rw [em] at h3
  simp only [bne_eq_false_iff_eq] at h3
  obtain ⟨m, rfl⟩ := Int.eq_ofNat_of_zero_le (show 0 ≤ w by omega)
  have hm1 : 1 ≤ m := by omega
  have hd : m ∣ (row0 b).length := by
    have := Int.dvd_of_emod_eq_zero h3
    exact Int.ofNat_dvd.1 this
  obtain ⟨d, ed⟩ := hd
  have hm16 : m ≤ 16 := by have := Nat.le_of_dvd b3 ⟨d, ed⟩; omega
  have res : bmean b (m : Int) = gath (fun i => means (rw32 b i) m) b.length := by
    rw [bmean, if_neg (by simp [h1]), if_neg (by rintro (h | h); omega; exact h h3)]; rfl
  rw [res]
  have hdiv : ∀ r : List Cx, r.length = (row0 b).length → r.length / m = d := fun r hr => by rw [hr, ed, Nat.mul_div_cancel_left _ hm1]
  refine ⟨Nat, { inv := fun k => k ≤ b.length ∧ (ferr (fun i => means (rw32 b i) m) k = 0), slots := [(32, fun k => i64 k)], rows := [(7, 23, 1, fun k => k, fun k => flat ((List.range k).map fun i => (means (rw32 b i) m).1))], mu := fun k => b.length - k }, 0, ⟨⟨rfl, trivial⟩, ⟨⟨rfl, rfl⟩, trivial⟩, (by repeat' first | exact trivial | rfl | apply And.intro), Nat.zero_le _, rfl⟩, ?_⟩
  intro k ⟨hk, hz⟩
  refine ⟨fun h4 => ?_, fun h4 => ?_⟩
  · simp at h4
    refine ⟨k, rfl, h4, by decide, _, idx h4, rfl, ?_⟩
    have lr := b5 _ (List.getElem_mem h4)
    have vr : ∀ c ∈ b[k], c.valid := fun c hc => (b6 _ (List.getElem_mem h4) c hc).1
    have ek := rw32_get h4
    have dk : b[k].length / m = d := hdiv _ lr
    have ek2 : means (rw32 b k) m = gath (fun j => avg (cutR b[k] (j * m) (j * m + m))) d := by rw [ek, means, dk]
    have ld : b[k].length = m * d := by omega
    have hd16 : d ≤ 16 := by have := Nat.le_mul_of_pos_left d hm1; omega
    refine ⟨Nat, { inv := fun j => j ≤ d ∧ ferr (fun j => avg (cutR b[k] (j * m) (j * m + m))) j = 0, slots := [(11, fun j => i64 ((j * m : Nat) : Int))], rows := [(10, 60, 3, fun j => j, fun j => flat ((List.range j).map fun j => (avg (cutR b[k] (j * m) (j * m + m))).1))], mu := fun j => d - j }, 0, ⟨⟨by show PV.v (.int _ 0) = i64 ((0 * m : Nat) : Int); rw [Nat.zero_mul]; rfl, trivial⟩, ⟨⟨rfl, rfl⟩, trivial⟩, (by repeat' first | exact trivial | rfl | apply And.intro), Nat.zero_le _, rfl⟩, ?_⟩
    intro j ⟨hj, hjz⟩
    have mono : j < d ↔ j * m < b[k].length := by
      rw [ld, Nat.mul_comm m d]
      exact ⟨fun h => Nat.mul_lt_mul_of_pos_right h hm1, fun h => Nat.lt_of_mul_lt_mul_right h⟩
    refine ⟨fun h5 => ?_, fun h5 => ?_⟩
    · have h5 : decide (((j * m : Nat) : Int) < (b[k].length : Int)) = true := h5
      have h5' : j * m < b[k].length := by rw [decide_eq_true_iff] at h5; exact Int.ofNat_lt.1 h5
      have h6 : j < d := mono.2 h5'
      have h7 : j * m + m ≤ b[k].length := by
        have : (j + 1) * m ≤ d * m := Nat.mul_le_mul_right m h6
        rw [ld, Nat.mul_comm m d]
        rw [Nat.add_mul] at this
        omega
      have ew : IntKind.i64.wrap (((j * m : Nat) : Int) + (m : Int)) = ((j * m + m : Nat) : Int) := by rw [wrap_id (by omega) (by omega)]; omega
      refine ⟨by rw [flat_length]; rfl, j * m, rfl, j * m + m, ew, by omega, h7, j * m + m, ew, rfl, ?_⟩
      refine ⟨[], _, b_averageR (by omega) h7 (by omega) vr, rfl, ?_⟩
      refine ⟨fun h8 => ?_, fun h8 => ?_⟩
      · simp at h8
        show SV.tup [.p (.sl false 0 []), .p (i64 _)] = resBs _
        have e1 := ferr_bad (f := fun j => avg (cutR b[k] (j * m) (j * m + m))) h6 hjz h8
        have e2 : (means (rw32 b k) m).2 = (avg (cutR b[k] (j * m) (j * m + m))).2 := by
          rw [ek2, gath, if_neg (by rw [e1]; exact h8)]; exact e1
        have e3 := ferr_bad (f := fun i => means (rw32 b i) m) h4 hz (by rw [e2]; exact h8)
        rw [gath, if_neg (by rw [e3, e2]; exact h8), e3, e2]; rfl
      · simp at h8
        refine ⟨⟨by show j + 1 ≤ _; omega, by show (j + 1) * 24 ≤ _; omega⟩, ?_⟩
        refine ⟨j + 1, by show _ < _; simp; omega, ⟨rfl, rfl⟩, ⟨?_, trivial⟩, ⟨⟨rfl, ?_⟩, trivial⟩, (by repeat' first | exact trivial | rfl | apply And.intro), h6, ?_⟩
        · show PV.v (.int _ _) = i64 _
          rw [ew, Nat.add_mul, Nat.one_mul]
        · show _ ++ _ = flat _
          rw [List.range_succ, List.map_append, List.map_singleton, flat_snoc]; rfl
        · rw [ferr, if_neg (by simp [hjz])]; exact h8
    · have h5 : decide (((j * m : Nat) : Int) < (b[k].length : Int)) = false := h5
      have h6 : ¬ j < d := fun h => by
        have := mono.1 h
        simp at h5
        omega
      have : j = d := by omega
      subst this
      have e2 : means (rw32 b k) m = ((List.range j).map fun j => (avg (cutR b[k] (j * m) (j * m + m))).1, 0) := by rw [ek2, gath, if_pos hjz]
      refine ⟨false, ?_⟩
      refine ⟨⟨by show k + 1 ≤ _; omega, by show (k + 1) * 24 ≤ _; omega⟩, ?_⟩
      refine ⟨k + 1, by show _ < _; simp; omega, ⟨rfl, rfl⟩, ⟨by show PV.v (.int _ _) = _; rw [succ_w (by omega)], trivial⟩, ⟨⟨rfl, ?_⟩, trivial⟩, (by repeat' first | exact trivial | rfl | apply And.intro), h4, ?_⟩
      · show flat ((List.range k).map fun i => (means (rw32 b i) m).1) ++ [PV.sl false j (flat ((List.range j).map fun j => (avg (cutR b[k] (j * m) (j * m + m))).1))] = flat ((List.range (k + 1)).map fun i => (means (rw32 b i) m).1)
        rw [List.range_succ, List.map_append, List.map_singleton, flat_snoc, e2]
        show _ = _ ++ [PV.sl false ((List.range j).map fun j => (avg (cutR b[k] (j * m) (j * m + m))).1).length _]
        simp
      · rw [ferr, if_neg (by simp [hz]), e2]
  · simp at h4
    have : k = b.length := by omega
    subst this
    show SV.tup [.p (.sl false b.length (flat ((List.range b.length).map fun i => (means (rw32 b i) m).1))), .p (i64 0)] = resBs _
    rw [gath, if_pos hz]
    simp
end Go.Pv
