/- Contracts of the reference's functions over bandpasses: Flat, Split, Join, Mean, Same, Great. -/
import Derived.Test.YtaaijmojlodefaaBh
namespace Go.Pv
open Go.Vc
open Go.Proofs
set_option maxRecDepth 10000

theorem r_flat32 (g : List Cx) (n : Int) : Ret Try.prog 16 [sl g, i64 n] [] (resBs (bflat g n)) := by
  refine ret (fn := Try.f16) (by kernel_rfl) (by kernel_rfl) rfl ?_
  refine ⟨[], _, r_check26 g, rfl, ?_⟩
  refine ⟨fun h1 => ?_, fun h1 => ?_⟩
  · simp at h1
    refine ⟨[], _, r_check26 g, rfl, ?_⟩
    rw [bflat, if_pos h1]; rfl
  simp at h1
  obtain ⟨b1, b2, b3⟩ := ck26_0 h1
  refine ⟨fun h2 => ?_, fun h2 => ?_⟩
  rotate_left
  · simp at h2
    show SV.tup [.p (.sl false 0 []), .p (i64 2)] = resBs _
    rw [bflat, if_neg (by simp [h1]), if_pos (.inl h2)]; rfl
  simp at h2
  refine ⟨fun h3 => ?_, fun h3 => ?_⟩
  · simp at h3
    show SV.tup [.p (.sl false 0 []), .p (i64 2)] = resBs _
    rw [bflat, if_neg (by simp [h1]), if_pos (.inr h3)]; rfl
  simp at h3
  obtain ⟨m, rfl⟩ := Int.eq_ofNat_of_zero_le (show 0 ≤ n by omega)
  rw [bflat_grid h1 (by omega) (by omega), grid_ok fun _ _ _ _ => rfl]
  refine ⟨Nat, { inv := fun k => k ≤ g.length ∧ (True), slots := [(7, fun k => i64 k)], rows := [(6, 23, 1, fun k => k, fun k => flat ((List.range k).map fun i => (List.range m).map fun _ => gat g i))], mu := fun k => g.length - k }, 0, ⟨⟨rfl, trivial⟩, ⟨⟨rfl, rfl⟩, trivial⟩, trivial, Nat.zero_le _, trivial⟩, ?_⟩
  intro k ⟨hk, _⟩
  refine ⟨fun h4 => ?_, fun h4 => ?_⟩
  · simp at h4
    refine ⟨Nat, { inv := fun j => j ≤ m ∧ (True), slots := [(9, fun j => i64 j)], rows := [(8, 60, 3, fun j => j, fun j => flat ((List.range j).map fun _ => gat g k))], mu := fun j => m - j }, 0, ⟨⟨rfl, trivial⟩, ⟨⟨rfl, rfl⟩, trivial⟩, (by repeat' first | exact trivial | rfl | apply And.intro), Nat.zero_le _, trivial⟩, ?_⟩
    intro j ⟨hj, _⟩
    refine ⟨fun h5 => ?_, fun h5 => ?_⟩
    · simp at h5
      refine ⟨k, rfl, h4, by decide, _, idx h4, rfl, ?_⟩
      refine ⟨⟨by show j + 1 ≤ _; omega, by show (j + 1) * 24 ≤ _; omega⟩, ?_⟩
      refine ⟨j + 1, by show _ < _; simp; omega, ⟨rfl, rfl⟩, ⟨by show PV.v (.int _ _) = _; rw [succ_w (by omega)], trivial⟩, ⟨⟨rfl, ?_⟩, trivial⟩, (by repeat' first | exact trivial | rfl | apply And.intro), h5, trivial⟩
      show _ ++ _ = flat _
      rw [List.range_succ, List.map_append, List.map_singleton, flat_snoc, gat_get h4]; rfl
    · simp at h5
      have : j = m := by omega
      subst this
      refine ⟨false, ?_⟩
      refine ⟨⟨by show k + 1 ≤ _; omega, by show (k + 1) * 24 ≤ _; omega⟩, ?_⟩
      refine ⟨k + 1, by show _ < _; simp; omega, ⟨rfl, rfl⟩, ⟨by show PV.v (.int _ _) = _; rw [succ_w (by omega)], trivial⟩, ⟨⟨rfl, ?_⟩, trivial⟩, (by repeat' first | exact trivial | rfl | apply And.intro), h4, trivial⟩
      show flat ((List.range k).map fun i => (List.range j).map fun _ => gat g i) ++ [PV.sl false j (flat ((List.range j).map fun _ => gat g k))] = flat ((List.range (k + 1)).map fun i => (List.range j).map fun _ => gat g i)
      rw [List.range_succ, List.map_append, List.map_singleton, flat_snoc]
      show _ = _ ++ [PV.sl false ((List.range j).map fun _ => gat g k).length _]
      rw [List.length_map, List.length_range]
  · simp at h4
    have : k = g.length := by omega
    subst this
    show SV.tup [.p (.sl false g.length (flat ((List.range g.length).map fun i => (List.range m).map fun _ => gat g i))), .p (i64 0)] = resBs _
    simp

theorem r_cut (b : List (List Cx)) (p q : Nat) (hb : b.length ≤ 8) (h1 : p ≤ q) (h2 : ∀ r ∈ b, q ≤ r.length) (h3 : q ≤ 100) : Ret Try.prog 52 [sl b, i64 p, i64 q] [] (.p (sl (cut32 b p q))) := by
  refine ret (fn := Try.f52) (by kernel_rfl) (by kernel_rfl) rfl ?_
  refine ⟨Nat, { inv := fun k => k ≤ b.length ∧ (True), slots := [(8, fun k => i64 k)], rows := [(7, 23, 1, fun k => k, fun k => flat (cut32 (b.take k) p q))], mu := fun k => b.length - k }, 0, ⟨⟨rfl, trivial⟩, ⟨⟨rfl, rfl⟩, trivial⟩, trivial, Nat.zero_le _, trivial⟩, ?_⟩
  intro k ⟨hk, _⟩
  refine ⟨fun h4 => ?_, fun h4 => ?_⟩
  · simp at h4
    have h5 := h2 _ (List.getElem_mem h4)
    refine ⟨k, rfl, h4, by decide, _, idx h4, rfl, ?_⟩
    refine ⟨by rw [flat_length]; rfl, p, rfl, q, rfl, h1, h5, ?_⟩
    have e : ((flat b[k]).drop (p * 3)).take ((q - p) * 3) = flat (cutR b[k] p q) := flat_part b[k] p q
    refine ⟨by rw [e, flat_length, cutR_length h5]; rfl, ⟨by show 0 + (q - p) ≤ _; omega, by show (0 + (q - p)) * 24 ≤ _; omega⟩, false, (fun h => by cases h), ?_⟩
    refine ⟨false, ?_⟩
    refine ⟨⟨by show k + 1 ≤ _; omega, by show (k + 1) * 24 ≤ _; omega⟩, ?_⟩
    refine ⟨k + 1, by show _ < _; simp; omega, ⟨rfl, rfl⟩, ⟨by show PV.v (.int _ _) = _; rw [succ_w (by omega)], trivial⟩, ⟨⟨rfl, ?_⟩, trivial⟩, (by repeat' first | exact trivial | rfl | apply And.intro), h4, trivial⟩
    show flat (cut32 (b.take k) p q) ++ [PV.sl false (0 + (q - p)) (((flat b[k]).drop (p * 3)).take ((q - p) * 3))] = flat (cut32 (b.take (k + 1)) p q)
    rw [e, Nat.zero_add, List.take_succ_eq_append_getElem h4, ← cutR_length h5]
    unfold cut32
    rw [List.map_append, List.map_singleton, flat_snoc]; rfl
  · simp at h4
    have : k = b.length := by omega
    subst this
    show SV.p (.sl false b.length (flat (cut32 (b.take b.length) p q))) = _
    rw [List.take_length]
    simp [cut32]

theorem r_split32 (b : List (List Cx)) (n : Int) : Ret Try.prog 18 [sl b, i64 n] [] (resB2 (bsplit b n)) := by
  refine ret (fn := Try.f18) (by kernel_rfl) (by kernel_rfl) rfl ?_
  refine ⟨[], _, r_check32 b, rfl, ?_⟩
  refine ⟨fun h1 => ?_, fun h1 => ?_⟩
  · simp at h1
    refine ⟨[], _, r_check32 b, rfl, ?_⟩
    rw [bsplit, if_pos h1]; rfl
  simp at h1
  obtain ⟨b1, b2, b3, b4, b5, b6⟩ := ck32_0 h1
  have eb := row0_get b2
  refine ⟨fun h2 => ?_, fun h2 => ?_⟩
  rotate_left
  · simp at h2
    show SV.tup [.p (.sl false 0 []), .p (.sl false 0 []), .p (i64 2)] = resB2 _
    rw [bsplit, if_neg (by simp [h1]), if_pos (.inl h2)]; rfl
  simp at h2
  refine ⟨0, rfl, b2, by decide, _, idx b2, rfl, ?_⟩
  have ew : IntKind.i64.wrap ((b[0].length : Int) - 1) = (b[0].length : Int) - 1 := by rw [wrap_id (by omega) (by rw [← eb]; omega)]
  refine ⟨fun h3 => ?_, fun h3 => ?_⟩
  · have h3 : decide (n > IntKind.i64.wrap ((b[0].length : Int) - 1)) = true := h3
    rw [ew] at h3
    simp at h3
    show SV.tup [.p (.sl false 0 []), .p (.sl false 0 []), .p (i64 2)] = resB2 _
    rw [bsplit, if_neg (by simp [h1]), if_pos (.inr (by rw [eb]; omega))]; rfl
  have h3 : decide (n > IntKind.i64.wrap ((b[0].length : Int) - 1)) = false := h3
  rw [ew] at h3
  simp at h3
  obtain ⟨m, rfl⟩ := Int.eq_ofNat_of_zero_le (show 0 ≤ n by omega)
  have hm : m < (row0 b).length := by rw [eb]; omega
  refine ⟨_, r_cut b 0 m b1 (by omega) (fun r hr => by have := b5 r hr; omega) (by omega), rfl, ?_⟩
  refine ⟨0, rfl, b2, by decide, _, idx b2, rfl, ?_⟩
  refine ⟨_, r_cut b m b[0].length b1 (by rw [← eb]; omega) (fun r hr => by have := b5 r hr; rw [← eb]; omega) (by rw [← eb]; omega), rfl, ?_⟩
  rw [bsplit, if_neg (by simp [h1]), if_neg (by omega), eb]; rfl

theorem r_join32 (a b : List (List Cx)) : Ret Try.prog 20 [sl a, sl b] [] (resBs (bjoin a b)) := by
  refine ret (fn := Try.f20) (by kernel_rfl) (by kernel_rfl) rfl ?_
  refine ⟨[], _, r_both32 a b, rfl, ?_⟩
  refine ⟨fun h1 => ?_, fun h1 => ?_⟩
  · simp at h1
    refine ⟨[], _, r_both32 a b, rfl, ?_⟩
    rw [bjoin, if_pos h1]; rfl
  simp at h1
  obtain ⟨ka, kb⟩ := both32_0 h1
  obtain ⟨a1, a2, a3, a4, a5, a6⟩ := ck32_0 ka
  obtain ⟨b1, b2, b3, b4, b5, b6⟩ := ck32_0 kb
  have ea := row0_get a2
  have eb := row0_get b2
  refine ⟨fun h2 => ?_, fun h2 => ?_⟩
  · simp at h2
    show SV.tup [.p (.sl false 0 []), .p (i64 2)] = resBs _
    rw [bjoin, if_neg (by simp [h1]), if_pos (by omega)]; rfl
  simp at h2
  refine ⟨0, rfl, a2, by decide, _, idx a2, rfl, ?_⟩
  refine ⟨0, rfl, b2, by decide, _, idx b2, rfl, ?_⟩
  have ew : IntKind.i64.wrap ((a[0].length : Int) + b[0].length) = ((a[0].length + b[0].length : Nat) : Int) := by rw [← ea, ← eb, wrap_id (by omega) (by omega)]; omega
  refine ⟨fun h3 => ?_, fun h3 => ?_⟩
  · have h3 : decide (IntKind.i64.wrap ((a[0].length : Int) + b[0].length) > 16) = true := h3
    rw [ew] at h3
    simp at h3
    show SV.tup [.p (.sl false 0 []), .p (i64 4)] = resBs _
    rw [bjoin, if_neg (by simp [h1]), if_neg (by omega), if_pos (by rw [ea, eb]; omega)]; rfl
  have h3 : decide (IntKind.i64.wrap ((a[0].length : Int) + b[0].length) > 16) = false := h3
  rw [ew] at h3
  simp at h3
  rw [bjoin, if_neg (by simp [h1]), if_neg (by omega), if_neg (by rw [ea, eb]; omega)]
  refine ⟨Nat, { inv := fun k => k ≤ a.length ∧ (True), slots := [(7, fun k => i64 k)], rows := [(6, 23, 1, fun k => k, fun k => flat ((List.range k).map fun j => rw32 a j ++ rw32 b j))], mu := fun k => a.length - k }, 0, ⟨⟨rfl, trivial⟩, ⟨⟨rfl, rfl⟩, trivial⟩, trivial, Nat.zero_le _, trivial⟩, ?_⟩
  intro k ⟨hk, _⟩
  refine ⟨fun h4 => ?_, fun h4 => ?_⟩
  · simp at h4
    have h5 : k < b.length := by omega
    have la := a5 _ (List.getElem_mem h4)
    have lb := b5 _ (List.getElem_mem h5)
    refine ⟨k, rfl, h4, by decide, _, idx h4, rfl, ?_⟩
    refine ⟨by rw [flat_length]; rfl, ⟨by show 0 + a[k].length ≤ _; omega, by show (0 + a[k].length) * 24 ≤ _; omega⟩, rfl, false, (fun h => by cases h), (fun _ => by omega), ?_⟩
    refine ⟨k, rfl, h5, by decide, _, idx h5, rfl, ?_⟩
    refine ⟨by rw [flat_length]; rfl, ⟨by show 0 + a[k].length + b[k].length ≤ _; omega, by show (0 + a[k].length + b[k].length) * 24 ≤ _; omega⟩, ?_⟩
    refine ⟨false, ?_⟩
    refine ⟨⟨by show k + 1 ≤ _; omega, by show (k + 1) * 24 ≤ _; omega⟩, ?_⟩
    refine ⟨k + 1, by show _ < _; simp; omega, ⟨rfl, rfl⟩, ⟨by show PV.v (.int _ _) = _; rw [succ_w (by omega)], trivial⟩, ⟨⟨rfl, ?_⟩, trivial⟩, (by repeat' first | exact trivial | rfl | apply And.intro), h4, trivial⟩
    show flat ((List.range k).map fun j => rw32 a j ++ rw32 b j) ++ [PV.sl false (0 + a[k].length + b[k].length) ([] ++ flat a[k] ++ flat b[k])] = flat ((List.range (k + 1)).map fun j => rw32 a j ++ rw32 b j)
    rw [List.range_succ, List.map_append, List.map_singleton, flat_snoc, rw32_get h4, rw32_get h5]
    show _ = _ ++ [PV.sl false (a[k] ++ b[k]).length (flat (a[k] ++ b[k]))]
    rw [flat_append, List.length_append, Nat.zero_add, List.nil_append]
  · simp at h4
    have : k = a.length := by omega
    subst this
    show SV.tup [.p (.sl false a.length (flat ((List.range a.length).map fun j => rw32 a j ++ rw32 b j))), .p (i64 0)] = resBs _
    simp [jn]

theorem r_mean (l : List Cx) (h0 : 0 < l.length) (h1 : l.length ≤ 100) (hl : ∀ c ∈ l, c.valid) : Ret Try.prog 57 [sl l] [] (resC (avg l)) := by
  have es := sums_cz h0 hl
  have eavg : avg l = if (sums cz l).2 ≠ 0 then (c0, (sums cz l).2) else finC (sums cz l).1 l.length := by rw [avg, es]
  rw [eavg]
  refine ret (fn := Try.f57) (by kernel_rfl) (by kernel_rfl) rfl ?_
  refine ⟨Nat, { inv := fun k => k ≤ l.length ∧ (sums cz (l.take k)).2 = 0, slots := [(5, fun k => i64 k)], boxes := [(1, fun k => Enc.cs (sums cz (l.take k)).1)], mu := fun k => l.length - k }, 0, ⟨⟨rfl, trivial⟩, trivial, (by repeat' first | exact trivial | rfl | apply And.intro), Nat.zero_le _, rfl⟩, ?_⟩
  intro k ⟨hk, hz⟩
  have hv := sums_valid cz_valid (l := l.take k) (fun c hc => hl c (List.mem_of_mem_take hc)) hz
  refine ⟨fun h2 => ?_, fun h2 => ?_⟩
  · simp at h2
    refine ⟨k, rfl, h2, by decide, _, idx h2, rfl, ?_⟩
    refine ⟨_, (show Ret Try.prog 79 [cx (sums cz (l.take k)).1, cx l[k]] [] (resC (add (sums cz (l.take k)).1 l[k])) from r_add _ _), rfl, ?_⟩
    refine ⟨fun h4 => ?_, fun h4 => ?_⟩
    · simp only [bne_iff_ne] at h4
      show SV.tup [.p (cx c0), .p (i64 16)] = resC _
      rw [sums_16 cz_valid hl h2 hz h4]; rfl
    · have h4 : (add (sums cz (l.take k)).1 l[k]).2 = 0 := by simpa only [bne_eq_false_iff_eq] using h4
      have e := sums_ok h2 hz h4
      refine ⟨k + 1, by show _ < _; simp; omega, ⟨rfl, rfl⟩, ⟨by show PV.v (.int _ _) = _; rw [succ_w (by omega)], trivial⟩, trivial, ?_, h2, by rw [e]; exact h4⟩
      refine ⟨rfl, ?_, trivial⟩
      show [SV.p _, SV.p _, SV.p _] = mapP (Enc.cs (sums cz (l.take (k + 1))).1)
      rw [e]; rfl
  simp at h2
  have : k = l.length := by omega
  subst this
  rw [List.take_length] at hz hv
  refine ⟨[], _, (show Ret Try.prog 47 [cx (sums cz (l.take l.length)).1, cx (numC l.length)] [] (resC (div (sums cz l).1 (numC l.length))) by rw [List.take_length]; exact r_div _ _), rfl, ?_⟩
  rw [if_neg (by simp [hz]), finC]
  have hd := div_e16 hv (numC_ok l.length h0 h1) (fun h => by have h' : (l.length : Int) = 0 := h.1; omega)
  revert hd
  generalize div (sums cz l).1 (numC l.length) = d
  intro hd
  refine ⟨fun h5 => ?_, fun h5 => ?_⟩
  · simp only [bne_iff_ne] at h5
    rw [if_pos h5]
    rcases hd with hd | hd
    · exact absurd hd h5
    · rw [hd]; rfl
  have h5 : d.2 = 0 := by simpa only [bne_eq_false_iff_eq] using h5
  rw [if_neg (by simp [h5])]
  refine ⟨[], _, r_zero d.1, rfl, ?_⟩
  refine ⟨fun h6 => ?_, fun h6 => ?_⟩
  · simp at h6
    rw [if_pos h6]; rfl
  · simp at h6
    rw [if_neg h6]; rfl

theorem r_meanR {r : List Cx} {p q : Nat} (h1 : p < q) (h2 : q ≤ r.length) (h3 : r.length ≤ 16) (hr : ∀ c ∈ r, c.valid) : Ret Try.prog 57 [.sl false (q - p) (((flat r).drop (p * 3)).take ((q - p) * 3))] [] (resC (avg (cutR r p q))) := by
  have e : ((flat r).drop (p * 3)).take ((q - p) * 3) = flat (cutR r p q) := flat_part r p q
  rw [e]
  have := r_mean (cutR r p q) (by rw [cutR_length h2]; omega) (by rw [cutR_length h2]; omega) (fun c hc => hr c (List.mem_of_mem_drop (List.mem_of_mem_take hc)))
  simpa [sl, cutR_length h2] using this

theorem r_mean32 (b : List (List Cx)) (w : Int) (hw : I64 w) : Ret Try.prog 25 [sl b, i64 w] [] (resBs (bmean b w)) := by
  refine ret (fn := Try.f25) (by kernel_rfl) (by kernel_rfl) rfl ?_
  refine ⟨[], _, r_check32 b, rfl, ?_⟩
  refine ⟨fun h1 => ?_, fun h1 => ?_⟩
  · simp at h1
    refine ⟨[], _, r_check32 b, rfl, ?_⟩
    rw [bmean, if_pos h1]; rfl
  simp at h1
  obtain ⟨b1, b2, b3, b4, b5, b6⟩ := ck32_0 h1
  have eb := row0_get b2
  refine ⟨fun h2 => ?_, fun h2 => ?_⟩
  rotate_left
  · simp at h2
    show SV.tup [.p (.sl false 0 []), .p (i64 2)] = resBs _
    rw [bmean, if_neg (by simp [h1]), if_pos (.inl h2)]; rfl
  simp at h2
  refine ⟨0, rfl, b2, by decide, _, idx b2, rfl, ?_⟩
  refine ⟨by omega, ?_⟩
  have em : ((b[0].length : Int).tmod w) = ((row0 b).length : Int) % w := by rw [Int.tmod_eq_emod_of_nonneg (by omega), eb]
  refine ⟨fun h3 => ?_, fun h3 => ?_⟩
  · have h3 : ((b[0].length : Int).tmod w != 0) = true := h3
    rw [em] at h3
    simp only [bne_iff_ne] at h3
    show SV.tup [.p (.sl false 0 []), .p (i64 2)] = resBs _
    rw [bmean, if_neg (by simp [h1]), if_pos (.inr h3)]; rfl
  have h3 : ((b[0].length : Int).tmod w != 0) = false := h3
  rw [em] at h3
  simp only [bne_eq_false_iff_eq] at h3
  obtain ⟨m, rfl⟩ := Int.eq_ofNat_of_zero_le (show 0 ≤ w by omega)
  have hm1 : 1 ≤ m := by omega
  have hd : m ∣ (row0 b).length := by
    have := Int.dvd_of_emod_eq_zero h3
    exact Int.ofNat_dvd.1 this
  obtain ⟨d, ed⟩ := hd
  have hm16 : m ≤ 16 := by have := Nat.le_of_dvd b3 ⟨d, ed⟩; omega
  have res : bmean b (m : Int) = gath (fun i => means (rw32 b i) m) b.length := by
    rw [bmean, if_neg (by simp [h1]), if_neg (by rintro (h | h); omega; exact h h3)]; rfl
  rw [res]
  have hdiv : ∀ r : List Cx, r.length = (row0 b).length → r.length / m = d := fun r hr => by rw [hr, ed, Nat.mul_div_cancel_left _ hm1]
  refine ⟨Nat, { inv := fun k => k ≤ b.length ∧ (ferr (fun i => means (rw32 b i) m) k = 0), slots := [(7, fun k => i64 k)], rows := [(6, 23, 1, fun k => k, fun k => flat ((List.range k).map fun i => (means (rw32 b i) m).1))], mu := fun k => b.length - k }, 0, ⟨⟨rfl, trivial⟩, ⟨⟨rfl, rfl⟩, trivial⟩, (by repeat' first | exact trivial | rfl | apply And.intro), Nat.zero_le _, rfl⟩, ?_⟩
  intro k ⟨hk, hz⟩
  refine ⟨fun h4 => ?_, fun h4 => ?_⟩
  · simp at h4
    have lr := b5 _ (List.getElem_mem h4)
    have vr : ∀ c ∈ b[k], c.valid := fun c hc => (b6 _ (List.getElem_mem h4) c hc).1
    have ek := rw32_get h4
    have dk : b[k].length / m = d := hdiv _ lr
    have ek2 : means (rw32 b k) m = gath (fun j => avg (cutR b[k] (j * m) (j * m + m))) d := by rw [ek, means, dk]
    have ld : b[k].length = m * d := by omega
    have hd16 : d ≤ 16 := by have := Nat.le_mul_of_pos_left d hm1; omega
    refine ⟨Nat, { inv := fun j => j ≤ d ∧ ferr (fun j => avg (cutR b[k] (j * m) (j * m + m))) j = 0, slots := [(9, fun j => i64 ((j * m : Nat) : Int))], rows := [(8, 60, 3, fun j => j, fun j => flat ((List.range j).map fun j => (avg (cutR b[k] (j * m) (j * m + m))).1))], mu := fun j => d - j }, 0, ⟨⟨by show PV.v (.int _ 0) = i64 ((0 * m : Nat) : Int); rw [Nat.zero_mul]; rfl, trivial⟩, ⟨⟨rfl, rfl⟩, trivial⟩, (by repeat' first | exact trivial | rfl | apply And.intro), Nat.zero_le _, rfl⟩, ?_⟩
    intro j ⟨hj, hjz⟩
    have mono : j < d ↔ j * m < b[k].length := by
      rw [ld, Nat.mul_comm m d]
      exact ⟨fun h => Nat.mul_lt_mul_of_pos_right h hm1, fun h => Nat.lt_of_mul_lt_mul_right h⟩
    refine ⟨k, rfl, h4, by decide, _, idx h4, rfl, ?_⟩
    refine ⟨fun h5 => ?_, fun h5 => ?_⟩
    · have h5 : decide (((j * m : Nat) : Int) < (b[k].length : Int)) = true := h5
      have h5' : j * m < b[k].length := by rw [decide_eq_true_iff] at h5; exact Int.ofNat_lt.1 h5
      have h6 : j < d := mono.2 h5'
      have h7 : j * m + m ≤ b[k].length := by
        have : (j + 1) * m ≤ d * m := Nat.mul_le_mul_right m h6
        rw [ld, Nat.mul_comm m d]
        rw [Nat.add_mul] at this
        omega
      have ew : IntKind.i64.wrap (((j * m : Nat) : Int) + (m : Int)) = ((j * m + m : Nat) : Int) := by rw [wrap_id (by omega) (by omega)]; omega
      refine ⟨k, rfl, h4, by decide, _, idx h4, rfl, ?_⟩
      refine ⟨by rw [flat_length]; rfl, j * m, rfl, j * m + m, ew, by omega, h7, ?_⟩
      refine ⟨[], _, r_meanR (by omega) h7 (by omega) vr, rfl, ?_⟩
      refine ⟨fun h8 => ?_, fun h8 => ?_⟩
      · simp at h8
        show SV.tup [.p (.sl false 0 []), .p (i64 _)] = resBs _
        have e1 := ferr_bad (f := fun j => avg (cutR b[k] (j * m) (j * m + m))) h6 hjz h8
        have e2 : (means (rw32 b k) m).2 = (avg (cutR b[k] (j * m) (j * m + m))).2 := by
          rw [ek2, gath, if_neg (by rw [e1]; exact h8)]; exact e1
        have e3 := ferr_bad (f := fun i => means (rw32 b i) m) h4 hz (by rw [e2]; exact h8)
        rw [gath, if_neg (by rw [e3, e2]; exact h8), e3, e2]; rfl
      · simp at h8
        refine ⟨⟨by show j + 1 ≤ _; omega, by show (j + 1) * 24 ≤ _; omega⟩, ?_⟩
        refine ⟨j + 1, by show _ < _; simp; omega, ⟨rfl, rfl⟩, ⟨?_, trivial⟩, ⟨⟨rfl, ?_⟩, trivial⟩, (by repeat' first | exact trivial | rfl | apply And.intro), h6, ?_⟩
        · show PV.v (.int _ _) = i64 _
          rw [ew, Nat.add_mul, Nat.one_mul]
        · show _ ++ _ = flat _
          rw [List.range_succ, List.map_append, List.map_singleton, flat_snoc]; rfl
        · rw [ferr, if_neg (by simp [hjz])]; exact h8
    · have h5 : decide (((j * m : Nat) : Int) < (b[k].length : Int)) = false := h5
      have h6 : ¬ j < d := fun h => by
        have := mono.1 h
        simp at h5
        omega
      have : j = d := by omega
      subst this
      have e2 : means (rw32 b k) m = ((List.range j).map fun j => (avg (cutR b[k] (j * m) (j * m + m))).1, 0) := by rw [ek2, gath, if_pos hjz]
      refine ⟨false, ?_⟩
      refine ⟨⟨by show k + 1 ≤ _; omega, by show (k + 1) * 24 ≤ _; omega⟩, ?_⟩
      refine ⟨k + 1, by show _ < _; simp; omega, ⟨rfl, rfl⟩, ⟨by show PV.v (.int _ _) = _; rw [succ_w (by omega)], trivial⟩, ⟨⟨rfl, ?_⟩, trivial⟩, (by repeat' first | exact trivial | rfl | apply And.intro), h4, ?_⟩
      · show flat ((List.range k).map fun i => (means (rw32 b i) m).1) ++ [PV.sl false j (flat ((List.range j).map fun j => (avg (cutR b[k] (j * m) (j * m + m))).1))] = flat ((List.range (k + 1)).map fun i => (means (rw32 b i) m).1)
        rw [List.range_succ, List.map_append, List.map_singleton, flat_snoc, e2]
        show _ = _ ++ [PV.sl false ((List.range j).map fun j => (avg (cutR b[k] (j * m) (j * m + m))).1).length _]
        simp
      · rw [ferr, if_neg (by simp [hz]), e2]
  · simp at h4
    have : k = b.length := by omega
    subst this
    show SV.tup [.p (.sl false b.length (flat ((List.range b.length).map fun i => (means (rw32 b i) m).1))), .p (i64 0)] = resBs _
    rw [gath, if_pos hz]
    simp
end Go.Pv
