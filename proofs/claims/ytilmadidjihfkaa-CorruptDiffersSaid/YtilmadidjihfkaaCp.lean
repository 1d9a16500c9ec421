/- Contracts of the closure's functions: phases and amplitudes. -/
import Derived.Test.YtilmadidjihfkaaCt
import Derived.Test.YtilmadidjihfkaaCd
import Derived.Test.YtilmadidjihfkaaPlCxm
namespace Go.Pv
open Go.Vc
open Go.Proofs
set_option maxRecDepth 10000

theorem l_along (l : List Vis) (st : List Pr) (hlen : l.length ≤ 64) (hl : ∀ v ∈ l, v.good 8) (hs : st.length ≤ 64) : Ret Try.prog 87 [sl l, sl st] [] (resCs (along27 l st)) := by
  refine ret (fn := Try.f87) (by kernel_rfl) (by kernel_rfl) rfl ?_
  refine ⟨Nat, { inv := fun k => k ≤ st.length ∧ (∀ s ∈ st.take k, (got s.a s.b l).isSome = true), slots := [(15, fun k => i64 k)], rows := [(6, 23, 3, fun k => k, fun k => flat ((st.take k).map (gD l)))], mu := fun k => st.length - k }, 0, ⟨⟨rfl, trivial⟩, ⟨⟨rfl, rfl⟩, trivial⟩, (by repeat' first | exact trivial | rfl | apply And.intro), Nat.zero_le _, by simp⟩, ?_⟩
  intro k ⟨hk, hall⟩
  refine ⟨fun h1 => ?_, fun h1 => ?_⟩
  · simp at h1
    refine ⟨k, rfl, h1, by decide, _, idx h1, rfl, ?_⟩
    refine ⟨Nat.le_refl _, ?_⟩
    refine ⟨0, rfl, by decide, [i64 st[k].a], rfl, rfl, ?_⟩
    refine ⟨1, rfl, by decide, [i64 st[k].b], rfl, rfl, ?_⟩
    refine ⟨[], _, l_find l st[k].a st[k].b hlen hl, rfl, ?_⟩
    refine ⟨fun h2 => ?_, fun h2 => ?_⟩
    · cases hg : got st[k].a st[k].b l with
      | some c => rw [hg] at h2; simp [found] at h2
      | none =>
        show SV.tup [.p (.sl false 0 []), .p (i64 6)] = resCs _
        rw [along27, if_neg]
        · rfl
        rw [List.all_eq_true]
        intro h
        have := h st[k] (List.getElem_mem h1)
        rw [hg] at this
        cases this
    · cases hg : got st[k].a st[k].b l with
      | none => rw [hg] at h2; simp [found] at h2
      | some c =>
        refine ⟨⟨by show k + 1 ≤ _; omega, by show (k + 1) * 24 ≤ _; omega⟩, ?_⟩
        refine ⟨k + 1, by show _ < _; simp; omega, ⟨rfl, rfl⟩, ⟨by show PV.v (.int _ _) = _; rw [succ_w (by omega)], trivial⟩, ⟨⟨rfl, ?_⟩, trivial⟩, (by repeat' first | exact trivial | rfl | apply And.intro), h1, ?_⟩
        · show _ ++ [i64 c.re, i64 c.im, i64 c.den] = flat _
          rw [List.take_succ_eq_append_getElem h1, List.map_append, List.map_singleton, flat_snoc, gD, hg]; rfl
        · intro s hs
          rw [List.take_succ_eq_append_getElem h1, List.mem_append] at hs
          rcases hs with hs | hs
          · exact hall s hs
          · simp at hs; subst hs; rw [hg]; rfl
  simp at h1
  have : k = st.length := by omega
  subst this
  have hall' : st.all (fun s => (got s.a s.b l).isSome) = true := by
    rw [List.take_length] at hall
    rw [List.all_eq_true]; exact hall
  have hlt : (st.take st.length).length = st.length := by simp
  refine ⟨Nat, { inv := fun k => k ≤ st.length ∧ (∀ s ∈ st.take k, ¬ (gD l s).zero), slots := [(38, fun k => i64 k)],  mu := fun k => st.length - k }, 0, ⟨⟨rfl, trivial⟩, trivial, (by repeat' first | exact trivial | rfl | apply And.intro), Nat.zero_le _, by simp⟩, ?_⟩
  intro k ⟨hk2, hz⟩
  refine ⟨fun h2 => ?_, fun h2 => ?_⟩
  · simp at h2
    have h2' : k < ((st.take st.length).map (gD l)).length := by simpa using h2
    have ek : ((st.take st.length).map (gD l))[k] = gD l st[k] := by simp
    have hcell : ((flat ((st.take st.length).map (gD l))).drop (k * 3)).take 3 = Enc.cs (gD l st[k]) := by rw [← ek]; exact idx h2'
    refine ⟨k, rfl, h2, _, hcell, rfl, ?_⟩
    refine ⟨fun h3 => ?_, fun h3 => ?_⟩
    · refine ⟨fun h4 => ?_, fun h4 => ?_⟩
      · simp at h3 h4
        rw [along27, if_pos hall', if_pos]
        · rfl
        rw [List.any_eq_true]
        exact ⟨st[k], List.getElem_mem h2, by simpa using ⟨h3, h4⟩⟩
      · simp at h4
        refine ⟨k + 1, by show _ < _; simp; omega, ⟨rfl, rfl⟩, ⟨by show PV.v (.int _ _) = _; rw [succ_w (by omega)], trivial⟩, trivial, (by repeat' first | exact trivial | rfl | apply And.intro), h2, ?_⟩
        intro s hs
        rw [List.take_succ_eq_append_getElem h2, List.mem_append] at hs
        rcases hs with hs | hs
        · exact hz s hs
        · simp at hs; subst hs; exact fun h => h4 h.2
    · simp at h3
      refine ⟨k + 1, by show _ < _; simp; omega, ⟨rfl, rfl⟩, ⟨by show PV.v (.int _ _) = _; rw [succ_w (by omega)], trivial⟩, trivial, (by repeat' first | exact trivial | rfl | apply And.intro), h2, ?_⟩
      intro s hs
      rw [List.take_succ_eq_append_getElem h2, List.mem_append] at hs
      rcases hs with hs | hs
      · exact hz s hs
      · simp at hs; subst hs; exact fun h => h3 h.1
  simp at h2
  have : k = st.length := by omega
  subst this
  rw [List.take_length] at hz
  show SV.tup [.p (.sl false st.length (flat ((st.take st.length).map (gD l)))), .p (i64 0)] = resCs _
  rw [along27, if_pos hall', if_neg]
  · simp
  rw [List.any_eq_true]
  rintro ⟨s, hs, h⟩
  exact hz s hs (by simpa using h)

theorem l_turned (r v : Cx) (hr : Enc.ok r) (hv : v.valid) (hz : ¬ v.zero) : Ret Try.prog 89 [cx r, cx v] [] (resC (turned r v)) := by
  refine ret (fn := Try.f89) (by kernel_rfl) (by kernel_rfl) rfl ?_
  obtain ⟨h1, h2, h3, _, _⟩ := ray_ok hv hz
  refine ⟨[], _, c_ray v (ok_valid hv), rfl, ?_⟩
  refine ⟨fun h4 => ?_, fun h4 => ?_⟩
  · rw [h1] at h4; simp at h4
  refine ⟨[], _, c_mul r (ray v).1 hr (ok_valid h2), rfl, ?_⟩
  refine ⟨fun h5 => ?_, fun h5 => ?_⟩
  · simp at h5
    rw [turned, if_neg (by simp [h1]), if_pos h5]; rfl
  simp at h5
  have hrv : r.valid := by
    by_cases h : r.valid
    · exact h
    · rw [mul, if_neg (fun h' => h h'.1)] at h5; simp at h5
  refine ⟨[], _, c_ray (mul r (ray v).1).1 (ok_valid (mul_ok hrv h2 h5).2), rfl, ?_⟩
  rw [turned, if_neg (by simp [h1]), if_neg (by simp [h5])]; rfl

theorem fold27_snoc (t : List Cx) (v : Cx) (r : Cx) : fold27 r (t ++ [v]) = if (fold27 r t).2 ≠ 0 then fold27 r t else if (turned (fold27 r t).1 v).2 ≠ 0 then (c0, (turned (fold27 r t).1 v).2) else turned (fold27 r t).1 v := by
  induction t generalizing r with
  | nil =>
    by_cases h : (turned r v).2 = 0
    · simp only [List.nil_append, fold27, h, ne_eq, not_true, if_false]
      exact Prod.ext rfl h.symm
    · simp [fold27, h]
  | cons u t ih =>
    by_cases hu : (turned r u).2 = 0
    · simp only [List.cons_append, fold27, hu, ne_eq, not_true, if_false]
      exact ih _
    · simp [fold27, hu]

theorem fold27_bad {r : Cx} (t s : List Cx) (h : (fold27 r t).2 ≠ 0) : fold27 r (t ++ s) = fold27 r t := by
  induction t generalizing r with
  | nil => simp [fold27] at h
  | cons u t ih =>
    show (if (turned r u).2 ≠ 0 then _ else fold27 (turned r u).1 (t ++ s)) = (if (turned r u).2 ≠ 0 then _ else fold27 (turned r u).1 t)
    by_cases hu : (turned r u).2 ≠ 0
    · rw [if_pos hu, if_pos hu]
    · rw [if_neg hu, if_neg hu]
      refine ih ?_
      simp only [fold27] at h
      rwa [if_neg hu] at h

/-- The first steps: a ray. -/
theorem fold27_ok {t : List Cx} (ht : ∀ v ∈ t, v.valid ∧ ¬ v.zero) {r : Cx} (hr : r.valid) (hz : ¬ r.zero) : (fold27 r t).2 = 0 ∧ (fold27 r t).1.valid ∧ ¬ (fold27 r t).1.zero ∨ fold27 r t = (c0, 16) := by
  induction t generalizing r with
  | nil => exact .inl ⟨rfl, hr, hz⟩
  | cons u t ih =>
    simp only [fold27]
    rcases turned_err hr hz (ht u (by simp)).1 (ht u (by simp)).2 with ⟨_, _, h1, h2, h3, _, _⟩ | ⟨_, h⟩
    · rw [if_neg (by simp [h1])]
      exact ih (fun v hv => ht v (by simp [hv])) h2 h3
    · rw [h]; exact .inr (by simp)

theorem pairs_length (c : List Int) : (pairs c).length = c.length := by simp [pairs]

theorem l_phase (l : List Vis) (c : List Int) (hl : ∀ v ∈ l, Enc.ok v) (hc : c.length ≤ 1000000) : Ret Try.prog 69 [sl l, sl c] [] (resC (phase l c)) := by
  refine ret (fn := Try.f69) (by kernel_rfl) (by kernel_rfl) rfl ?_
  refine ⟨[], _, l_check l hl, rfl, ?_⟩
  refine ⟨fun h1 => ?_, fun h1 => ?_⟩
  · simp at h1
    rw [phase, if_pos h1]; rfl
  simp at h1
  obtain ⟨hlen, hgood, _⟩ := ck27_0 h1
  have bad : ¬ circle c → resC (phase l c) = SV.tup [.p (cx c0), .p (i64 2)] := fun h => by
    rw [phase, if_neg (by omega), if_pos h]
  refine ⟨fun h2 => ?_, fun h2 => ?_⟩
  rotate_left
  · simp at h2
    exact (bad fun h => by unfold circle at h; omega).symm
  simp at h2
  refine ⟨fun h3 => ?_, fun h3 => ?_⟩
  rotate_left
  · simp at h3
    exact (bad fun h => by unfold circle at h; omega).symm
  simp at h3
  refine ⟨[], _, l_different c hc, rfl, ?_⟩
  refine ⟨fun h4 => ?_, fun h4 => ?_⟩
  · simp at h4
    exact (bad fun h => h4 h.2.2).symm
  simp at h4
  have hcir : circle c := ⟨by omega, by omega, h4⟩
  refine ⟨Nat, { inv := fun k => k ≤ c.length ∧ (True), slots := [(37, fun k => i64 k)], rows := [(7, 123, 2, fun k => k, fun k => flat ((pairs c).take k))], mu := fun k => c.length - k }, 0, ⟨⟨rfl, trivial⟩, ⟨⟨rfl, rfl⟩, trivial⟩, (by repeat' first | exact trivial | rfl | apply And.intro), Nat.zero_le _, trivial⟩, ?_⟩
  intro k ⟨hk, _⟩
  refine ⟨fun h5 => ?_, fun h5 => ?_⟩
  · simp at h5
    have hm : (k + 1) % c.length < c.length := Nat.mod_lt _ (by omega)
    have hmod : (IntKind.i64.wrap ((k : Int) + 1)).tmod (c.length : Int) = (((k + 1) % c.length : Nat) : Int) := by
      rw [succ_w (by omega)]
      exact Int.ofNat_tmod _ _
    refine ⟨k, rfl, h5, by decide, _, idx h5, rfl, ?_⟩
    refine ⟨by show (c.length : Int) ≠ 0; omega, ?_⟩
    refine ⟨(k + 1) % c.length, hmod, hm, by decide, _, idx hm, rfl, ?_⟩
    refine ⟨⟨by show k + 1 ≤ _; omega, by show (k + 1) * 16 ≤ _; omega⟩, ?_⟩
    refine ⟨k + 1, by show _ < _; simp; omega, ⟨rfl, rfl⟩, ⟨by show PV.v (.int _ _) = _; rw [succ_w (by omega)], trivial⟩, ⟨⟨rfl, ?_⟩, trivial⟩, (by repeat' first | exact trivial | rfl | apply And.intro), h5, trivial⟩
    show _ ++ _ = flat _
    have hp : k < (pairs c).length := by rw [pairs_length]; exact h5
    rw [List.take_succ_eq_append_getElem hp, flat_snoc]
    have : (pairs c)[k] = ⟨c[k], c[(k + 1) % c.length]⟩ := by simp [pairs, List.getD, h5, hm]
    rw [this]; rfl
  simp at h5
  have : k = c.length := by omega
  subst this
  have htk : (pairs c).take c.length = pairs c := List.take_of_length_le (by rw [pairs_length]; exact Nat.le_refl _)
  have hpl := pairs_length c
  refine ⟨[], resCs (along27 l (pairs c)), ?_, rfl, ?_⟩
  · show Ret Try.prog 87 [sl l, .sl false c.length (flat ((pairs c).take c.length))] [] _
    rw [htk]
    rw [show PV.sl false c.length (flat (pairs c)) = sl (pairs c) by rw [← hpl]]
    exact l_along l (pairs c) hlen hgood (by omega)
  refine ⟨fun h6 => ?_, fun h6 => ?_⟩
  · simp at h6
    rw [phase, if_neg (by omega), if_neg (by simpa using hcir), if_pos h6]; rfl
  simp at h6
  obtain ⟨e1, e2, e3⟩ := along27_0 hgood h6
  have hph : phase l c = fold27 one (along27 l (pairs c)).1 := by rw [phase, if_neg (by omega), if_neg (by simpa using hcir), if_neg (by simp [h6])]
  have hvl : (along27 l (pairs c)).1.length = c.length := by rw [e1]; simp [hpl]
  have hall : ∀ v ∈ (along27 l (pairs c)).1, v.valid ∧ ¬ v.zero := by
    rw [e1]
    intro v hv
    rw [List.mem_map] at hv
    obtain ⟨s, hs, rfl⟩ := hv
    exact e3 s hs
  generalize hvs : (along27 l (pairs c)).1 = vs at hph hvl hall
  obtain ⟨v0, tl, rfl⟩ : ∃ v0 tl, vs = v0 :: tl := by
    cases vs with
    | nil => simp at hvl; omega
    | cons v0 tl => exact ⟨v0, tl, rfl⟩
  have h0 : 0 < (v0 :: tl).length := by simp
  have htl : tl.length + 1 = c.length := by simpa using hvl
  have hv0 := hall v0 (by simp)
  obtain ⟨r1, r2, r3, _, _⟩ := ray_ok hv0.1 hv0.2
  refine ⟨0, rfl, h0, by decide, _, idx (i := 0) h0, rfl, ?_⟩
  refine ⟨[], _, c_ray v0 (ok_valid hv0.1), rfl, ?_⟩
  refine ⟨fun h7 => ?_, fun h7 => ?_⟩
  · rw [r1] at h7; simp at h7
  have htd : ((flat (v0 :: tl)).drop (1 * 3)).take (((v0 :: tl).length - 1) * 3) = flat tl := by
    have := flat_part (v0 :: tl) 1 (v0 :: tl).length
    rw [show (1 * 3 : Nat) = 1 * Enc.sz Cx from rfl, show (((v0 :: tl).length - 1) * 3 : Nat) = ((v0 :: tl).length - 1) * Enc.sz Cx from rfl, this]
    simp
  refine ⟨flat_length (v0 :: tl), 1, rfl, by show 1 ≤ (v0 :: tl).length; simp, Nat.le_refl _, ?_⟩
  have hf : ∀ k, fold27 one ((v0 :: tl).take (k + 1)) = fold27 (ray v0).1 (tl.take k) := fun k => by
    show (if (turned one v0).2 ≠ 0 then _ else fold27 (turned one v0).1 (tl.take k)) = _
    rw [turned_one hv0.1 hv0.2, if_neg (by simpa using r1)]
  have hfr : ∀ k, (fold27 (ray v0).1 (tl.take k)).2 = 0 ∧ (fold27 (ray v0).1 (tl.take k)).1.valid ∧ ¬ (fold27 (ray v0).1 (tl.take k)).1.zero ∨ fold27 (ray v0).1 (tl.take k) = (c0, 16) := fun k =>
    fold27_ok (fun v hv => hall v (by simp [List.mem_of_mem_take hv])) r2 r3
  refine ⟨Nat, { inv := fun k => k ≤ tl.length ∧ (fold27 (ray v0).1 (tl.take k)).2 = 0, slots := [(80, fun k => i64 k)], boxes := [(2, fun k => Enc.cs (fold27 (ray v0).1 (tl.take k)).1)], mu := fun k => tl.length - k }, 0, ⟨⟨rfl, trivial⟩, trivial, (by repeat' first | exact trivial | rfl | apply And.intro), Nat.zero_le _, rfl⟩, ?_⟩
  intro k ⟨hk, hz⟩
  refine ⟨fun h8 => ?_, fun h8 => ?_⟩
  · have h8 : k < tl.length := by simpa using h8
    have hcell : ((((flat (v0 :: tl)).drop (1 * 3)).take (((v0 :: tl).length - 1) * 3)).drop (k * 3)).take 3 = Enc.cs tl[k] := by rw [htd]; exact idx h8
    refine ⟨k, rfl, by simpa using h8, by decide, _, hcell, rfl, ?_⟩
    have hr : (fold27 (ray v0).1 (tl.take k)).1.valid ∧ ¬ (fold27 (ray v0).1 (tl.take k)).1.zero := by
      rcases hfr k with h | h
      · exact h.2
      · rw [h] at hz; simp at hz
    have hv := hall tl[k] (by simp)
    have hsn := fold27_snoc (tl.take k) tl[k] (ray v0).1
    rw [← List.take_succ_eq_append_getElem h8, if_neg (by simp [hz])] at hsn
    refine ⟨[], _, l_turned (fold27 (ray v0).1 (tl.take k)).1 tl[k] (ok_valid hr.1) hv.1 hv.2, rfl, ?_⟩
    refine ⟨fun h9 => ?_, fun h9 => ?_⟩
    · simp at h9
      rw [if_pos h9] at hsn
      show SV.tup [.p (cx c0), .p (i64 _)] = resC _
      rw [hph]
      have hb : fold27 one (v0 :: tl) = fold27 one ((v0 :: tl).take (k + 1 + 1)) := by
        conv => lhs; rw [← List.take_append_drop (k + 1 + 1) (v0 :: tl)]
        exact fold27_bad _ _ (by rw [hf (k + 1), hsn]; exact h9)
      rw [hb, hf (k + 1), hsn]
    · simp at h9
      rw [if_neg (by simp [h9])] at hsn
      refine ⟨k + 1, by show _ < _; simp; omega, ⟨rfl, rfl⟩, ⟨by show PV.v (.int _ _) = _; rw [succ_w (by omega)], trivial⟩, trivial, ?_, h8, by rw [hsn]; exact h9⟩
      refine ⟨rfl, trivial, ?_, trivial⟩
      show _ = mapP (Enc.cs (fold27 (ray v0).1 (tl.take (k + 1))).1)
      rw [hsn]; rfl
  · have h8 : tl.length ≤ k := by simpa using h8
    have : k = tl.length := by omega
    subst this
    show SV.tup [.p (cx (fold27 (ray v0).1 (tl.take tl.length)).1), .p (i64 0)] = resC _
    have hend := hf tl.length
    rw [List.take_of_length_le (l := v0 :: tl) (by simp)] at hend
    rw [hph, hend]
    show SV.tup [_, _] = SV.tup [_, .p (i64 (fold27 (ray v0).1 (tl.take tl.length)).2)]
    rw [hz]
end Go.Pv
