/- Contracts of the closure's functions: amplitudes; the reference's phases and amplitudes. -/
import Derived.Test.YtilmadidjihfkaaCp
namespace Go.Pv
open Go.Vc
open Go.Proofs
set_option maxRecDepth 10000

theorem div_ok {a b : Cx} (ha : a.valid) (hb : b.valid) (h : (div a b).2 = 0) : (div a b).1.valid := by
  by_cases hz : b.zero
  · rw [div, if_pos ⟨ha, hb⟩, if_pos hz] at h; simp at h
  · rw [div, if_pos ⟨ha, hb⟩, if_neg hz] at h ⊢
    have hn : 0 < b.re * b.re + b.im * b.im := by
      have s1 := sq_nonneg b.re
      have s2 := sq_nonneg b.im
      rcases Int.lt_trichotomy (b.re * b.re + b.im * b.im) 0 with h | h | h
      · omega
      · have t1 : b.re * b.re = 0 := by omega
        have t2 : b.im * b.im = 0 := by omega
        exact absurd ⟨by rcases Int.mul_eq_zero.1 t1 with h | h <;> exact h, by rcases Int.mul_eq_zero.1 t2 with h | h <;> exact h⟩ hz
      · exact h
    have hp : 0 < (b.re * b.re + b.im * b.im) * a.den := Int.mul_pos hn (by have := ha.1; omega)
    obtain ⟨h1, h2⟩ := make_ok hp h
    rw [h1]; exact h2

theorem div_errQ {a b : Cx} (ha : a.valid) (hb : b.valid) (hz : ¬ b.zero) : (div a b).2 = 0 ∨ div a b = (c0, 16) := by
  rw [div, if_pos ⟨ha, hb⟩, if_neg hz]
  exact make_err _ _ _

theorem nrm_errQ {a : Cx} (ha : a.valid) : (nrm a).2 = 0 ∨ nrm a = (f0, 16) := by
  rw [nrm, if_pos ha]
  split
  · exact .inr rfl
  · exact .inl rfl

theorem l_amp (l : List Vis) (a b c d : Int) (hl : ∀ v ∈ l, Enc.ok v) : Ret Try.prog 90 [sl l, i64 a, i64 b, i64 c, i64 d] [] (resF (amp l a b c d)) := by
  refine ret (fn := Try.f90) (by kernel_rfl) (by kernel_rfl) rfl ?_
  refine ⟨[], _, l_check l hl, rfl, ?_⟩
  refine ⟨fun h1 => ?_, fun h1 => ?_⟩
  · simp at h1
    rw [amp, if_pos h1]; rfl
  simp at h1
  obtain ⟨hlen, hgood, _⟩ := ck27_0 h1
  refine ⟨[], _, l_different [a, b, c, d] (by simp), rfl, ?_⟩
  refine ⟨fun h2 => ?_, fun h2 => ?_⟩
  · simp at h2
    rw [amp, if_neg (by omega), if_pos h2]; rfl
  simp at h2
  refine ⟨[], _, l_along l [⟨a, b⟩, ⟨c, d⟩, ⟨a, c⟩, ⟨b, d⟩] hlen hgood (by simp), rfl, ?_⟩
  refine ⟨fun h3 => ?_, fun h3 => ?_⟩
  · simp at h3
    rw [amp, if_neg (by omega), if_neg (by simp [h2]), if_pos h3]; rfl
  simp at h3
  obtain ⟨e1, e2, e3⟩ := along27_0 hgood h3
  have ha : amp l a b c d = amp4 (gD l ⟨a, b⟩) (gD l ⟨c, d⟩) (gD l ⟨a, c⟩) (gD l ⟨b, d⟩) := by rw [amp, if_neg (by omega), if_neg (by simp [h2]), if_neg (by simp [h3])]
  have hA := e3 ⟨a, b⟩ (by simp)
  have hB := e3 ⟨c, d⟩ (by simp)
  have hC := e3 ⟨a, c⟩ (by simp)
  have hD := e3 ⟨b, d⟩ (by simp)
  have e1 : (along27 l [⟨a, b⟩, ⟨c, d⟩, ⟨a, c⟩, ⟨b, d⟩]).1 = [gD l ⟨a, b⟩, gD l ⟨c, d⟩, gD l ⟨a, c⟩, gD l ⟨b, d⟩] := e1
  generalize along27 l [⟨a, b⟩, ⟨c, d⟩, ⟨a, c⟩, ⟨b, d⟩] = al at e1
  generalize gD l ⟨a, b⟩ = A at ha hA e1
  generalize gD l ⟨c, d⟩ = B at ha hB e1
  generalize gD l ⟨a, c⟩ = C at ha hC e1
  generalize gD l ⟨b, d⟩ = D at ha hD e1
  rw [ha]
  have hl4 : al.1.length = 4 := by rw [e1]; rfl
  refine ⟨0, rfl, by omega, by decide, Enc.cs A, by rw [e1]; rfl, rfl, ?_⟩
  refine ⟨1, rfl, by omega, by decide, Enc.cs B, by rw [e1]; rfl, rfl, ?_⟩
  refine ⟨_, c_mul A B (ok_valid hA.1) (ok_valid hB.1), rfl, ?_⟩
  refine ⟨fun h4 => ?_, fun h4 => ?_⟩
  · simp at h4
    rw [amp4, if_pos h4]; rfl
  simp at h4
  refine ⟨2, rfl, by omega, by decide, Enc.cs C, by rw [e1]; rfl, rfl, ?_⟩
  refine ⟨3, rfl, by omega, by decide, Enc.cs D, by rw [e1]; rfl, rfl, ?_⟩
  refine ⟨_, c_mul C D (ok_valid hC.1) (ok_valid hD.1), rfl, ?_⟩
  refine ⟨fun h5 => ?_, fun h5 => ?_⟩
  · simp at h5
    rw [amp4, if_neg (by simp [h4]), if_pos h5]; rfl
  simp at h5
  have v1 := (mul_ok hA.1 hB.1 h4).2
  have v2 := (mul_ok hC.1 hD.1 h5).2
  refine ⟨[], _, c_div (mul A B).1 (mul C D).1 (ok_valid v1) (ok_valid v2), rfl, ?_⟩
  refine ⟨fun h6 => ?_, fun h6 => ?_⟩
  · simp at h6
    rw [amp4, if_neg (by simp [h4]), if_neg (by simp [h5]), if_pos h6]; rfl
  simp at h6
  refine ⟨[], _, c_norm (div (mul A B).1 (mul C D).1).1 (ok_valid (div_ok v1 v2 h6)), rfl, ?_⟩
  rw [amp4, if_neg (by simp [h4]), if_neg (by simp [h5]), if_neg (by simp [h6])]; rfl

theorem r_circle (c : List Int) (hc : c.length ≤ 1000000) : Ret Try.prog 46 [sl c] [] (.p (bl (decide (circle c)))) := by
  refine ret (fn := Try.f46) (by kernel_rfl) (by kernel_rfl) rfl ?_
  have bad : ¬ circle c → SV.p (bl false) = SV.p (bl (decide (circle c))) := fun h => by simp [h]
  refine ⟨fun h1 => ?_, fun h1 => ?_⟩
  · refine ⟨fun h2 => ?_, fun h2 => ?_⟩
    · refine ⟨[], _, r_apart27 c hc, rfl, ?_⟩
      simp at h1 h2
      have e : decide (apart c) = decide (circle c) := by
        rw [Bool.eq_iff_iff]
        simp only [decide_eq_true_eq]
        exact ⟨fun h => ⟨by omega, by omega, h⟩, fun h => h.2.2⟩
      show SV.p (bl (decide (apart c))) = SV.p (bl (decide (circle c)))
      rw [e]
    · simp at h2
      exact bad fun h => by unfold circle at h; omega
  · simp at h1
    exact bad fun h => by unfold circle at h; omega

theorem r_phase (l : List Vis) (c : List Int) (hc : c.length ≤ 1000000) : Ret Try.prog 23 [sl l, sl c] [] (resC (phase l c)) := by
  refine ret (fn := Try.f23) (by kernel_rfl) (by kernel_rfl) rfl ?_
  refine ⟨[], _, r_check27 l, rfl, ?_⟩
  refine ⟨fun h1 => ?_, fun h1 => ?_⟩
  · simp at h1
    refine ⟨[], _, r_check27 l, rfl, ?_⟩
    rw [phase, if_pos h1]; rfl
  simp at h1
  obtain ⟨hlen, hgood, _⟩ := ck27_0 h1
  refine ⟨[], _, r_circle c hc, rfl, ?_⟩
  refine ⟨fun h2 => ?_, fun h2 => ?_⟩
  · simp at h2
    rw [phase, if_neg (by omega), if_pos h2]; rfl
  simp at h2
  have hcl : c.length ≤ 8 := h2.2.1
  have hcl3 : 3 ≤ c.length := h2.1
  have hpl := pairs_length c
  have hpk : ∀ k, (hk : k < c.length) → (pairs c)[k]'(by omega) = ⟨c[k], c[(k + 1) % c.length]'(Nat.mod_lt _ (by omega))⟩ := fun k hk => by
    have hm : (k + 1) % c.length < c.length := Nat.mod_lt _ (by omega)
    simp [pairs, List.getD, hk, hm]
  have hph0 : ∀ e, (along27 l (pairs c)).2 = e → e ≠ 0 → resC (phase l c) = SV.tup [.p (cx c0), .p (i64 e)] := fun e he hne => by
    rw [phase, if_neg (by omega), if_neg (by simpa using h2), if_pos (by rw [he]; exact hne), he]
  refine ⟨Nat, { inv := fun k => k ≤ c.length ∧ (∀ s ∈ (pairs c).take k, (got s.a s.b l).isSome = true), slots := [(7, fun k => i64 k)], rows := [(6, 23, 3, fun k => k, fun k => flat (((pairs c).take k).map (gD l)))], mu := fun k => c.length - k }, 0, ⟨⟨rfl, trivial⟩, ⟨⟨rfl, rfl⟩, trivial⟩, (by repeat' first | exact trivial | rfl | apply And.intro), Nat.zero_le _, by simp⟩, ?_⟩
  intro k ⟨hk, hall⟩
  refine ⟨fun h3 => ?_, fun h3 => ?_⟩
  · simp at h3
    have hm : (k + 1) % c.length < c.length := Nat.mod_lt _ (by omega)
    have hmod : (IntKind.i64.wrap ((k : Int) + 1)).tmod (c.length : Int) = (((k + 1) % c.length : Nat) : Int) := by
      rw [succ_w (by omega)]
      exact Int.ofNat_tmod _ _
    have hkp : k < (pairs c).length := by omega
    have hs : (pairs c)[k] ∈ pairs c := List.getElem_mem hkp
    refine ⟨k, rfl, h3, by decide, _, idx h3, rfl, ?_⟩
    refine ⟨by show (c.length : Int) ≠ 0; omega, ?_⟩
    refine ⟨(k + 1) % c.length, hmod, hm, by decide, _, idx hm, rfl, ?_⟩
    refine ⟨_, r_got l c[k] c[(k + 1) % c.length] hlen hgood, rfl, ?_⟩
    have hpk' := hpk k h3
    refine ⟨fun h4 => ?_, fun h4 => ?_⟩
    · have h4 : (got c[k] c[(k + 1) % c.length] l).isSome = false := by simpa using h4
      refine (hph0 6 ?_ (by decide)).symm
      rw [along27, if_neg]
      rw [List.all_eq_true]
      intro h
      have := h _ hs
      rw [hpk', h4] at this
      cases this
    · have h4 : (got c[k] c[(k + 1) % c.length] l).isSome = true := by simpa using h4
      refine ⟨⟨by show k + 1 ≤ _; omega, by show (k + 1) * 24 ≤ _; omega⟩, ?_⟩
      refine ⟨k + 1, by show _ < _; simp; omega, ⟨rfl, rfl⟩, ⟨by show PV.v (.int _ _) = _; rw [succ_w (by omega)], trivial⟩, ⟨⟨rfl, ?_⟩, trivial⟩, (by repeat' first | exact trivial | rfl | apply And.intro), h3, ?_⟩
      · show _ ++ _ = flat _
        rw [List.take_succ_eq_append_getElem hkp, List.map_append, List.map_singleton, flat_snoc, hpk']; rfl
      · intro s hs
        rw [List.take_succ_eq_append_getElem hkp, List.mem_append] at hs
        rcases hs with hs | hs
        · exact hall s hs
        · simp at hs; subst hs; rw [hpk']; exact h4
  simp at h3
  have : k = c.length := by omega
  subst this
  have htk : (pairs c).take c.length = pairs c := List.take_of_length_le (by omega)
  have hall' : (pairs c).all (fun s => (got s.a s.b l).isSome) = true := by
    rw [htk] at hall
    rw [List.all_eq_true]; exact hall
  have hgv : ∀ s ∈ pairs c, (gD l s).valid := fun s hs => gD_valid hgood (List.all_eq_true.1 hall' s hs)
  have hcell : ∀ k, (hk : k < c.length) → ((flat (((pairs c).take c.length).map (gD l))).drop (k * 3)).take 3 = Enc.cs (gD l ((pairs c)[k]'(by omega))) := fun k hk => by
    have h2' : k < ((pairs c).map (gD l)).length := by simp; omega
    have e : ((pairs c).map (gD l))[k] = gD l ((pairs c)[k]'(by omega)) := by simp
    rw [htk, ← e]
    exact idx h2'
  refine ⟨Nat, { inv := fun k => k ≤ c.length ∧ (∀ s ∈ (pairs c).take k, ¬ (gD l s).zero), slots := [(10, fun k => i64 k)],  mu := fun k => c.length - k }, 0, ⟨⟨rfl, trivial⟩, trivial, (by repeat' first | exact trivial | rfl | apply And.intro), Nat.zero_le _, by simp⟩, ?_⟩
  intro k ⟨hk2, hz⟩
  refine ⟨fun h4 => ?_, fun h4 => ?_⟩
  · simp at h4
    have hkp : k < (pairs c).length := by omega
    refine ⟨k, rfl, h4, _, hcell k h4, rfl, ?_⟩
    refine ⟨[], _, r_zero (gD l (pairs c)[k]), rfl, ?_⟩
    refine ⟨fun h5 => ?_, fun h5 => ?_⟩
    · simp at h5
      refine (hph0 18 ?_ (by decide)).symm
      rw [along27, if_pos hall', if_pos]
      rw [List.any_eq_true]
      exact ⟨_, List.getElem_mem hkp, by simpa using h5⟩
    · simp at h5
      refine ⟨k + 1, by show _ < _; simp; omega, ⟨rfl, rfl⟩, ⟨by show PV.v (.int _ _) = _; rw [succ_w (by omega)], trivial⟩, trivial, (by repeat' first | exact trivial | rfl | apply And.intro), h4, ?_⟩
      intro s hs
      rw [List.take_succ_eq_append_getElem hkp, List.mem_append] at hs
      rcases hs with hs | hs
      · exact hz s hs
      · simp at hs; subst hs; exact h5
  simp at h4
  have : k = c.length := by omega
  subst this
  rw [htk] at hz
  have hal : along27 l (pairs c) = ((pairs c).map (gD l), 0) := by
    rw [along27, if_pos hall', if_neg]
    rw [List.any_eq_true]
    rintro ⟨s, hs, h⟩
    exact hz s hs (by simpa using h)
  have hph : phase l c = fold27 one ((pairs c).map (gD l)) := by
    rw [phase, if_neg (by omega), if_neg (by simpa using h2), hal, if_neg (by simp)]
  have hfr : ∀ k, (fold27 one (((pairs c).map (gD l)).take k)).2 = 0 ∧ (fold27 one (((pairs c).map (gD l)).take k)).1.valid ∧ ¬ (fold27 one (((pairs c).map (gD l)).take k)).1.zero ∨ fold27 one (((pairs c).map (gD l)).take k) = (c0, 16) := fun k =>
    fold27_ok (fun v hv => by
      have := List.mem_of_mem_take hv
      rw [List.mem_map] at this
      obtain ⟨s, hs, rfl⟩ := this
      exact ⟨hgv s hs, hz s hs⟩) one_valid one_nz
  refine ⟨[], _, r_one, rfl, ?_⟩
  refine ⟨Nat, { inv := fun k => k ≤ c.length ∧ (fold27 one (((pairs c).map (gD l)).take k)).2 = 0, slots := [(12, fun k => i64 k)], boxes := [(2, fun k => Enc.cs (fold27 one (((pairs c).map (gD l)).take k)).1)], mu := fun k => c.length - k }, 0, ⟨⟨rfl, trivial⟩, trivial, ?_, Nat.zero_le _, rfl⟩, ?_⟩
  · exact (by repeat' first | exact trivial | rfl | apply And.intro)
  intro k ⟨hk3, hz3⟩
  refine ⟨fun h6 => ?_, fun h6 => ?_⟩
  · simp at h6
    have hkp : k < (pairs c).length := by omega
    have hkm : k < ((pairs c).map (gD l)).length := by simp; omega
    refine ⟨k, rfl, h6, _, hcell k h6, rfl, ?_⟩
    have hv := hgv _ (List.getElem_mem hkp)
    have hvz := hz _ (List.getElem_mem hkp)
    have hr : (fold27 one (((pairs c).map (gD l)).take k)).1.valid ∧ ¬ (fold27 one (((pairs c).map (gD l)).take k)).1.zero := by
      rcases hfr k with h | h
      · exact h.2
      · rw [h] at hz3; simp at hz3
    have hsn := fold27_snoc (((pairs c).map (gD l)).take k) ((pairs c).map (gD l))[k] one
    rw [← List.take_succ_eq_append_getElem hkm, if_neg (by simp [hz3]), List.getElem_map] at hsn
    refine ⟨[], _, r_ray (gD l (pairs c)[k]), rfl, ?_⟩
    refine ⟨[], _, r_mul (fold27 one (((pairs c).map (gD l)).take k)).1 (ray (gD l (pairs c)[k])).1, rfl, ?_⟩
    rcases turned_err hr.1 hr.2 hv hvz with ⟨t1, t2, t3, t4, t5, _, _⟩ | ⟨t1, t2⟩
    · refine ⟨fun h7 => ?_, fun h7 => ?_⟩
      · rw [t1] at h7; simp at h7
      rw [if_neg (by simp [t3])] at hsn
      refine ⟨[], _, r_ray (mul (fold27 one (((pairs c).map (gD l)).take k)).1 (ray (gD l (pairs c)[k])).1).1, rfl, ?_⟩
      refine ⟨k + 1, by show _ < _; simp; omega, ⟨rfl, rfl⟩, ⟨by show PV.v (.int _ _) = _; rw [succ_w (by omega)], trivial⟩, trivial, ?_, h6, by rw [hsn]; exact t3⟩
      have hb : Enc.cs (fold27 one (((pairs c).map (gD l)).take (k + 1))).1 = Enc.cs (ray (mul (fold27 one (((pairs c).map (gD l)).take k)).1 (ray (gD l (pairs c)[k])).1).1).1 := by rw [hsn, t2]
      refine ⟨rfl, ⟨rfl, rfl⟩, ?_, trivial⟩
      show _ = mapP (Enc.cs (fold27 one (((pairs c).map (gD l)).take (k + 1))).1)
      rw [hb]; rfl
    · refine ⟨fun h7 => ?_, fun h7 => ?_⟩
      · rw [t2, if_pos (by simp)] at hsn
        show SV.tup [.p (cx c0), .p (i64 16)] = resC _
        rw [hph]
        have hb : fold27 one ((pairs c).map (gD l)) = fold27 one (((pairs c).map (gD l)).take (k + 1)) := by
          conv => lhs; rw [← List.take_append_drop (k + 1) ((pairs c).map (gD l))]
          exact fold27_bad _ _ (by rw [hsn]; simp)
        rw [hb, hsn]
      · rw [t1] at h7; simp at h7
  simp at h6
  have : k = c.length := by omega
  subst this
  have htm : ((pairs c).map (gD l)).take c.length = (pairs c).map (gD l) := List.take_of_length_le (by simp; omega)
  show SV.tup [.p (cx (fold27 one (((pairs c).map (gD l)).take c.length)).1), .p (i64 0)] = resC _
  rw [htm] at hz3 ⊢
  rw [hph]
  show SV.tup [_, _] = SV.tup [_, .p (i64 (fold27 one ((pairs c).map (gD l))).2)]
  rw [hz3]

end Go.Pv
