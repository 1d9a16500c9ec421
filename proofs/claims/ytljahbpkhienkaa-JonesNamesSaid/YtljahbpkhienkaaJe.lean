/- Contracts: tables of matrices, coherencies, acting, the reference's. -/
import Derived.Test.YtljahbpkhienkaaJd
namespace Go.Pv
open Go.Vc
open Go.Proofs
set_option maxRecDepth 10000
set_option maxHeartbeats 4000000

theorem jr_table (t : List Jn) : Ret Try.prog 20 [sl t] [] (.p (i64 (jtab t))) := by
  refine ret (fn := Try.f20) (by kernel_rfl) (by kernel_rfl) rfl ?_
  refine ⟨fun h1 => ?_, fun h1 => ?_⟩
  · have h1 : 8 < t.length := by simp at h1; omega
    rw [jtab, if_pos h1]; rfl
  have h1 : t.length ≤ 8 := by simp at h1; omega
  refine ⟨Nat, { inv := fun k => k ≤ t.length ∧ (∀ m ∈ t.take k, m.valid), slots := [(3, fun k => i64 k)],  mu := fun k => t.length - k }, 0, ⟨⟨rfl, trivial⟩, trivial, (by repeat' first | exact trivial | rfl | apply And.intro), Nat.zero_le _, (fun p hp => by simp at hp)⟩, ?_⟩
  intro k ⟨hk, hall⟩
  refine ⟨fun h2 => ?_, fun h2 => ?_⟩
  · simp at h2
    refine ⟨k, rfl, h2, by decide, _, idx h2, rfl, ?_⟩
    refine ⟨[], _, jr_valid t[k], rfl, ?_⟩
    refine ⟨fun h3 => ?_, fun h3 => ?_⟩
    · have h3 : ¬ t[k].valid := by simpa using h3
      rw [jtab, if_neg (by omega), if_pos (.inr fun h => h3 (h _ (List.getElem_mem h2)))]; rfl
    have h3 : t[k].valid := by simpa using h3
    refine ⟨k + 1, by show _ < _; simp; omega, ⟨rfl, rfl⟩, ⟨by show PV.v (.int _ _) = _; rw [succ_w (by omega)], trivial⟩, trivial, (by repeat' first | exact trivial | rfl | apply And.intro), h2, fun m hm => ?_⟩
    rw [List.take_succ_eq_append_getElem h2] at hm
    rcases List.mem_append.1 hm with hm | hm
    · exact hall m hm
    · rw [List.mem_singleton] at hm; subst hm; exact h3
  simp at h2
  have hk2 : k = t.length := by omega
  subst hk2
  rw [List.take_length] at hall
  clear h2 hk
  refine ⟨fun h3 => ?_, fun h3 => ?_⟩
  · have h3 : t.length = 0 := by simp at h3; simp [h3]
    rw [jtab, if_neg (by omega), if_pos (.inl h3)]; rfl
  have h3 : t.length ≠ 0 := by simp at h3; simp [h3]
  have ej : jtab t = rerr t t.length := by rw [jtab, if_neg (by omega), if_neg (by rintro (h | h); exact h3 h; exact h hall)]
  refine ⟨Nat, { inv := fun k => k ≤ t.length ∧ (rerr t k = 0), slots := [(4, fun k => i64 k)],  mu := fun k => t.length - k }, 0, ⟨⟨rfl, trivial⟩, trivial, (by repeat' first | exact trivial | rfl | apply And.intro), Nat.zero_le _, rfl⟩, ?_⟩
  intro k ⟨hk, hz⟩
  refine ⟨fun h4 => ?_, fun h4 => ?_⟩
  · simp at h4
    have eg : t.getD k j0 = t[k] := by simp [h4]
    have bad : (jreg t[k]).2 ≠ 0 → jtab t = (jreg t[k]).2 := fun h5 => by
      have := err1_bad (f := fun k => (jreg (t.getD k j0)).2) hz (by simpa only [eg] using h5) h4
      rw [ej]
      unfold rerr
      simpa only [eg] using this
    refine ⟨k, rfl, h4, by decide, _, idx h4, rfl, ?_⟩
    refine ⟨[], _, jr_det t[k], rfl, ?_⟩
    refine ⟨fun h5 => ?_, fun h5 => ?_⟩
    · have h5 : (jdet t[k]).2 ≠ 0 := by simpa using h5
      have e : jreg t[k] = (c0, (jdet t[k]).2) := by rw [jreg, if_pos h5]
      rw [bad (by rw [e]; exact h5), e]; rfl
    have h5 : (jdet t[k]).2 = 0 := by simpa using h5
    refine ⟨[], _, r_zero (jdet t[k]).1, rfl, ?_⟩
    refine ⟨fun h6 => ?_, fun h6 => ?_⟩
    · have h6 : (jdet t[k]).1.zero := by simpa using h6
      have e : jreg t[k] = (c0, 18) := by rw [jreg, if_neg (by simp [h5]), if_pos h6]
      rw [bad (by rw [e]; simp), e]; rfl
    have h6 : ¬ (jdet t[k]).1.zero := by simpa using h6
    have e : jreg t[k] = ((jdet t[k]).1, 0) := by rw [jreg, if_neg (by simp [h5]), if_neg h6]
    refine ⟨k + 1, by show _ < _; simp; omega, ⟨rfl, rfl⟩, ⟨by show PV.v (.int _ _) = _; rw [succ_w (by omega)], trivial⟩, trivial, (by repeat' first | exact trivial | rfl | apply And.intro), h4, err1_step hz (by simp only [eg, e])⟩
  · simp at h4
    have : k = t.length := by omega
    subst this
    rw [ej, hz]; rfl

theorem jr_seen (p : Pol) (n : Int) : Ret Try.prog 50 [.agg (Enc.cs p), i64 n] [] (.p (bl (decide (p.good n)))) := by
  refine ret (fn := Try.f50) (by kernel_rfl) (by kernel_rfl) rfl ?_
  have bad : ¬ p.good n → SV.p (bl false) = SV.p (bl (decide (p.good n))) := fun h => by rw [decide_eq_false h]
  refine ⟨fun h1 => ?_, fun h1 => ?_⟩
  focus
    refine ⟨fun h2 => ?_, fun h2 => ?_⟩
    focus
      refine ⟨fun h3 => ?_, fun h3 => ?_⟩
      focus
        refine ⟨fun h4 => ?_, fun h4 => ?_⟩
        focus
          refine ⟨[], _, jr_valid p.v, rfl, ?_⟩
          simp at h1 h2 h3 h4
          show SV.p (bl (decide p.v.valid)) = _
          congr 3
          exact propext ⟨fun h => ⟨h1, h2, h3, h4, h⟩, fun h => h.2.2.2.2⟩
        · exact bad fun h => by have := h.2.2.2.1; simp at h4; omega
      · exact bad fun h => by have := h.2.2.1; simp at h3; omega
    · exact bad fun h => by have := h.2.1; simp at h2; omega
  · exact bad fun h => by have := h.1; simp at h1; omega

theorem jr_all (l : List Pol) (n : Int) : Ret Try.prog 21 [sl l, i64 n] [] (.p (i64 (jall l n))) := by
  refine ret (fn := Try.f21) (by kernel_rfl) (by kernel_rfl) rfl ?_
  refine ⟨fun h1 => ?_, fun h1 => ?_⟩
  · have h1 : 64 < l.length := by simp at h1; omega
    rw [jall, if_pos h1]; rfl
  have h1 : l.length ≤ 64 := by simp at h1; omega
  refine ⟨Nat, { inv := fun k => k ≤ l.length ∧ (∀ p ∈ l.take k, p.good n), slots := [(5, fun k => i64 k)],  mu := fun k => l.length - k }, 0, ⟨⟨rfl, trivial⟩, trivial, (by repeat' first | exact trivial | rfl | apply And.intro), Nat.zero_le _, (fun p hp => by simp at hp)⟩, ?_⟩
  intro k ⟨hk, hall⟩
  refine ⟨fun h2 => ?_, fun h2 => ?_⟩
  · simp at h2
    refine ⟨k, rfl, h2, by decide, _, idx h2, rfl, ?_⟩
    refine ⟨[], _, jr_seen l[k] n, rfl, ?_⟩
    refine ⟨fun h3 => ?_, fun h3 => ?_⟩
    · have h3 : ¬ l[k].good n := by simpa using h3
      rw [jall_8 h1 h2 h3]; rfl
    have h3 : l[k].good n := by simpa using h3
    refine ⟨k + 1, by show _ < _; simp; omega, ⟨rfl, rfl⟩, ⟨by show PV.v (.int _ _) = _; rw [succ_w (by omega)], trivial⟩, trivial, (by repeat' first | exact trivial | rfl | apply And.intro), h2, fun p hp => ?_⟩
    rw [List.take_succ_eq_append_getElem h2] at hp
    rcases List.mem_append.1 hp with hp | hp
    · exact hall p hp
    · rw [List.mem_singleton] at hp; subst hp; exact h3
  · simp at h2
    have : k = l.length := by omega
    subst this
    rw [List.take_length] at hall
    rw [jall, if_neg (by omega), if_pos hall]; rfl

theorem eqPL_pol (a b : Pol) : eqPL (Enc.cs a) (Enc.cs b) = decide (a = b) := by
  obtain ⟨a0, a00, ⟨⟨a1, a2, a3⟩, ⟨a4, a5, a6⟩, ⟨a7, a8, a9⟩, ⟨a10, a11, a12⟩⟩, a13⟩ := a
  obtain ⟨b0, b00, ⟨⟨b1, b2, b3⟩, ⟨b4, b5, b6⟩, ⟨b7, b8, b9⟩, ⟨b10, b11, b12⟩⟩, b13⟩ := b
  rw [Bool.eq_iff_iff]
  simp [Enc.cs, eqPL, eqP]
  omega

theorem jr_same (xs ys : List Pol) (hn : xs.length ≤ 1000000) : Ret Try.prog 23 [sl xs, sl ys] [] (.p (bl (decide (xs = ys)))) := by
  refine ret (fn := Try.f23) (by kernel_rfl) (by kernel_rfl) rfl ?_
  refine ⟨fun h1 => ?_, fun h1 => ?_⟩
  · show SV.p (bl _) = _
    simp at h1
    have : xs ≠ ys := by rintro rfl; exact h1 rfl
    simp [this]
  · simp at h1
    refine ⟨Nat, { inv := fun k => k ≤ xs.length ∧ xs.take k = ys.take k, slots := [(5, fun k => i64 k)], mu := fun k => xs.length - k }, 0, ⟨⟨rfl, trivial⟩, trivial, trivial, Nat.zero_le _, by simp⟩, ?_⟩
    intro k ⟨hk, hall⟩
    refine ⟨fun h2 => ?_, fun h2 => ?_⟩
    · simp at h2
      have h2' : k < ys.length := by omega
      refine ⟨k, rfl, h2, by decide, _, idx h2, rfl, ?_⟩
      refine ⟨k, rfl, h2', by decide, _, idx h2', rfl, ?_⟩
      have e := eqPL_pol xs[k] ys[k]
      refine ⟨fun h3 => ?_, fun h3 => ?_⟩
      · show SV.p (bl _) = _
        have h3 : (!eqPL (Enc.cs xs[k]) (Enc.cs ys[k])) = true := h3
        rw [e] at h3
        simp at h3
        have : xs ≠ ys := by rintro rfl; exact h3 rfl
        simp [this]
      · have h3 : (!eqPL (Enc.cs xs[k]) (Enc.cs ys[k])) = false := h3
        rw [e] at h3
        simp at h3
        refine ⟨k + 1, by show _ < _; simp; omega, ⟨rfl, rfl⟩, ⟨?_, trivial⟩, trivial, trivial, h2, ?_⟩
        · show PV.v (.int _ _) = _
          rw [succ_w (by omega)]
        · rw [List.take_succ_eq_append_getElem h2, List.take_succ_eq_append_getElem h2', hall, h3]
    · simp at h2
      have e1 : k = xs.length := by omega
      have e2 : k = ys.length := by omega
      rw [e1, List.take_length, ← e1, e2, List.take_length] at hall
      show SV.p (bl _) = _
      simp [hall]


theorem jr_act (t : List Jn) (l : List Pol) : Ret Try.prog 28 [sl t, sl l] [] (resP (jact t l)) := by
  refine ret (fn := Try.f28) (by kernel_rfl) (by kernel_rfl) rfl ?_
  refine ⟨[], _, jr_table t, rfl, ?_⟩
  refine ⟨fun h1 => ?_, fun h1 => ?_⟩
  · have h1 : jtab t ≠ 0 := by simpa using h1
    refine ⟨[], _, jr_table t, rfl, ?_⟩
    rw [jact, if_pos h1]; rfl
  have h1 : jtab t = 0 := by simpa using h1
  refine ⟨[], _, jr_all l t.length, rfl, ?_⟩
  refine ⟨fun h2 => ?_, fun h2 => ?_⟩
  · have h2 : jall l t.length ≠ 0 := by simpa using h2
    refine ⟨[], _, jr_all l t.length, rfl, ?_⟩
    rw [jact, if_neg (by simp [h1]), if_pos h2]; rfl
  have h2 : jall l t.length = 0 := by simpa using h2
  obtain ⟨t1, t2, t3, t4⟩ := jtab_0 h1
  obtain ⟨l1, l2⟩ := jall_0 h2
  have bad : ∀ k, (hk : k < l.length) → (jact1 t l[k]).2 ≠ 0 → SV.tup [.p (.sl false 0 []), .p (i64 16)] = resP (jact t l) := fun k hk h => by
    rw [jact, if_neg (by simp [h1]), if_neg (by simp [h2]), if_neg (fun h' => h (h' _ (List.getElem_mem hk)))]; rfl
  refine ⟨Nat, { inv := fun k => k ≤ l.length ∧ (∀ p ∈ l.take k, (jact1 t p).2 = 0), slots := [(7, fun k => i64 k)], rows := [(6, 57, 15, fun k => k, fun k => flat ((l.take k).map fun p => p.set (jact1 t p).1))], mu := fun k => l.length - k }, 0, ⟨⟨rfl, trivial⟩, ⟨⟨rfl, rfl⟩, trivial⟩, (by repeat' first | exact trivial | rfl | apply And.intro), Nat.zero_le _, by simp⟩, ?_⟩
  intro k ⟨hk, hall⟩
  refine ⟨fun h3 => ?_, fun h3 => ?_⟩
  · simp at h3
    have hgd := l2 l[k] (List.getElem_mem h3)
    unfold Pol.good at hgd
    obtain ⟨a, ha⟩ : ∃ a : Nat, l[k].i = a := ⟨l[k].i.toNat, by omega⟩
    obtain ⟨b, hb⟩ : ∃ b : Nat, l[k].j = b := ⟨l[k].j.toNat, by omega⟩
    have hla : a < t.length := by omega
    have hlb : b < t.length := by omega
    have ea : jg t l[k].i = t[a] := by rw [ha, jg_get hla]
    have eb : jg t l[k].j = t[b] := by rw [hb, jg_get hlb]
    have va := t3 _ (List.getElem_mem hla)
    have vb := t3 _ (List.getElem_mem hlb)
    have vv := hgd.2.2.2.2
    have ad : (jadj t[b]).1 = ⟨conj t[b].a, conj t[b].c, conj t[b].b, conj t[b].d⟩ := by rw [jadj, if_pos vb]
    refine ⟨k, rfl, h3, by decide, _, idx h3, rfl, ?_⟩
    refine ⟨a, ha, hla, by decide, _, idx hla, rfl, ?_⟩
    refine ⟨k, rfl, h3, by decide, _, idx h3, rfl, ?_⟩
    refine ⟨_, jr_mul t[a] l[k].v, rfl, ?_⟩
    refine ⟨fun h4 => ?_, fun h4 => ?_⟩
    · have h4 : (jmul t[a] l[k].v).2 ≠ 0 := by simpa using h4
      exact bad k h3 (by rw [jact1, ea, if_pos h4]; simp)
    have h4 : (jmul t[a] l[k].v).2 = 0 := by simpa using h4
    refine ⟨_, rfl, rfl, ?_⟩
    refine ⟨k, rfl, h3, by decide, _, idx h3, rfl, ?_⟩
    refine ⟨b, hb, hlb, by decide, _, idx hlb, rfl, ?_⟩
    refine ⟨.p (jn (jadj t[b]).1), (by have := jr_adj1 t[b] vb; rw [← ad] at this; exact this), rfl, ?_⟩
    refine ⟨_, jr_mul (jmul t[a] l[k].v).1 (jadj t[b]).1, rfl, ?_⟩
    refine ⟨Nat.le_refl _, ?_⟩
    refine ⟨fun h5 => ?_, fun h5 => ?_⟩
    · have h5 : (jmul (jmul t[a] l[k].v).1 (jadj t[b]).1).2 ≠ 0 := by simpa using h5
      exact bad k h3 (by rw [jact1, ea, eb, if_neg (by simp [h4]), if_pos h5]; simp)
    have h5 : (jmul (jmul t[a] l[k].v).1 (jadj t[b]).1).2 = 0 := by simpa using h5
    have e : jact1 t l[k] = jmul (jmul t[a] l[k].v).1 (jadj t[b]).1 := by rw [jact1, ea, eb, if_neg (by simp [h4]), if_neg (by simp [h5])]
    refine ⟨k, rfl, h3, by decide, _, idx h3, rfl, ?_⟩
    refine ⟨k, rfl, h3, by decide, _, idx h3, rfl, ?_⟩
    refine ⟨_, rfl, rfl, ?_⟩
    refine ⟨k, rfl, h3, by decide, _, idx h3, rfl, ?_⟩
    refine ⟨⟨by show k + 1 ≤ _; omega, by show (k + 1) * 120 ≤ _; omega⟩, ?_⟩
    refine ⟨k + 1, by show _ < _; simp; omega, ⟨rfl, rfl⟩, ⟨by show PV.v (.int _ _) = _; rw [succ_w (by omega)], trivial⟩, ⟨⟨rfl, ?_⟩, trivial⟩, (by repeat' first | exact trivial | rfl | apply And.intro), h3, ?_⟩
    · show _ ++ _ = flat _
      rw [List.take_succ_eq_append_getElem h3, List.map_append, List.map_singleton, flat_snoc, e]; rfl
    · intro p hp
      rw [List.take_succ_eq_append_getElem h3] at hp
      rcases List.mem_append.1 hp with hp | hp
      · exact hall p hp
      · rw [List.mem_singleton] at hp
        subst hp
        rw [e]; exact h5
  · simp at h3
    have : k = l.length := by omega
    subst this
    rw [List.take_length] at hall
    rw [jact, if_neg (by simp [h1]), if_neg (by simp [h2]), if_pos hall]
    show SV.tup [.p (.sl false l.length (flat ((l.take l.length).map _))), .p (i64 0)] = _
    rw [List.take_length]; simp
end Go.Pv
