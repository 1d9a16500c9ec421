/- Contracts: tables of matrices, coherencies, acting. -/
import Derived.Test.YtljahbpkhienkaaJc
import Derived.Test.YtljahbpkhienkaaPlCxm
namespace Go.Pv
open Go.Vc
open Go.Proofs
set_option maxRecDepth 10000
set_option maxHeartbeats 4000000

theorem jmul_err {a b : Jn} (va : a.valid) (vb : b.valid) : (jmul a b).2 = 0 ∨ jmul a b = (j0, 16) := by
  rw [jmul, if_pos ⟨va, vb⟩]
  unfold seq4
  rcases jent_err va vb 0 with h0 | h0
  · rw [if_neg (by simp [h0])]
    rcases jent_err va vb 1 with h1 | h1
    · rw [if_neg (by simp [h1])]
      rcases jent_err va vb 2 with h2 | h2
      · rw [if_neg (by simp [h2])]
        rcases jent_err va vb 3 with h3 | h3
        · rw [if_neg (by simp [h3])]; exact .inl rfl
        · rw [if_pos (by simp [h3]), h3]; exact .inr rfl
      · rw [if_pos (by simp [h2]), h2]; exact .inr rfl
    · rw [if_pos (by simp [h1]), h1]; exact .inr rfl
  · rw [if_pos (by simp [h0]), h0]; exact .inr rfl

theorem j_check (t : List Jn) (ht : ∀ m ∈ t, Enc.ok m) : Ret Try.prog 51 [sl t] [] (.p (i64 (jtab t))) := by
  refine ret (fn := Try.f51) (by kernel_rfl) (by kernel_rfl) rfl ?_
  refine ⟨fun h1 => ?_, fun h1 => ?_⟩
  · have h1 : 8 < t.length := by simp at h1; omega
    rw [jtab, if_pos h1]; rfl
  have h1 : t.length ≤ 8 := by simp at h1; omega
  refine ⟨fun h2 => ?_, fun h2 => ?_⟩
  rotate_left
  · have h2 : t.length = 0 := by simp at h2; simp [h2]
    rw [jtab, if_neg (by omega), if_pos (.inl h2)]; rfl
  have h2 : t.length ≠ 0 := by simp at h2; simp [h2]
  refine ⟨[], _, j_valid t (by omega) ht, rfl, ?_⟩
  refine ⟨fun h3 => ?_, fun h3 => ?_⟩
  · have h3 : ¬ ∀ m ∈ t, m.valid := by simpa using h3
    rw [jtab, if_neg (by omega), if_pos (.inr h3)]; rfl
  have h3 : ∀ m ∈ t, m.valid := by simpa using h3
  have ej : jtab t = rerr t t.length := by rw [jtab, if_neg (by omega), if_neg (by rintro (h | h); exact h2 h; exact h h3)]
  refine ⟨Nat, { inv := fun k => k ≤ t.length ∧ (rerr t k = 0), slots := [(20, fun k => i64 k)],  mu := fun k => t.length - k }, 0, ⟨⟨rfl, trivial⟩, trivial, (by repeat' first | exact trivial | rfl | apply And.intro), Nat.zero_le _, rfl⟩, ?_⟩
  intro k ⟨hk, hz⟩
  refine ⟨fun h4 => ?_, fun h4 => ?_⟩
  · simp at h4
    have eg : t.getD k j0 = t[k] := by simp [h4]
    refine ⟨k, rfl, h4, by decide, _, idx h4, rfl, ?_⟩
    refine ⟨Nat.le_refl _, ?_⟩
    refine ⟨_, rfl, rfl, ?_⟩
    refine ⟨[], _, j_reg t[k] (ht _ (List.getElem_mem h4)), rfl, ?_⟩
    refine ⟨fun h5 => ?_, fun h5 => ?_⟩
    · have h5 : (jreg t[k]).2 ≠ 0 := by simpa using h5
      have : rerr t t.length = (jreg t[k]).2 := by
        have := err1_bad (f := fun k => (jreg (t.getD k j0)).2) hz (by simpa only [eg] using h5) h4
        unfold rerr
        simpa only [eg] using this
      rw [ej, this]; rfl
    · have h5 : (jreg t[k]).2 = 0 := by simpa using h5
      refine ⟨k + 1, by show _ < _; simp; omega, ⟨rfl, rfl⟩, ⟨by show PV.v (.int _ _) = _; rw [succ_w (by omega)], trivial⟩, trivial, (by repeat' first | exact trivial | rfl | apply And.intro), h4, err1_step hz (by simpa only [eg] using h5)⟩
  · simp at h4
    have : k = t.length := by omega
    subst this
    rw [ej, hz]; rfl

theorem j_coh (l : List Pol) (n : Int) (hl : ∀ p ∈ l, Enc.ok p) : Ret Try.prog 52 [sl l, i64 n] [] (.p (i64 (jall l n))) := by
  refine ret (fn := Try.f52) (by kernel_rfl) (by kernel_rfl) rfl ?_
  refine ⟨fun h1 => ?_, fun h1 => ?_⟩
  · have h1 : 64 < l.length := by simp at h1; omega
    rw [jall, if_pos h1]; rfl
  have h1 : l.length ≤ 64 := by simp at h1; omega
  refine ⟨Nat, { inv := fun k => k ≤ l.length ∧ (∀ p ∈ l.take k, p.good n), slots := [(12, fun k => i64 k)],  mu := fun k => l.length - k }, 0, ⟨⟨rfl, trivial⟩, trivial, (by repeat' first | exact trivial | rfl | apply And.intro), Nat.zero_le _, (fun p hp => by simp at hp)⟩, ?_⟩
  intro k ⟨hk, hall⟩
  refine ⟨fun h2 => ?_, fun h2 => ?_⟩
  · simp at h2
    have bad : ¬ l[k].good n → SV.p (i64 8) = SV.p (i64 (jall l n)) := fun h => by rw [jall_8 h1 h2 h]
    refine ⟨k, rfl, h2, by decide, _, idx h2, rfl, ?_⟩
    refine ⟨fun h3 => ?_, fun h3 => ?_⟩
    rotate_left
    · exact bad fun h => by have := h.1; simp at h3; omega
    refine ⟨fun h4 => ?_, fun h4 => ?_⟩
    rotate_left
    · exact bad fun h => by have := h.2.1; simp at h4; omega
    refine ⟨fun h5 => ?_, fun h5 => ?_⟩
    rotate_left
    · exact bad fun h => by have := h.2.2.1; simp at h5; omega
    refine ⟨fun h6 => ?_, fun h6 => ?_⟩
    rotate_left
    · exact bad fun h => by have := h.2.2.2.1; simp at h6; omega
    refine ⟨[], _, j_valid [l[k].v] (by simp) (by intro m hm; rw [List.mem_singleton] at hm; subst hm; exact (hl _ (List.getElem_mem h2)).2.2.1), rfl, ?_⟩
    refine ⟨fun h7 => ?_, fun h7 => ?_⟩
    · exact bad fun h => by have := h.2.2.2.2; simp at h7; exact h7 this
    simp at h3 h4 h5 h6 h7
    refine ⟨k + 1, by show _ < _; simp; omega, ⟨rfl, rfl⟩, ⟨by show PV.v (.int _ _) = _; rw [succ_w (by omega)], trivial⟩, trivial, (by repeat' first | exact trivial | rfl | apply And.intro), h2, fun p hp => ?_⟩
    rw [List.take_succ_eq_append_getElem h2] at hp
    rcases List.mem_append.1 hp with hp | hp
    · exact hall p hp
    · rw [List.mem_singleton] at hp
      subst hp
      exact ⟨h3, h4, h5, h6, h7⟩
  · simp at h2
    have : k = l.length := by omega
    subst this
    rw [List.take_length] at hall
    rw [jall, if_neg (by omega), if_pos hall]; rfl

theorem j_act (t : List Jn) (l : List Pol) (ht : ∀ m ∈ t, Enc.ok m) (hl : ∀ p ∈ l, Enc.ok p) : Ret Try.prog 22 [sl t, sl l] [] (resP (jact t l)) := by
  refine ret (fn := Try.f22) (by kernel_rfl) (by kernel_rfl) rfl ?_
  refine ⟨[], _, j_check t ht, rfl, ?_⟩
  refine ⟨fun h1 => ?_, fun h1 => ?_⟩
  · have h1 : jtab t ≠ 0 := by simpa using h1
    rw [jact, if_pos h1]; rfl
  have h1 : jtab t = 0 := by simpa using h1
  refine ⟨[], _, j_coh l t.length hl, rfl, ?_⟩
  refine ⟨fun h2 => ?_, fun h2 => ?_⟩
  · have h2 : jall l t.length ≠ 0 := by simpa using h2
    rw [jact, if_neg (by simp [h1]), if_pos h2]; rfl
  have h2 : jall l t.length = 0 := by simpa using h2
  obtain ⟨t1, t2, t3, t4⟩ := jtab_0 h1
  obtain ⟨l1, l2⟩ := jall_0 h2
  have bad : ∀ k, (hk : k < l.length) → (jact1 t l[k]).2 ≠ 0 → SV.tup [.p (.sl false 0 []), .p (i64 16)] = resP (jact t l) := fun k hk h => by
    rw [jact, if_neg (by simp [h1]), if_neg (by simp [h2]), if_neg (fun h' => h (h' _ (List.getElem_mem hk)))]; rfl
  refine ⟨0, l.length, rfl, rfl, Nat.zero_le _, ⟨by show l.length + 0 ≤ _; omega, by show (l.length + 0) * 120 ≤ _; omega⟩, ?_⟩
  refine ⟨Nat, { inv := fun k => k ≤ l.length ∧ (∀ p ∈ l.take k, (jact1 t p).2 = 0), slots := [(32, fun k => i64 k)], rows := [(8, 57, 15, fun k => k, fun k => flat ((l.take k).map fun p => p.set (jact1 t p).1))], mu := fun k => l.length - k }, 0, ⟨⟨rfl, trivial⟩, ⟨⟨rfl, rfl⟩, trivial⟩, (by repeat' first | exact trivial | rfl | apply And.intro), Nat.zero_le _, by simp⟩, ?_⟩
  intro k ⟨hk, hall⟩
  refine ⟨fun h3 => ?_, fun h3 => ?_⟩
  · simp at h3
    have hgd := l2 l[k] (List.getElem_mem h3)
    unfold Pol.good at hgd
    obtain ⟨a, ha⟩ : ∃ a : Nat, l[k].i = a := ⟨l[k].i.toNat, by omega⟩
    obtain ⟨b, hb⟩ : ∃ b : Nat, l[k].j = b := ⟨l[k].j.toNat, by omega⟩
    have hla : a < t.length := by omega
    have hlb : b < t.length := by omega
    have ea : jg t l[k].i = t[a] := by rw [ha, jg_get hla]
    have eb : jg t l[k].j = t[b] := by rw [hb, jg_get hlb]
    have va := t3 _ (List.getElem_mem hla)
    have vb := t3 _ (List.getElem_mem hlb)
    have vv := hgd.2.2.2.2
    have ad : jadj t[b] = ((jadj t[b]).1, 0) := by rw [jadj, if_pos vb]
    obtain ⟨_, vj, _⟩ := jadj_v vb
    refine ⟨k, rfl, h3, by decide, _, idx h3, rfl, ?_⟩
    refine ⟨a, ha, hla, by decide, _, idx hla, rfl, ?_⟩
    refine ⟨_, j_mul t[a] l[k].v (jn_ok va) (jn_ok vv), rfl, ?_⟩
    refine ⟨fun h4 => ?_, fun h4 => ?_⟩
    · have h4 : (jmul t[a] l[k].v).2 ≠ 0 := by simpa using h4
      have h16 := (jmul_err va vv).resolve_left h4
      refine Eq.trans ?_ (bad k h3 (by rw [jact1, ea, if_pos h4]; simp))
      show SV.tup [_, .p (i64 (jmul t[a] l[k].v).2)] = _
      rw [h16]
    have h4 : (jmul t[a] l[k].v).2 = 0 := by simpa using h4
    obtain ⟨_, _, vm, _⟩ := jmul_v h4
    refine ⟨b, hb, hlb, by decide, _, idx hlb, rfl, ?_⟩
    refine ⟨[], resJ ((jadj t[b]).1, 0), (by have := j_adj t[b] (jn_ok vb); rw [ad] at this; exact this), rfl, ?_⟩
    refine ⟨Nat.le_refl _, ?_⟩
    refine ⟨fun h => absurd h (by first | decide | simp), fun _ => ?_⟩
    refine ⟨_, rfl, rfl, ?_⟩
    refine ⟨_, rfl, rfl, ?_⟩
    refine ⟨[], _, j_mul (jmul t[a] l[k].v).1 (jadj t[b]).1 (jn_ok vm) (jn_ok vj), rfl, ?_⟩
    refine ⟨Nat.le_refl _, ?_⟩
    refine ⟨fun h5 => ?_, fun h5 => ?_⟩
    · have h5 : (jmul (jmul t[a] l[k].v).1 (jadj t[b]).1).2 ≠ 0 := by simpa using h5
      have h16 := (jmul_err vm vj).resolve_left h5
      refine Eq.trans ?_ (bad k h3 (by rw [jact1, ea, eb, if_neg (by simp [h4]), if_pos h5]; simp))
      show SV.tup [_, .p (i64 (jmul (jmul t[a] l[k].v).1 (jadj t[b]).1).2)] = _
      rw [h16]
    have h5 : (jmul (jmul t[a] l[k].v).1 (jadj t[b]).1).2 = 0 := by simpa using h5
    have e : jact1 t l[k] = jmul (jmul t[a] l[k].v).1 (jadj t[b]).1 := by rw [jact1, ea, eb, if_neg (by simp [h4]), if_neg (by simp [h5])]
    refine ⟨_, rfl, rfl, ?_⟩
    refine ⟨⟨by show k + 1 ≤ _; omega, by show (k + 1) * 120 ≤ _; omega⟩, ?_⟩
    refine ⟨k + 1, by show _ < _; simp; omega, ⟨rfl, rfl⟩, ⟨by show PV.v (.int _ _) = _; rw [succ_w (by omega)], trivial⟩, ⟨⟨rfl, ?_⟩, trivial⟩, (by repeat' first | exact trivial | rfl | apply And.intro), h3, ?_⟩
    · show _ ++ _ = flat _
      rw [List.take_succ_eq_append_getElem h3, List.map_append, List.map_singleton, flat_snoc, e]; rfl
    · intro p hp
      rw [List.take_succ_eq_append_getElem h3] at hp
      rcases List.mem_append.1 hp with hp | hp
      · exact hall p hp
      · rw [List.mem_singleton] at hp
        subst hp
        rw [e]; exact h5
  · simp at h3
    have : k = l.length := by omega
    subst this
    rw [List.take_length] at hall
    rw [jact, if_neg (by simp [h1]), if_neg (by simp [h2]), if_pos hall]
    show SV.tup [.p (.sl false l.length (flat ((l.take l.length).map _))), .p (i64 0)] = _
    rw [List.take_length]; simp
end Go.Pv
