/- Contracts of the reference for gains. -/
import Derived.Test.YtilmadidjihfkaaGc
namespace Go.Pv
open Go.Vc
open Go.Proofs
set_option maxRecDepth 10000

theorem eqPL_vis (a b : Vis) : eqPL (Enc.cs a) (Enc.cs b) = decide (a = b) := by
  cases a with | mk i j v n => cases b with | mk i' j' v' n' => cases v; cases v'; rw [Bool.eq_iff_iff]; simp [Enc.cs, eqPL, eqP, and_assoc]

theorem r_same26 (xs ys : List Vis) (hn : xs.length ≤ 1000000) : Ret Try.prog 45 [sl xs, sl ys] [] (.p (bl (decide (xs = ys)))) := by
  refine ret (fn := Try.f45) (by kernel_rfl) (by kernel_rfl) rfl ?_
  refine ⟨fun h1 => ?_, fun h1 => ?_⟩
  · show SV.p (bl _) = _
    simp at h1
    have : xs ≠ ys := by rintro rfl; exact h1 rfl
    simp [this]
  · simp at h1
    refine ⟨Nat, { inv := fun k => k ≤ xs.length ∧ xs.take k = ys.take k, slots := [(5, fun k => i64 k)], mu := fun k => xs.length - k }, 0, ⟨⟨rfl, trivial⟩, trivial, trivial, Nat.zero_le _, by simp⟩, ?_⟩
    intro k ⟨hk, hall⟩
    refine ⟨fun h2 => ?_, fun h2 => ?_⟩
    · simp at h2
      have h2' : k < ys.length := by omega
      refine ⟨k, rfl, h2, by decide, _, idx h2, rfl, ?_⟩
      refine ⟨k, rfl, h2', by decide, _, idx h2', rfl, ?_⟩
      have e := eqPL_vis xs[k] ys[k]
      refine ⟨fun h3 => ?_, fun h3 => ?_⟩
      · show SV.p (bl _) = _
        have h3 : (!eqPL (Enc.cs xs[k]) (Enc.cs ys[k])) = true := h3
        rw [e] at h3
        simp at h3
        have : xs ≠ ys := by rintro rfl; exact h3 rfl
        simp [this]
      · have h3 : (!eqPL (Enc.cs xs[k]) (Enc.cs ys[k])) = false := h3
        rw [e] at h3
        simp at h3
        refine ⟨k + 1, by show _ < _; simp; omega, ⟨rfl, rfl⟩, ⟨?_, trivial⟩, trivial, trivial, h2, ?_⟩
        · show PV.v (.int _ _) = _
          rw [succ_w (by omega)]
        · rw [List.take_succ_eq_append_getElem h2, List.take_succ_eq_append_getElem h2', hall, h3]
    · simp at h2
      have e1 : k = xs.length := by omega
      have e2 : k = ys.length := by omega
      rw [e1, List.take_length, ← e1, e2, List.take_length] at hall
      show SV.p (bl _) = _
      simp [hall]


theorem r_act26 (g : List Cx) (l : List Vis) : Ret Try.prog 52 [sl g, sl l] [] (resV (act26 g l)) := by
  refine ret (fn := Try.f52) (by kernel_rfl) (by kernel_rfl) rfl ?_
  refine ⟨[], _, r_check26 g, rfl, ?_⟩
  refine ⟨fun h1 => ?_, fun h1 => ?_⟩
  · simp at h1
    refine ⟨[], _, r_check26 g, rfl, ?_⟩
    rw [act26, if_pos h1]; rfl
  simp at h1
  obtain ⟨g1, g2, g3⟩ := ck26_0 h1
  refine ⟨[], _, r_all l g.length, rfl, ?_⟩
  refine ⟨fun h2 => ?_, fun h2 => ?_⟩
  · simp at h2
    refine ⟨[], _, r_all l g.length, rfl, ?_⟩
    rw [act26, if_neg (by omega), if_pos h2]; rfl
  simp at h2
  obtain ⟨l1, l2⟩ := all26_0 h2
  have bad : ∀ k, (hk : k < l.length) → (act1 g l[k]).2 ≠ 0 → SV.tup [.p (.sl false 0 []), .p (i64 16)] = resV (act26 g l) := fun k hk h => by
    rw [act26, if_neg (by omega), if_neg (by omega), if_neg]
    · rfl
    rw [List.all_eq_true]
    intro h'
    exact h (by simpa using h' l[k] (List.getElem_mem hk))
  refine ⟨Nat, { inv := fun k => k ≤ l.length ∧ (∀ v ∈ l.take k, (act1 g v).2 = 0), slots := [(7, fun k => i64 k)], rows := [(6, 50, 6, fun k => k, fun k => flat ((l.take k).map fun v => v.set (act1 g v).1))], mu := fun k => l.length - k }, 0, ⟨⟨rfl, trivial⟩, ⟨⟨rfl, rfl⟩, trivial⟩, (by repeat' first | exact trivial | rfl | apply And.intro), Nat.zero_le _, by simp⟩, ?_⟩
  intro k ⟨hk, hall⟩
  refine ⟨fun h3 => ?_, fun h3 => ?_⟩
  · simp at h3
    have hgd := l2 l[k] (List.getElem_mem h3)
    unfold Vis.good at hgd
    obtain ⟨a, ha⟩ : ∃ a : Nat, l[k].i = a := ⟨l[k].i.toNat, by omega⟩
    obtain ⟨b, hb⟩ : ∃ b : Nat, l[k].j = b := ⟨l[k].j.toNat, by omega⟩
    have hla : a < g.length := by omega
    have hlb : b < g.length := by omega
    have ea : at_ g l[k].i = g[a] := by rw [ha, at_get hla]
    have eb : at_ g l[k].j = g[b] := by rw [hb, at_get hlb]
    refine ⟨k, rfl, h3, by decide, _, idx h3, rfl, ?_⟩
    refine ⟨a, ha, hla, by decide, _, idx hla, rfl, ?_⟩
    refine ⟨_, r_mul g[a] l[k].v, rfl, ?_⟩
    refine ⟨fun h4 => ?_, fun h4 => ?_⟩
    · simp at h4
      exact bad k h3 (by rw [act1, ea, if_pos h4]; simp)
    simp at h4
    refine ⟨b, hb, hlb, by decide, _, idx hlb, rfl, ?_⟩
    refine ⟨_, r_apart g[b] (g3 _ (List.getElem_mem hlb)).1, rfl, ?_⟩
    refine ⟨_, r_mul (mul g[a] l[k].v).1 (conj g[b]), rfl, ?_⟩
    refine ⟨fun h5 => ?_, fun h5 => ?_⟩
    · simp at h5
      exact bad k h3 (by rw [act1, ea, eb, if_neg (by simp [h4]), if_pos h5]; simp)
    simp at h5
    have e : act1 g l[k] = mul (mul g[a] l[k].v).1 (conj g[b]) := by rw [act1, ea, eb, if_neg (by simp [h4]), if_neg (by simp [h5])]
    refine ⟨⟨by show k + 1 ≤ _; omega, by show (k + 1) * 48 ≤ _; omega⟩, ?_⟩
    refine ⟨k + 1, by show _ < _; simp; omega, ⟨rfl, rfl⟩, ⟨by show PV.v (.int _ _) = _; rw [succ_w (by omega)], trivial⟩, ⟨⟨rfl, ?_⟩, trivial⟩, (by repeat' first | exact trivial | rfl | apply And.intro), h3, ?_⟩
    · show _ ++ _ = flat _
      rw [List.take_succ_eq_append_getElem h3, List.map_append, List.map_singleton, flat_snoc, e]; rfl
    · intro v hv
      rw [List.take_succ_eq_append_getElem h3, List.mem_append] at hv
      rcases hv with hv | hv
      · exact hall v hv
      · simp at hv; subst hv; rw [e]; exact h5
  simp at h3
  have : k = l.length := by omega
  subst this
  rw [List.take_length] at hall
  show SV.tup [.p (.sl false l.length (flat ((l.take l.length).map fun v => v.set (act1 g v).1))), .p (i64 0)] = resV _
  rw [act26, if_neg (by omega), if_neg (by omega), if_pos (by rw [List.all_eq_true]; intro v hv; simpa using hall v hv)]
  simp

theorem act26_length (g : List Cx) (l : List Vis) : (act26 g l).1.length ≤ l.length := by
  unfold act26
  split
  · simp
  · split
    · simp
    · split <;> simp

end Go.Pv
