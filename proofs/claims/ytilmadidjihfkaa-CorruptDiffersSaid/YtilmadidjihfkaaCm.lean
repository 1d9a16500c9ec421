/- Contracts of the closure's functions: finding, triples. -/
import Derived.Test.YtilmadidjihfkaaCl
namespace Go.Pv
open Go.Vc
open Go.Proofs
set_option maxRecDepth 10000

def found (o : Option Cx) : Cx × Int := match o with | some c => (c, 0) | none => (c0, 6)

theorem l_find (l : List Vis) (i j : Int) (hlen : l.length ≤ 64) (hl : ∀ v ∈ l, v.good 8) : Ret Try.prog 95 [sl l, i64 i, i64 j] [] (resC (found (got i j l))) := by
  refine ret (fn := Try.f95) (by kernel_rfl) (by kernel_rfl) rfl ?_
  refine ⟨Nat, { inv := fun k => k ≤ l.length ∧ got i j l = got i j (l.drop k), slots := [(12, fun k => i64 k)], mu := fun k => l.length - k }, 0, ⟨⟨rfl, trivial⟩, trivial, ⟨rfl, trivial⟩, Nat.zero_le _, rfl⟩, ?_⟩
  intro k ⟨hk, hall⟩
  refine ⟨fun h2 => ?_, fun h2 => ?_⟩
  · simp at h2
    rw [got_drop h2] at hall
    have hv := (hl _ (List.getElem_mem h2)).2.2.2.2
    have next : ¬ (l[k].i = i ∧ l[k].j = j) → ¬ (l[k].i = j ∧ l[k].j = i) → got i j l = got i j (l.drop (k + 1)) := fun h h' => by rw [hall, if_neg h, if_neg h']
    refine ⟨k, rfl, h2, by decide, _, idx h2, rfl, ?_⟩
    have two : ∀ {p : Prop}, p → True := fun _ => trivial
    refine ⟨fun h3 => ?_, fun h3 => ?_⟩
    · simp at h3
      refine ⟨fun h4 => ?_, fun h4 => ?_⟩
      · simp at h4
        rw [hall, if_pos ⟨h3, h4⟩]; rfl
      · simp at h4
        refine ⟨fun h5 => ?_, fun h5 => ?_⟩
        · simp at h5
          refine ⟨fun h6 => ?_, fun h6 => ?_⟩
          · simp at h6
            refine ⟨[], _, c_conj l[k].v (ok_valid hv), rfl, ?_⟩
            show resC _ = resC _
            rw [if_pos hv, hall, if_neg (by omega), if_pos ⟨h5, h6⟩]; rfl
          · simp at h6
            refine ⟨k + 1, by show _ < _; simp; omega, ⟨rfl, rfl⟩, ⟨?_, trivial⟩, trivial, ⟨rfl, trivial⟩, h2, next (by omega) (by omega)⟩
            show PV.v (.int _ _) = _
            rw [succ_w (by omega)]
        · simp at h5
          refine ⟨k + 1, by show _ < _; simp; omega, ⟨rfl, rfl⟩, ⟨?_, trivial⟩, trivial, ⟨rfl, trivial⟩, h2, next (by omega) (by omega)⟩
          show PV.v (.int _ _) = _
          rw [succ_w (by omega)]
    · simp at h3
      refine ⟨fun h5 => ?_, fun h5 => ?_⟩
      · simp at h5
        refine ⟨fun h6 => ?_, fun h6 => ?_⟩
        · simp at h6
          refine ⟨[], _, c_conj l[k].v (ok_valid hv), rfl, ?_⟩
          show resC _ = resC _
          rw [if_pos hv, hall, if_neg (by omega), if_pos ⟨h5, h6⟩]; rfl
        · simp at h6
          refine ⟨k + 1, by show _ < _; simp; omega, ⟨rfl, rfl⟩, ⟨?_, trivial⟩, trivial, ⟨rfl, trivial⟩, h2, next (by omega) (by omega)⟩
          show PV.v (.int _ _) = _
          rw [succ_w (by omega)]
      · simp at h5
        refine ⟨k + 1, by show _ < _; simp; omega, ⟨rfl, rfl⟩, ⟨?_, trivial⟩, trivial, ⟨rfl, trivial⟩, h2, next (by omega) (by omega)⟩
        show PV.v (.int _ _) = _
        rw [succ_w (by omega)]
  · simp at h2
    have : k = l.length := by omega
    subst this
    rw [List.drop_length] at hall
    rw [hall]; rfl

def gotR (o : Option Cx) : SV := match o with | some c => .tup [.p (cx c), .p (bl true)] | none => .tup [.p (cx c0), .p (bl false)]

theorem r_got (l : List Vis) (i j : Int) (hlen : l.length ≤ 64) (hl : ∀ v ∈ l, v.good 8) : Ret Try.prog 47 [sl l, i64 i, i64 j] [] (.tup [.p (cx ((got i j l).getD c0)), .p (bl (got i j l).isSome)]) := by
  refine ret (fn := Try.f47) (by kernel_rfl) (by kernel_rfl) rfl ?_
  refine ⟨Nat, { inv := fun k => k ≤ l.length ∧ got i j l = got i j (l.drop k), slots := [(8, fun k => i64 k)], mu := fun k => l.length - k }, 0, ⟨⟨rfl, trivial⟩, trivial, ⟨rfl, trivial⟩, Nat.zero_le _, rfl⟩, ?_⟩
  intro k ⟨hk, hall⟩
  refine ⟨fun h2 => ?_, fun h2 => ?_⟩
  · simp at h2
    rw [got_drop h2] at hall
    have hv := (hl _ (List.getElem_mem h2)).2.2.2.2
    have next : ¬ (l[k].i = i ∧ l[k].j = j) → ¬ (l[k].i = j ∧ l[k].j = i) → got i j l = got i j (l.drop (k + 1)) := fun h h' => by rw [hall, if_neg h, if_neg h']
    refine ⟨k, rfl, h2, by decide, _, idx h2, rfl, ?_⟩
    refine ⟨fun h3 => ?_, fun h3 => ?_⟩
    · simp at h3
      refine ⟨k, rfl, h2, by decide, _, idx h2, rfl, ?_⟩
      refine ⟨fun h4 => ?_, fun h4 => ?_⟩
      · simp at h4
        refine ⟨k, rfl, h2, by decide, _, idx h2, rfl, ?_⟩
        show SV.tup [.p (cx l[k].v), .p (bl true)] = SV.tup [.p (cx _), .p (bl _)]
        rw [hall, if_pos ⟨h3, h4⟩]; rfl
      · simp at h4
        refine ⟨k, rfl, h2, by decide, _, idx h2, rfl, ?_⟩
        refine ⟨fun h5 => ?_, fun h5 => ?_⟩
        · simp at h5
          refine ⟨k, rfl, h2, by decide, _, idx h2, rfl, ?_⟩
          refine ⟨fun h6 => ?_, fun h6 => ?_⟩
          · simp at h6
            refine ⟨k, rfl, h2, by decide, _, idx h2, rfl, ?_⟩
            refine ⟨[], _, r_apart l[k].v hv, rfl, ?_⟩
            show SV.tup [.p (cx (conj l[k].v)), .p (bl true)] = SV.tup [.p (cx _), .p (bl _)]
            rw [hall, if_neg (by omega), if_pos ⟨h5, h6⟩]; rfl
          · simp at h6
            refine ⟨k + 1, by show _ < _; simp; omega, ⟨rfl, rfl⟩, ⟨?_, trivial⟩, trivial, ⟨rfl, trivial⟩, h2, next (by omega) (by omega)⟩
            show PV.v (.int _ _) = _
            rw [succ_w (by omega)]
        · simp at h5
          refine ⟨k + 1, by show _ < _; simp; omega, ⟨rfl, rfl⟩, ⟨?_, trivial⟩, trivial, ⟨rfl, trivial⟩, h2, next (by omega) (by omega)⟩
          show PV.v (.int _ _) = _
          rw [succ_w (by omega)]
    · simp at h3
      refine ⟨k, rfl, h2, by decide, _, idx h2, rfl, ?_⟩
      refine ⟨fun h5 => ?_, fun h5 => ?_⟩
      · simp at h5
        refine ⟨k, rfl, h2, by decide, _, idx h2, rfl, ?_⟩
        refine ⟨fun h6 => ?_, fun h6 => ?_⟩
        · simp at h6
          refine ⟨k, rfl, h2, by decide, _, idx h2, rfl, ?_⟩
          refine ⟨[], _, r_apart l[k].v hv, rfl, ?_⟩
          show SV.tup [.p (cx (conj l[k].v)), .p (bl true)] = SV.tup [.p (cx _), .p (bl _)]
          rw [hall, if_neg (by omega), if_pos ⟨h5, h6⟩]; rfl
        · simp at h6
          refine ⟨k + 1, by show _ < _; simp; omega, ⟨rfl, rfl⟩, ⟨?_, trivial⟩, trivial, ⟨rfl, trivial⟩, h2, next (by omega) (by omega)⟩
          show PV.v (.int _ _) = _
          rw [succ_w (by omega)]
      · simp at h5
        refine ⟨k + 1, by show _ < _; simp; omega, ⟨rfl, rfl⟩, ⟨?_, trivial⟩, trivial, ⟨rfl, trivial⟩, h2, next (by omega) (by omega)⟩
        show PV.v (.int _ _) = _
        rw [succ_w (by omega)]
  · simp at h2
    have : k = l.length := by omega
    subst this
    rw [List.drop_length] at hall
    show SV.tup [.p (cx c0), .p (bl false)] = SV.tup [.p (cx _), .p (bl _)]
    rw [hall]; rfl

theorem l_different (l : List Int) (hlen : l.length ≤ 1000000) : Ret Try.prog 86 [sl l] [] (.p (bl (decide (apart l)))) := by
  refine ret (fn := Try.f86) (by kernel_rfl) (by kernel_rfl) rfl ?_
  refine ⟨Nat, { inv := fun k => k ≤ l.length ∧ apart (l.take k), slots := [(8, fun k => i64 k)], boxes := [(0, fun k => inAt (l.take k))], mu := fun k => l.length - k }, 0, ⟨⟨rfl, trivial⟩, trivial, ⟨rfl, trivial⟩, Nat.zero_le _, by simp [apart]⟩, ?_⟩
  intro k ⟨hk, hall⟩
  refine ⟨fun h2 => ?_, fun h2 => ?_⟩
  · simp at h2
    have bad : ¬ apart (l.take (k + 1)) → SV.p (bl false) = SV.p (bl (decide (apart l))) := fun h => by
      have : ¬ apart l := fun h' => h (apart_take _ h')
      simp [this]
    rw [apart_succ h2] at bad
    refine ⟨k, rfl, h2, by decide, _, idx h2, rfl, ?_⟩
    refine ⟨[], _, l_station l[k], rfl, ?_⟩
    refine ⟨fun h3 => ?_, fun h3 => ?_⟩
    · simp at h3
      obtain ⟨a, ha⟩ : ∃ a : Nat, l[k] = a := ⟨l[k].toNat, by omega⟩
      refine ⟨a, ha, by omega, [bl (decide ((a : Int) ∈ l.take k))], ?_, rfl, ?_⟩
      · show ((inAt _).drop (a * 1)).take 1 = _
        rw [Nat.mul_one, inAt, part_map _ _ _ _ (by omega)]; rfl
      refine ⟨fun h4 => ?_, fun h4 => ?_⟩
      · simp at h4
        exact bad fun h => h.2.2 (by rw [ha]; exact h4)
      · simp at h4
        refine ⟨a, ha, by omega, ?_⟩
        refine ⟨by show a * 1 + 1 ≤ (inAt _).length; simp [inAt]; omega, ?_⟩
        refine ⟨k + 1, by show _ < _; simp; omega, ⟨rfl, rfl⟩, ⟨?_, trivial⟩, trivial, ⟨?_, trivial⟩, h2, ?_⟩
        · show PV.v (.int _ _) = _
          rw [succ_w (by omega)]
        · show spl (inAt _) (a * 1) [PV.v (.bool true)] = inAt _
          rw [Nat.mul_one, List.take_succ_eq_append_getElem h2]
          refine spl_map _ _ _ _ _ (by omega) ?_ ?_
          · simp [ha]
          · intro j hj
            have : ¬ (j : Int) = l[k] := by omega
            simp only [List.mem_append, List.mem_singleton, this, or_false]
        · rw [apart_succ h2]
          exact ⟨hall, by omega, by rw [ha]; exact h4⟩
    · simp at h3
      exact bad fun h => by omega
  · simp at h2
    have : k = l.length := by omega
    subst this
    rw [List.take_length] at hall
    show SV.p (bl _) = _
    simp [hall]

theorem r_apart27 (l : List Int) (hlen : l.length ≤ 1000000) : Ret Try.prog 67 [sl l] [] (.p (bl (decide (apart l)))) := by
  refine ret (fn := Try.f67) (by kernel_rfl) (by kernel_rfl) rfl ?_
  refine ⟨Nat, { inv := fun k => k ≤ l.length ∧ apart (l.take k), slots := [(3, fun k => i64 k)], mu := fun k => l.length - k }, 0, ⟨⟨rfl, trivial⟩, trivial, trivial, Nat.zero_le _, by simp [apart]⟩, ?_⟩
  intro k ⟨hk, hall⟩
  refine ⟨fun h2 => ?_, fun h2 => ?_⟩
  · simp at h2
    have bad : ¬ apart (l.take (k + 1)) → SV.p (bl false) = SV.p (bl (decide (apart l))) := fun h => by
      have : ¬ apart l := fun h' => h (apart_take _ h')
      simp [this]
    rw [apart_succ h2] at bad
    refine ⟨k, rfl, h2, by decide, _, idx h2, rfl, ?_⟩
    refine ⟨[], _, r_station l[k], rfl, ?_⟩
    refine ⟨fun h3 => ?_, fun h3 => ?_⟩
    · simp at h3
      exact bad fun h => by omega
    · simp at h3
      refine ⟨Nat, { inv := fun m => m ≤ k ∧ ∀ j, (hj : j < m) → (hk' : j < k) → (l[j]'(by omega)) ≠ l[k], slots := [(4, fun m => i64 m)], mu := fun m => k - m }, 0, ⟨⟨rfl, trivial⟩, trivial, trivial, Nat.zero_le _, fun j hj => absurd hj (by omega)⟩, ?_⟩
      intro m ⟨hm, hne⟩
      refine ⟨fun h4 => ?_, fun h4 => ?_⟩
      · simp at h4
        have h4' : m < l.length := by omega
        refine ⟨m, rfl, h4', by decide, _, idx h4', rfl, ?_⟩
        refine ⟨k, rfl, h2, by decide, _, idx h2, rfl, ?_⟩
        refine ⟨fun h5 => ?_, fun h5 => ?_⟩
        · simp at h5
          exact bad fun h => h.2.2 (by rw [← h5, List.mem_take_iff_getElem]; exact ⟨m, by omega, rfl⟩)
        · simp at h5
          refine ⟨m + 1, by show _ < _; simp; omega, ⟨rfl, rfl⟩, ⟨?_, trivial⟩, trivial, trivial, by omega, ?_⟩
          · show PV.v (.int _ _) = _
            rw [succ_w (by omega)]
          · intro j hj hk'
            by_cases e : j = m
            · subst e; exact h5
            · exact hne j (by omega) hk'
      · simp at h4
        refine ⟨k + 1, by show _ < _; simp; omega, ⟨rfl, rfl⟩, ⟨?_, trivial⟩, trivial, trivial, by omega, ?_⟩
        · show PV.v (.int _ _) = _
          rw [succ_w (by omega)]
        · rw [apart_succ h2]
          refine ⟨hall, by omega, fun hmem => ?_⟩
          rw [List.mem_take_iff_getElem] at hmem
          obtain ⟨j, hj, e⟩ := hmem
          exact hne j (by omega) (by omega) e
  · simp at h2
    have : k = l.length := by omega
    subst this
    rw [List.take_length] at hall
    show SV.p (bl _) = _
    simp [hall]

theorem eqPL_tri (a b : Tri) : eqPL (Enc.cs a) (Enc.cs b) = decide (a = b) := by
  cases a; cases b
  rw [Bool.eq_iff_iff]
  simp [Enc.cs, eqPL, eqP]

end Go.Pv
