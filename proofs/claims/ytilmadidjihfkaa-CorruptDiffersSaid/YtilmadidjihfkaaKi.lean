/- Contracts: series spoilt by events, the reference's; series compared. -/
import Derived.Test.YtilmadidjihfkaaKh
namespace Go.Pv
open Go.Vc
open Go.Proofs
set_option maxRecDepth 10000
set_option maxHeartbeats 4000000

abbrev resTb (r : List (List Cx) × Int) : SV := .tup [.p (sl r.1), .p (i64 r.2)]

def tabsR (l : List Spo) (n : Nat) : List (List Cx) × Int := if (table l 0).2 ≠ 0 ∧ n = 0 then ([], (table l 0).2) else tabs l n

theorem tabs_bad {l : List Spo} {k n : Nat} (hz : terr l k = 0) (hk : k < n) (hb : (table l k).2 ≠ 0) : tabs l n = ([], (table l k).2) := by
  have e : terr l n = (table l k).2 := err1_bad (f := fun t => (table l t).2) hz hb hk
  rw [tabs, e, if_pos hb]

theorem r_tables (s : List (List Vis)) (l : List Spo) (hn : s.length ≤ 32) : Ret Try.prog 51 [sl s, sl l] [] (resTb (tabsR l s.length)) := by
  refine ret (fn := Try.f51) (by kernel_rfl) (by kernel_rfl) rfl ?_
  refine ⟨[], _, r_table l 0, rfl, ?_⟩
  refine ⟨fun h1 => ?_, fun h1 => ?_⟩
  focus
    have h1 : (table l 0).2 ≠ 0 := by simpa using h1
    refine ⟨fun h2 => ?_, fun h2 => ?_⟩
    · have h2 : s.length = 0 := by simp at h2; simp [h2]
      rw [tabsR, if_pos ⟨h1, h2⟩]; rfl
    have h2 : s.length ≠ 0 := by simp at h2; simp [h2]
    rw [tabsR, if_neg (fun h => h2 h.2)]
  rotate_left
  focus
    have h1 : (table l 0).2 = 0 := by simpa using h1
    rw [tabsR, if_neg (fun h => h.1 h1)]
  all_goals
    refine ⟨Nat, { inv := fun k => k ≤ s.length ∧ (terr l k = 0), slots := [(9, fun k => i64 k)], rows := [(8, 28, 1, fun k => k, fun k => flat ((List.range k).map fun (t : Nat) => (table l t).1))], mu := fun k => s.length - k }, 0, ⟨⟨rfl, trivial⟩, ⟨⟨rfl, rfl⟩, trivial⟩, (by repeat' first | exact trivial | rfl | apply And.intro), Nat.zero_le _, rfl⟩, ?_⟩
    intro k ⟨hk, hz⟩
    refine ⟨fun h3 => ?_, fun h3 => ?_⟩
    · simp at h3
      refine ⟨[], _, r_table l k, rfl, ?_⟩
      refine ⟨fun h4 => ?_, fun h4 => ?_⟩
      · have h4 : (table l k).2 ≠ 0 := by simpa using h4
        rw [tabs_bad hz h3 h4]; rfl
      · have h4 : (table l k).2 = 0 := by simpa using h4
        refine ⟨⟨by show k + 1 ≤ _; omega, by show (k + 1) * 24 ≤ _; omega⟩, ?_⟩
        refine ⟨k + 1, by show _ < _; simp; omega, ⟨rfl, rfl⟩, ⟨by show PV.v (.int _ _) = _; rw [succ_w (by omega)], trivial⟩, ⟨⟨rfl, ?_⟩, trivial⟩, (by repeat' first | exact trivial | rfl | apply And.intro), h3, err1_step hz h4⟩
        show _ ++ _ = flat _
        rw [List.range_succ, List.map_append, List.map_singleton, flat_snoc]; rfl
    · simp at h3
      have : k = s.length := by omega
      subst this
      rw [tabs, if_neg (by simp [hz])]
      show SV.tup [.p (.sl false s.length (flat ((List.range s.length).map fun (t : Nat) => (table l t).1))), .p (i64 0)] = resTb _
      simp

theorem tabsR_bad {ch : List Cx → List Cx × Int} {s : List (List Vis)} {l : List Spo} (h1 : ck35 s = 0) (h : (tabsR l s.length).2 ≠ 0) : spo35 ch s l = ([], (tabsR l s.length).2) := by
  rw [spo35, if_neg (by simp [h1])]
  unfold tabsR at h ⊢
  by_cases e : s.length = 0
  · rw [if_pos e]
    split
    · rfl
    · rename_i h'
      rw [if_neg h'] at h
      rw [e] at h
      exact absurd rfl h
  · have hn : ¬ ((table l 0).2 ≠ 0 ∧ s.length = 0) := fun h => e h.2
    rw [if_neg e, if_neg hn]
    rw [if_neg hn] at h
    unfold tabs at h ⊢
    split at h
    · rename_i h'; rw [if_pos h', if_pos h']
    · exact absurd rfl h

theorem tabsR_0 {l : List Spo} {n : Nat} (h : (tabsR l n).2 = 0) : terr l n = 0 ∧ tabsR l n = ((List.range n).map fun (t : Nat) => (table l t).1, 0) ∧ (n = 0 → (table l 0).2 = 0) := by
  unfold tabsR at h ⊢
  split at h
  · rename_i h'; exact absurd h h'.1
  · rename_i h'
    rw [if_neg h']
    unfold tabs at h ⊢
    split at h
    · rename_i h''; exact absurd h h''
    · rename_i h''
      rw [if_neg h'']
      exact ⟨by simpa using h'', rfl, fun e => by
        by_cases e2 : (table l 0).2 = 0
        · exact e2
        · exact absurd ⟨e2, e⟩ h'⟩

theorem spo35_0R {ch : List Cx → List Cx × Int} {s : List (List Vis)} {l : List Spo} (h1 : ck35 s = 0) (h0 : s.length = 0 → (table l 0).2 = 0) (ht : terr l s.length = 0) (hz : err1 (fun t => (one35 ch s l t).2) s.length = 0) : spo35 ch s l = ((List.range s.length).map fun t => (one35 ch s l t).1, 0) := by
  by_cases e : s.length = 0
  · rw [spo35, if_neg (by simp [h1]), if_pos e, h0 e, e]; rfl
  · exact spo35_0 h1 e ht hz

theorem r_spoil (s : List (List Vis)) (l : List Spo) : Ret Try.prog 25 [sl s, sl l] [] (resS (spoil s l)) := by
  refine ret (fn := Try.f25) (by kernel_rfl) (by kernel_rfl) rfl ?_
  refine ⟨[], _, r_check35 s, rfl, ?_⟩
  refine ⟨fun h1 => ?_, fun h1 => ?_⟩
  · simp at h1
    show _ = resS (spo35 _ _ _)
    rw [spo35, if_pos h1]; rfl
  have h1 : ck35 s = 0 := by simpa using h1
  have hn := ck35_len h1
  refine ⟨[], _, r_tables s l hn, rfl, ?_⟩
  refine ⟨fun h2 => ?_, fun h2 => ?_⟩
  · have h2 : (tabsR l s.length).2 ≠ 0 := by simpa using h2
    show _ = resS (spo35 _ _ _)
    rw [tabsR_bad h1 h2]; rfl
  have h2 : (tabsR l s.length).2 = 0 := by simpa using h2
  obtain ⟨hz, ht, h0⟩ := tabsR_0 h2
  refine ⟨Nat, { inv := fun k => k ≤ s.length ∧ (err1 (fun t => (one35 noch s l t).2) k = 0), slots := [(10, fun k => i64 k)], rows := [(9, 48, 1, fun k => k, fun k => flat ((List.range k).map fun (t : Nat) => (one35 noch s l t).1))], mu := fun k => s.length - k }, 0, ⟨⟨rfl, trivial⟩, ⟨⟨rfl, rfl⟩, trivial⟩, (by repeat' first | exact trivial | rfl | apply And.intro), Nat.zero_le _, rfl⟩, ?_⟩
  intro k ⟨hk, hy⟩
  refine ⟨fun h5 => ?_, fun h5 => ?_⟩
  · simp at h5
    have h5' : k < (tabsR l s.length).1.length := by rw [ht]; simpa using h5
    have hg : (tabsR l s.length).1[k] = (table l k).1 := by simp [ht]
    refine ⟨k, rfl, h5', by decide, _, idx h5', rfl, ?_⟩
    refine ⟨k, rfl, h5, by decide, _, idx h5, rfl, ?_⟩
    have e := one35_get (ch := noch) (s := s) (l := l) h5 rfl
    refine ⟨_, (show Ret Try.prog 52 [sl (tabsR l s.length).1[k], sl s[k]] [] (resV (one35 noch s l k)) by rw [hg, e]; exact r_act26 _ _), rfl, ?_⟩
    refine ⟨fun h7 => ?_, fun h7 => ?_⟩
    · have h7 : (one35 noch s l k).2 ≠ 0 := by simpa using h7
      show _ = resS (spo35 _ _ _)
      rw [spo35_5 h1 hz hy h5 h7]; rfl
    · have h7 : (one35 noch s l k).2 = 0 := by simpa using h7
      refine ⟨⟨by show k + 1 ≤ _; omega, by show (k + 1) * 24 ≤ _; omega⟩, ?_⟩
      refine ⟨k + 1, by show _ < _; simp; omega, ⟨rfl, rfl⟩, ⟨by show PV.v (.int _ _) = _; rw [succ_w (by omega)], trivial⟩, ⟨⟨rfl, ?_⟩, trivial⟩, (by repeat' first | exact trivial | rfl | apply And.intro), h5, err1_step hy h7⟩
      show _ ++ _ = flat _
      rw [List.range_succ, List.map_append, List.map_singleton, flat_snoc]; rfl
  · simp at h5
    have : k = s.length := by omega
    subst this
    show SV.tup [.p (.sl false s.length (flat ((List.range s.length).map fun (t : Nat) => (one35 noch s l t).1))), .p (i64 0)] = resS (spo35 _ _ _)
    rw [spo35_0R h1 h0 hz hy]
    simp

theorem r_undo (s : List (List Vis)) (l : List Spo) : Ret Try.prog 27 [sl s, sl l] [] (resS (undo s l)) := by
  refine ret (fn := Try.f27) (by kernel_rfl) (by kernel_rfl) rfl ?_
  refine ⟨[], _, r_check35 s, rfl, ?_⟩
  refine ⟨fun h1 => ?_, fun h1 => ?_⟩
  · simp at h1
    show _ = resS (spo35 _ _ _)
    rw [spo35, if_pos h1]; rfl
  have h1 : ck35 s = 0 := by simpa using h1
  have hn := ck35_len h1
  refine ⟨[], _, r_tables s l hn, rfl, ?_⟩
  refine ⟨fun h2 => ?_, fun h2 => ?_⟩
  · have h2 : (tabsR l s.length).2 ≠ 0 := by simpa using h2
    show _ = resS (spo35 _ _ _)
    rw [tabsR_bad h1 h2]; rfl
  have h2 : (tabsR l s.length).2 = 0 := by simpa using h2
  obtain ⟨hz, ht, h0⟩ := tabsR_0 h2
  refine ⟨Nat, { inv := fun k => k ≤ s.length ∧ (err1 (fun t => (one35 tinv s l t).2) k = 0), slots := [(10, fun k => i64 k)], rows := [(9, 48, 1, fun k => k, fun k => flat ((List.range k).map fun (t : Nat) => (one35 tinv s l t).1))], mu := fun k => s.length - k }, 0, ⟨⟨rfl, trivial⟩, ⟨⟨rfl, rfl⟩, trivial⟩, (by repeat' first | exact trivial | rfl | apply And.intro), Nat.zero_le _, rfl⟩, ?_⟩
  intro k ⟨hk, hy⟩
  refine ⟨fun h5 => ?_, fun h5 => ?_⟩
  · simp at h5
    have h5' : k < (tabsR l s.length).1.length := by rw [ht]; simpa using h5
    have hg : (tabsR l s.length).1[k] = (table l k).1 := by simp [ht]
    refine ⟨k, rfl, h5', by decide, _, idx h5', rfl, ?_⟩
    refine ⟨[], _, (show Ret Try.prog 54 [sl (tabsR l s.length).1[k]] [] (resCs (tinv (table l k).1)) by rw [hg]; exact r_tinv _), rfl, ?_⟩
    refine ⟨fun h6 => ?_, fun h6 => ?_⟩
    · have h6 : (tinv (table l k).1).2 ≠ 0 := by simpa using h6
      have e := one35_bad (s := s) h6
      show _ = resS (spo35 _ _ _)
      rw [spo35_5 h1 hz hy h5 (by rw [e]; exact h6), e]; rfl
    have h6 : (tinv (table l k).1).2 = 0 := by simpa using h6
    have e := one35_get h5 h6
    refine ⟨k, rfl, h5, by decide, _, idx h5, rfl, ?_⟩
    refine ⟨[], _, (show Ret Try.prog 52 [sl (tinv (table l k).1).1, sl s[k]] [] (resV (one35 tinv s l k)) by rw [e]; exact r_act26 _ _), rfl, ?_⟩
    refine ⟨fun h7 => ?_, fun h7 => ?_⟩
    · have h7 : (one35 tinv s l k).2 ≠ 0 := by simpa using h7
      show _ = resS (spo35 _ _ _)
      rw [spo35_5 h1 hz hy h5 h7]; rfl
    · have h7 : (one35 tinv s l k).2 = 0 := by simpa using h7
      refine ⟨⟨by show k + 1 ≤ _; omega, by show (k + 1) * 24 ≤ _; omega⟩, ?_⟩
      refine ⟨k + 1, by show _ < _; simp; omega, ⟨rfl, rfl⟩, ⟨by show PV.v (.int _ _) = _; rw [succ_w (by omega)], trivial⟩, ⟨⟨rfl, ?_⟩, trivial⟩, (by repeat' first | exact trivial | rfl | apply And.intro), h5, err1_step hy h7⟩
      show _ ++ _ = flat _
      rw [List.range_succ, List.map_append, List.map_singleton, flat_snoc]; rfl
  · simp at h5
    have : k = s.length := by omega
    subst this
    show SV.tup [.p (.sl false s.length (flat ((List.range s.length).map fun (t : Nat) => (one35 tinv s l t).1))), .p (i64 0)] = resS (spo35 _ _ _)
    rw [spo35_0R h1 h0 hz hy]
    simp

theorem r_same35 (a b : List (List Vis)) (hn : a.length ≤ 1000000) (hb : ∀ l ∈ a, l.length ≤ 1000000) : Ret Try.prog 21 [sl a, sl b] [] (.p (bl (decide (a = b)))) := by
  refine ret (fn := Try.f21) (by kernel_rfl) (by kernel_rfl) rfl ?_
  refine ⟨fun h1 => ?_, fun h1 => ?_⟩
  · have : a ≠ b := by rintro rfl; simp at h1
    rw [decide_eq_false this]; rfl
  have h1 : a.length = b.length := by simp at h1; omega
  refine ⟨Nat, { inv := fun k => k ≤ a.length ∧ (a.take k = b.take k), slots := [(5, fun k => i64 k)],  mu := fun k => a.length - k }, 0, ⟨⟨rfl, trivial⟩, trivial, (by repeat' first | exact trivial | rfl | apply And.intro), Nat.zero_le _, rfl⟩, ?_⟩
  intro k ⟨hk, hall⟩
  refine ⟨fun h2 => ?_, fun h2 => ?_⟩
  · simp at h2
    have h2' : k < b.length := by omega
    refine ⟨k, rfl, h2, by decide, _, idx h2, rfl, ?_⟩
    refine ⟨k, rfl, h2', by decide, _, idx h2', rfl, ?_⟩
    refine ⟨_, r_same26 a[k] b[k] (hb _ (List.getElem_mem h2)), rfl, ?_⟩
    refine ⟨fun h3 => ?_, fun h3 => ?_⟩
    · have : a ≠ b := by rintro rfl; simp at h3
      rw [decide_eq_false this]; rfl
    · have h3 : a[k] = b[k] := by simpa using h3
      refine ⟨k + 1, by show _ < _; simp; omega, ⟨rfl, rfl⟩, ⟨by show PV.v (.int _ _) = _; rw [succ_w (by omega)], trivial⟩, trivial, (by repeat' first | exact trivial | rfl | apply And.intro), h2, ?_⟩
      rw [List.take_succ_eq_append_getElem h2, List.take_succ_eq_append_getElem h2', hall, h3]
  · simp at h2
    have e1 : k = a.length := by omega
    have e2 : k = b.length := by omega
    rw [e1, List.take_length, ← e1, e2, List.take_length] at hall
    rw [decide_eq_true hall]; rfl
end Go.Pv
