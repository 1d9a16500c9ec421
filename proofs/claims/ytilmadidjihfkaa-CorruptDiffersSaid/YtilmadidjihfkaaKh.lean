/- Contracts: series spoilt by events, the code's. -/
import Derived.Test.YtilmadidjihfkaaKg
import Derived.Test.YtilmadidjihfkaaPlCxm
namespace Go.Pv
open Go.Vc
open Go.Proofs
set_option maxRecDepth 10000
set_option maxHeartbeats 4000000

abbrev resS (r : List (List Vis) × Int) : SV := .tup [.p (sl r.1), .p (i64 r.2)]

theorem k_act (f : FuncId) (hfb : f = 44 ∨ f = 53) (ch : List Cx → List Cx × Int) (s : List (List Vis)) (l : List Spo) (hs : ∀ l ∈ s, ∀ v ∈ l, Enc.ok v) (hl : ∀ s ∈ l, Enc.ok s)
    (hf : ∀ g, (∀ c ∈ g, c.valid) → Ret Try.prog f [sl g] [] (resCs (ch g))) (hc : ∀ g, (∀ c ∈ g, c.valid) → (ch g).2 = 0 → ∀ c ∈ (ch g).1, Enc.ok c) :
    Ret Try.prog 43 [sl s, sl l, .fn (.func f) [] []] [] (resS (spo35 ch s l)) := by
  refine ret (fn := Try.f43) (by kernel_rfl) (by kernel_rfl) rfl ?_
  refine ⟨[], _, k_check35 s hs, rfl, ?_⟩
  refine ⟨fun h1 => ?_, fun h1 => ?_⟩
  · simp at h1
    rw [spo35, if_pos h1]; rfl
  have h1 : ck35 s = 0 := by simpa using h1
  have hn := ck35_len h1
  refine ⟨fun h2 => ?_, fun h2 => ?_⟩
  · have h2 : s.length = 0 := by simp at h2; simp [h2]
    refine ⟨[], _, k_table l 0 hl, rfl, ?_⟩
    rw [spo35, if_neg (by simp [h1]), if_pos h2]; rfl
  have h2 : s.length ≠ 0 := by simp at h2; simp [h2]
  refine ⟨Nat, { inv := fun k => k ≤ s.length ∧ (terr l k = 0), slots := [(37, fun k => i64 k)], rows := [(11, 28, 1, fun k => k, fun k => flat ((List.range k).map fun (t : Nat) => (table l t).1))], mu := fun k => s.length - k }, 0, ⟨⟨rfl, trivial⟩, ⟨⟨rfl, rfl⟩, trivial⟩, (by repeat' first | exact trivial | rfl | apply And.intro), Nat.zero_le _, rfl⟩, ?_⟩
  intro k ⟨hk, hz⟩
  refine ⟨fun h3 => ?_, fun h3 => ?_⟩
  · simp at h3
    refine ⟨[], _, k_table l k hl, rfl, ?_⟩
    refine ⟨fun h4 => ?_, fun h4 => ?_⟩
    · simp at h4
      rw [spo35_4 h1 hz h3 h4]; rfl
    · have h4 : (table l k).2 = 0 := by simpa using h4
      refine ⟨⟨by show k + 1 ≤ _; omega, by show (k + 1) * 24 ≤ _; omega⟩, ?_⟩
      refine ⟨k + 1, by show _ < _; simp; omega, ⟨rfl, rfl⟩, ⟨by show PV.v (.int _ _) = _; rw [succ_w (by omega)], trivial⟩, ⟨⟨rfl, ?_⟩, trivial⟩, (by repeat' first | exact trivial | rfl | apply And.intro), h3, err1_step hz h4⟩
      show _ ++ _ = flat _
      rw [List.range_succ, List.map_append, List.map_singleton, flat_snoc]; rfl
  simp at h3
  have : k = s.length := by omega
  subst this
  clear h3 hk
  refine ⟨Nat, { inv := fun k => k ≤ s.length ∧ (err1 (fun t => (one35 ch s l t).2) k = 0), slots := [(56, fun k => i64 k)], rows := [(15, 48, 1, fun k => k, fun k => flat ((List.range k).map fun (t : Nat) => (one35 ch s l t).1))], mu := fun k => s.length - k }, 0, ⟨⟨rfl, trivial⟩, ⟨⟨rfl, rfl⟩, trivial⟩, (by repeat' first | exact trivial | rfl | apply And.intro), Nat.zero_le _, rfl⟩, ?_⟩
  intro k ⟨hk, hy⟩
  refine ⟨fun h5 => ?_, fun h5 => ?_⟩
  · simp at h5
    have hrl : ((List.range s.length).map fun (t : Nat) => (table l t).1).length = s.length := by simp
    have h5' : k < ((List.range s.length).map fun (t : Nat) => (table l t).1).length := by rw [hrl]; exact h5
    have hg : ((List.range s.length).map fun (t : Nat) => (table l t).1)[k]'h5' = (table l k).1 := by simp
    have ht0 := err1_all.1 hz k h5
    have hv := table_valid ht0
    refine ⟨k, rfl, h5, by decide, _, idx h5, rfl, ?_⟩
    refine ⟨k, rfl, h5, ?_⟩
    have hcell : ((flat ((List.range s.length).map fun (t : Nat) => (table l t).1)).drop (k * 1)).take 1 = [sl (table l k).1] := by
      have := idx h5'
      rw [hg] at this
      exact this
    refine ⟨_, hcell, rfl, ?_⟩
    rcases hfb with rfl | rfl
    all_goals
      refine ⟨[], _, hf (table l k).1 hv, rfl, ?_⟩
      refine ⟨fun h6 => ?_, fun h6 => ?_⟩
      · have h6 : (ch (table l k).1).2 ≠ 0 := by simpa using h6
        have e := one35_bad (s := s) h6
        rw [spo35_5 h1 hz hy h5 (by rw [e]; exact h6), e]; rfl
      have h6 : (ch (table l k).1).2 = 0 := by simpa using h6
      have e := one35_get h5 h6
      refine ⟨[], _, g_act (ch (table l k).1).1 s[k] (hc _ hv h6) (hs _ (List.getElem_mem h5)), rfl, ?_⟩
      refine ⟨fun h7 => ?_, fun h7 => ?_⟩
      · have h7 : (act26 (ch (table l k).1).1 s[k]).2 ≠ 0 := by simpa using h7
        rw [spo35_5 h1 hz hy h5 (by rw [e]; exact h7), e]; rfl
      · have h7 : (act26 (ch (table l k).1).1 s[k]).2 = 0 := by simpa using h7
        refine ⟨⟨by show k + 1 ≤ _; omega, by show (k + 1) * 24 ≤ _; omega⟩, ?_⟩
        refine ⟨k + 1, by show _ < _; simp; omega, ⟨rfl, rfl⟩, ⟨by show PV.v (.int _ _) = _; rw [succ_w (by omega)], trivial⟩, ⟨⟨rfl, ?_⟩, trivial⟩, (by repeat' first | exact trivial | rfl | apply And.intro), h5, err1_step hy (by rw [e]; exact h7)⟩
        show _ ++ _ = flat _
        rw [List.range_succ, List.map_append, List.map_singleton, flat_snoc, e]; rfl
  · simp at h5
    have : k = s.length := by omega
    subst this
    rw [spo35_0 h1 h2 hz hy]
    show SV.tup [.p (.sl false s.length (flat ((List.range s.length).map fun (t : Nat) => (one35 ch s l t).1))), .p (i64 0)] = resS _
    simp

theorem tinv_ck0 {g : List Cx} (h : (tinv g).2 = 0) : ck26 g = 0 := by
  by_cases e : ck26 g = 0
  · exact e
  · rw [tinv, if_pos e] at h; exact h

theorem k_noch (g : List Cx) : Ret Try.prog 44 [sl g] [] (resCs (noch g)) := by
  refine ret (fn := Try.f44) (by kernel_rfl) (by kernel_rfl) rfl ?_
  rfl

theorem k_spoil (s : List (List Vis)) (l : List Spo) (hs : ∀ l ∈ s, ∀ v ∈ l, Enc.ok v) (hl : ∀ s ∈ l, Enc.ok s) : Ret Try.prog 20 [sl s, sl l] [] (resS (spoil s l)) := by
  refine ret (fn := Try.f20) (by kernel_rfl) (by kernel_rfl) rfl ?_
  refine ⟨[], _, k_act 44 (.inl rfl) noch s l hs hl (fun g _ => k_noch g) (fun g hg _ c hc => ok_valid (hg c hc)), rfl, ?_⟩
  rfl

theorem k_undo (s : List (List Vis)) (l : List Spo) (hs : ∀ l ∈ s, ∀ v ∈ l, Enc.ok v) (hl : ∀ s ∈ l, Enc.ok s) : Ret Try.prog 26 [sl s, sl l] [] (resS (undo s l)) := by
  refine ret (fn := Try.f26) (by kernel_rfl) (by kernel_rfl) rfl ?_
  refine ⟨[], _, k_act 53 (.inr rfl) tinv s l hs hl (fun g hg => g_inv g fun c hc => ok_valid (hg c hc)) (fun g hg h0 c hc => ok_valid (tinv_valid (tinv_ck0 h0) h0 c hc)), rfl, ?_⟩
  rfl
end Go.Pv
