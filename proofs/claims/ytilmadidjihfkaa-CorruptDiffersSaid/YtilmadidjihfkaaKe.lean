/- The example; the law CorruptTables, of the code. -/
import Derived.Test.YtilmadidjihfkaaKd
namespace Go.Pv
open Go.Vc
open Go.Proofs
set_option maxRecDepth 10000
set_option maxHeartbeats 4000000

theorem eqPL_cxK (a b : Cx) : eqPL (Enc.cs a) (Enc.cs b) = decide (a = b) := eqPL_cx a b

theorem r_sameK (xs ys : List Cx) (hn : xs.length ≤ 1000000) : Ret Try.prog 19 [sl xs, sl ys] [] (.p (bl (decide (xs = ys)))) := by
  refine ret (fn := Try.f19) (by kernel_rfl) (by kernel_rfl) rfl ?_
  refine ⟨fun h1 => ?_, fun h1 => ?_⟩
  · show SV.p (bl _) = _
    simp at h1
    have : xs ≠ ys := by rintro rfl; exact h1 rfl
    simp [this]
  · simp at h1
    refine ⟨Nat, { inv := fun k => k ≤ xs.length ∧ xs.take k = ys.take k, slots := [(5, fun k => i64 k)], mu := fun k => xs.length - k }, 0, ⟨⟨rfl, trivial⟩, trivial, trivial, Nat.zero_le _, by simp⟩, ?_⟩
    intro k ⟨hk, hall⟩
    refine ⟨fun h2 => ?_, fun h2 => ?_⟩
    · simp at h2
      have h2' : k < ys.length := by omega
      refine ⟨k, rfl, h2, by decide, _, idx h2, rfl, ?_⟩
      refine ⟨k, rfl, h2', by decide, _, idx h2', rfl, ?_⟩
      have e := eqPL_cxK xs[k] ys[k]
      refine ⟨fun h3 => ?_, fun h3 => ?_⟩
      · show SV.p (bl _) = _
        have h3 : (!eqPL (Enc.cs xs[k]) (Enc.cs ys[k])) = true := h3
        rw [e] at h3
        simp at h3
        have : xs ≠ ys := by rintro rfl; exact h3 rfl
        simp [this]
      · have h3 : (!eqPL (Enc.cs xs[k]) (Enc.cs ys[k])) = false := h3
        rw [e] at h3
        simp at h3
        refine ⟨k + 1, by show _ < _; simp; omega, ⟨rfl, rfl⟩, ⟨?_, trivial⟩, trivial, trivial, h2, ?_⟩
        · show PV.v (.int _ _) = _
          rw [succ_w (by omega)]
        · rw [List.take_succ_eq_append_getElem h2, List.take_succ_eq_append_getElem h2', hall, h3]
    · simp at h2
      have e1 : k = xs.length := by omega
      have e2 : k = ys.length := by omega
      rw [e1, List.take_length, ← e1, e2, List.take_length] at hall
      show SV.p (bl _) = _
      simp [hall]


theorem corruptTables (s : List (List Vis)) (l : List Spo) (t : Int) (hn : s.length ≤ 9223372036854775807) (hs : ∀ l ∈ s, ∀ v ∈ l, Enc.ok v) (hl : ∀ s ∈ l, Enc.ok s) : Ret Try.prog 4 [sl s, sl l, i64 t] [] (.p (bl true)) := by
  refine ret (fn := Try.f4) (by kernel_rfl) (by kernel_rfl) rfl ?_
  refine ⟨[], _, r_great35 s hn, rfl, ?_⟩
  refine ⟨fun h1 => ?_, fun h1 => ?_⟩
  rotate_left
  · rfl
  refine ⟨fun h2 => ?_, fun h2 => ?_⟩
  · rfl
  refine ⟨[], _, k_table l t hl, rfl, ?_⟩
  refine ⟨[], _, r_table l t, rfl, ?_⟩
  refine ⟨[], _, k_check35 s hs, rfl, ?_⟩
  refine ⟨[], _, r_check35 s, rfl, ?_⟩
  refine ⟨fun _ => ?_, fun h => absurd h (by first | decide | simp)⟩
  refine ⟨[], _, r_sameK (table l t).1 (table l t).1 (by have := table_length l t; omega), rfl, ?_⟩
  refine ⟨fun _ => ?_, fun h => absurd h (by first | decide | simp)⟩
  show SV.p (bl ((table l t).2 == (table l t).2)) = _
  simp

theorem law_of (re im den : Int) : Ret Try.prog 29 [i64 re, i64 im, i64 den] [] (.p (cx ⟨re, im, den⟩)) := by
  refine ret (fn := Try.f29) (by kernel_rfl) (by kernel_rfl) rfl ?_
  rfl

def exam : List Spo := [⟨1, 2, 0, 9, ⟨3, 0, 1⟩, 0⟩, ⟨3, 2, 3, 9, c0, 1⟩]

theorem law_exam : Ret Try.prog 31 [] [] (.p (sl exam)) := by
  refine ret (fn := Try.f31) (by kernel_rfl) (by kernel_rfl) rfl ?_
  refine ⟨[], _, law_of 3 0 1, rfl, ?_⟩
  rfl

theorem exam_ok : ∀ s ∈ exam, Enc.ok s := by
  intro s hs
  simp only [exam, List.mem_cons, List.not_mem_nil, or_false] at hs
  rcases hs with rfl | rfl
  all_goals
    refine ⟨⟨by decide, by decide⟩, ?_, ?_, ?_, ⟨?_, ?_, ?_⟩, ?_⟩
    all_goals unfold I64; decide

theorem exam_table : table exam 5 = ([one, one, ⟨-3, 0, 1⟩, one, one, one, one, one], 0) := by decide +kernel

theorem k_tableE {l : List Spo} {t : Int} {r : List Cx × Int} (h : table l t = r) (hl : ∀ s ∈ l, Enc.ok s) : Ret Try.prog 12 [sl l, i64 t] [] (resCs r) := h ▸ k_table l t hl

theorem law_alive : Ret Try.prog 10 [] [] (.p (bl true)) := by
  refine ret (fn := Try.f10) (by kernel_rfl) (by kernel_rfl) rfl ?_
  refine ⟨[], _, law_exam, rfl, ?_⟩
  refine ⟨[], _, k_tableE exam_table exam_ok, rfl, ?_⟩
  refine ⟨[], _, r_one, rfl, ?_⟩
  refine ⟨fun _ => ?_, fun h => absurd h (by first | decide | simp)⟩
  refine ⟨_, law_of (-3) 0 1, rfl, ?_⟩
  refine ⟨_, r_sameK [one, one, ⟨-3, 0, 1⟩, one, one, one, one, one] [one, one, ⟨-3, 0, 1⟩, one, one, one, one, one] (by decide), rfl, ?_⟩
  rfl
end Go.Pv
