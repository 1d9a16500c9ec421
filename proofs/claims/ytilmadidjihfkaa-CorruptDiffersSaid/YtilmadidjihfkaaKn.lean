/- The law CorruptSpoils, of the code. -/
import Derived.Test.YtilmadidjihfkaaKm
namespace Go.Pv
open Go.Vc
open Go.Proofs
set_option maxRecDepth 10000
set_option maxHeartbeats 4000000

theorem spo35_small (ch : List Cx → List Cx × Int) (s : List (List Vis)) (l : List Spo) : (spo35 ch s l).1.length ≤ 32 ∧ ∀ r ∈ (spo35 ch s l).1, r.length ≤ 64 := by
  by_cases h : (spo35 ch s l).2 = 0
  · exact spo35_len h
  · have : (spo35 ch s l).1 = [] := by
      unfold spo35 at h ⊢
      split
      · rfl
      · split
        · rfl
        · split
          · rfl
          · split
            · rfl
            · rename_i h1 h2 h3 h4
              rw [if_neg h1, if_neg h2, if_neg h3, if_neg h4] at h
              exact absurd rfl h
    rw [this]; simp

theorem corruptSpoils (s r : List (List Vis)) (l : List Spo) (hn : s.length ≤ 9223372036854775807) (hn' : r.length ≤ 9223372036854775807) (hs : ∀ l ∈ s, ∀ v ∈ l, Enc.ok v) (hr : ∀ l ∈ r, ∀ v ∈ l, Enc.ok v) (hl : ∀ s ∈ l, Enc.ok s) : Ret Try.prog 7 [sl s, sl r, sl l] [] (.p (bl true)) := by
  refine ret (fn := Try.f7) (by kernel_rfl) (by kernel_rfl) rfl ?_
  have same : ∀ ch, Ret Try.prog 21 [sl (spo35 ch s l).1, sl (spo35 ch s l).1] [] (.p (bl true)) := fun ch => by
    obtain ⟨q1, q2⟩ := spo35_small ch s l
    have := r_same35 (spo35 ch s l).1 (spo35 ch s l).1 (by omega) (fun r hr => by have := q2 r hr; omega)
    rw [decide_eq_true rfl] at this
    exact this
  refine ⟨[], _, r_great35 s hn, rfl, ?_⟩
  refine ⟨fun h1 => ?_, fun h1 => ?_⟩
  rotate_left
  · rfl
  refine ⟨[], _, r_great35 r hn', rfl, ?_⟩
  refine ⟨fun h2 => ?_, fun h2 => ?_⟩
  rotate_left
  · rfl
  refine ⟨fun h3 => ?_, fun h3 => ?_⟩
  · rfl
  refine ⟨[], _, k_spoil s l hs hl, rfl, ?_⟩
  refine ⟨[], _, r_spoil s l, rfl, ?_⟩
  refine ⟨[], _, k_undo s l hs hl, rfl, ?_⟩
  refine ⟨[], _, r_undo s l, rfl, ?_⟩
  refine ⟨[], _, k_alike s r hs hr, rfl, ?_⟩
  refine ⟨[], _, r_alike35 s r, rfl, ?_⟩
  refine ⟨[], _, same noch, rfl, ?_⟩
  refine ⟨fun _ => ?_, fun h => absurd h (by first | decide | simp)⟩
  refine ⟨fun _ => ?_, fun h => absurd h (by show ¬ ((_ == _) = false); simp)⟩
  refine ⟨[], _, same tinv, rfl, ?_⟩
  refine ⟨fun _ => ?_, fun h => absurd h (by first | decide | simp)⟩
  refine ⟨fun _ => ?_, fun h => absurd h (by show ¬ ((_ == _) = false); simp)⟩
  refine ⟨fun _ => ?_, fun h => absurd h (by show ¬ ((_ == _) = false); simp)⟩
  show SV.p (bl (_ == _)) = _
  simp
end Go.Pv
