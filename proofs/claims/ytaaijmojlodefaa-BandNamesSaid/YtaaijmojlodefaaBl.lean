/- The laws BandTables and BandActs. -/
import Derived.Test.YtaaijmojlodefaaBk
namespace Go.Pv
open Go.Vc
open Go.Proofs
set_option maxRecDepth 10000

theorem r_sameX {x : List (List Cx)} (h : sz32 x) : Ret Try.prog 21 [sl x, sl x] [] (.p (bl true)) := by
  have := r_same32 x x (by have := h.1; omega) (fun r hr => by have := h.2 r hr; omega)
  simpa using this

theorem bandTables (a b : List (List Cx)) (g : List Cx) (n : Int) (la : a.length ≤ 9223372036854775807) (lb : b.length ≤ 9223372036854775807) (ha : ∀ r ∈ a, ∀ c ∈ r, Enc.ok c) (hb : ∀ r ∈ b, ∀ c ∈ r, Enc.ok c) (hg : ∀ c ∈ g, Enc.ok c) : Ret Try.prog 3 [sl a, sl b, sl g, i64 n] [] (.p (bl true)) := by
  refine ret (fn := Try.f3) (by kernel_rfl) (by kernel_rfl) rfl ?_
  refine ⟨[], _, r_great32 a [] la (by simp), rfl, ?_⟩
  refine ⟨fun h1 => ?_, fun h1 => ?_⟩
  rotate_left
  · rfl
  refine ⟨[], _, r_great32 b [] lb (by simp), rfl, ?_⟩
  refine ⟨fun h2 => ?_, fun h2 => ?_⟩
  rotate_left
  · rfl
  refine ⟨fun h3 => ?_, fun h3 => ?_⟩
  · rfl
  refine ⟨[], _, b_mul a b ha hb, rfl, ?_⟩
  refine ⟨[], _, r_mul32 a b, rfl, ?_⟩
  refine ⟨[], _, b_inv a ha, rfl, ?_⟩
  refine ⟨[], _, r_inv32 a, rfl, ?_⟩
  refine ⟨[], _, b_flat g n hg, rfl, ?_⟩
  refine ⟨[], _, r_flat32 g n, rfl, ?_⟩
  refine ⟨[], _, b_split a n ha, rfl, ?_⟩
  refine ⟨[], _, r_split32 a n, rfl, ?_⟩
  refine ⟨[], _, b_join a b ha hb, rfl, ?_⟩
  refine ⟨[], _, r_join32 a b, rfl, ?_⟩
  refine ⟨[], _, r_sameX (sz_mul a b), rfl, ?_⟩
  refine ⟨fun _ => ?_, fun h => absurd h (by first | decide | simp)⟩
  refine ⟨fun _ => ?_, fun h => absurd h (by first | decide | simp)⟩
  refine ⟨[], _, r_sameX (sz_inv a), rfl, ?_⟩
  refine ⟨fun _ => ?_, fun h => absurd h (by first | decide | simp)⟩
  refine ⟨fun _ => ?_, fun h => absurd h (by first | decide | simp)⟩
  refine ⟨[], _, r_sameX (sz_flat g n), rfl, ?_⟩
  refine ⟨fun _ => ?_, fun h => absurd h (by first | decide | simp)⟩
  refine ⟨fun _ => ?_, fun h => absurd h (by first | decide | simp)⟩
  refine ⟨[], _, r_sameX (sz_split a n).1, rfl, ?_⟩
  refine ⟨fun _ => ?_, fun h => absurd h (by first | decide | simp)⟩
  refine ⟨[], _, r_sameX (sz_split a n).2, rfl, ?_⟩
  refine ⟨fun _ => ?_, fun h => absurd h (by first | decide | simp)⟩
  refine ⟨fun _ => ?_, fun h => absurd h (by first | decide | simp)⟩
  refine ⟨[], _, r_sameX (sz_join a b), rfl, ?_⟩
  refine ⟨fun _ => ?_, fun h => absurd h (by first | decide | simp)⟩
  show SV.p (bl _) = _
  simp

theorem bandActs (b : List (List Cx)) (l : List Spec) (w : Int) (hw : I64 w) (lb : b.length ≤ 9223372036854775807) (ll : l.length ≤ 9223372036854775807) (hb : ∀ r ∈ b, ∀ c ∈ r, Enc.ok c) (hl : ∀ s ∈ l, Enc.ok s) : Ret Try.prog 4 [sl b, sl l, i64 w] [] (.p (bl true)) := by
  refine ret (fn := Try.f4) (by kernel_rfl) (by kernel_rfl) rfl ?_
  refine ⟨[], _, r_great32 b l lb ll, rfl, ?_⟩
  refine ⟨fun h1 => ?_, fun h1 => ?_⟩
  · rfl
  have hv : ∀ s ∈ l, s.v.length ≤ 9223372036854775807 := fun s hs => by
    have h1 : decide (gr32 b l) = false := h1
    rw [decide_eq_false_iff_not] at h1
    by_cases h : 70 < s.v.length
    · exact absurd (.inr (.inl ⟨s, hs, h⟩)) h1
    · omega
  refine ⟨[], _, b_act b l hb hl hv, rfl, ?_⟩
  refine ⟨[], _, r_act32 b l hv, rfl, ?_⟩
  refine ⟨[], _, b_mean b w hw hb, rfl, ?_⟩
  refine ⟨[], _, r_mean32 b w hw, rfl, ?_⟩
  refine ⟨[], _, b_check b hb, rfl, ?_⟩
  refine ⟨[], _, r_check32 b, rfl, ?_⟩
  refine ⟨fun _ => ?_, fun h => absurd h (by first | decide | simp)⟩
  refine ⟨[], _, (show Ret Try.prog 28 [sl (bact b l).1, sl (bact b l).1] [] (.p (bl true)) by have := r_sameSp (bact b l).1 (bact b l).1 (by have := (sz_act b l).1; omega) (fun s hs => by have := (sz_act b l).2 s hs; omega); simpa using this), rfl, ?_⟩
  refine ⟨fun _ => ?_, fun h => absurd h (by first | decide | simp)⟩
  refine ⟨fun _ => ?_, fun h => absurd h (by first | decide | simp)⟩
  refine ⟨[], _, r_sameX (sz_mean b w), rfl, ?_⟩
  refine ⟨fun _ => ?_, fun h => absurd h (by first | decide | simp)⟩
  show SV.p (bl _) = _
  simp
end Go.Pv
