/- The law ClosureGets, of the code. -/
import Derived.Test.YtikimjgbbbajoaaCt
namespace Go.Pv
open Go.Vc
open Go.Proofs
set_option maxRecDepth 10000

theorem closureGets (l : List Vis) (i j : Int) (hl : ∀ v ∈ l, Enc.ok v) : Ret Try.prog 3 [sl l, i64 i, i64 j] [] (.p (bl true)) := by
  refine ret (fn := Try.f3) (by kernel_rfl) (by kernel_rfl) rfl ?_
  refine ⟨fun h1 => ?_, fun h1 => ?_⟩
  · rfl
  simp at h1
  refine ⟨[], _, l_get l i j hl, rfl, ?_⟩
  refine ⟨[], _, r_get l i j, rfl, ?_⟩
  refine ⟨[], _, l_triples l hl, rfl, ?_⟩
  refine ⟨[], _, r_triples l, rfl, ?_⟩
  refine ⟨[], _, l_check l hl, rfl, ?_⟩
  refine ⟨[], _, r_check27 l, rfl, ?_⟩
  have hlen : (triples l).1.length ≤ 1000000 := by
    unfold triples
    split
    · simp
    · have := tris_length l 512
      simp only; omega
  refine ⟨fun h2 => ?_, fun h2 => ?_⟩
  rotate_left
  · simp at h2
  refine ⟨fun h3 => ?_, fun h3 => ?_⟩
  rotate_left
  · have h3 : eqPL [i64 (get27 l i j).1.re, i64 (get27 l i j).1.im, i64 (get27 l i j).1.den] [i64 (get27 l i j).1.re, i64 (get27 l i j).1.im, i64 (get27 l i j).1.den] = false := h3
    rw [eqPL_cx] at h3
    simp at h3
  refine ⟨fun h4 => ?_, fun h4 => ?_⟩
  rotate_left
  · simp at h4
  refine ⟨[], _, r_same27 (triples l).1 (triples l).1 hlen, rfl, ?_⟩
  refine ⟨fun h5 => ?_, fun h5 => ?_⟩
  rotate_left
  · simp at h5
  show SV.p (bl _) = _
  simp
end Go.Pv
