/- ClosureSwaps: the walk. -/
import Derived.Test.YtikimjgbbbajoaaCe
import Derived.Test.YtikimjgbbbajoaaPlAmp
namespace Go.Pv
open Go.Vc
open Go.Proofs
set_option maxRecDepth 10000
set_option maxHeartbeats 4000000

theorem closureSwaps (l : List Vis) (a b c d : Int) (hl : ∀ v ∈ l, Enc.ok v) : Ret Try.prog 6 [sl l, i64 a, i64 b, i64 c, i64 d] [] (.p (bl true)) := by
  refine ret (fn := Try.f6) (by kernel_rfl) (by kernel_rfl) rfl ?_
  refine ⟨[], _, w_alive, rfl, ?_⟩
  refine ⟨[], _, r_check27 l, rfl, ?_⟩
  refine ⟨fun h1 => ?_, fun h1 => ?_⟩
  rotate_left
  · rfl
  have h0 : ck27 l = 0 := by simpa using h1
  refine ⟨fun h => absurd h (by decide), fun _ => ?_⟩
  refine ⟨[], _, l_amp l a b c d hl, rfl, ?_⟩
  refine ⟨[], _, l_amp l a c b d hl, rfl, ?_⟩
  refine ⟨[], _, l_amp l d c b a hl, rfl, ?_⟩
  obtain ⟨s1, s2, s3⟩ := amp_swaps h0 a b c d
  generalize amp l a b c d = x at *
  generalize amp l a c b d = y at *
  generalize amp l d c b a = z at *
  obtain ⟨⟨xn, xd⟩, e⟩ := x
  obtain ⟨⟨yn, yd⟩, f⟩ := y
  obtain ⟨⟨zn, zd⟩, g⟩ := z
  simp only at s1 s2 s3
  have eF : ∀ {p q : Int}, eqPL [i64 xn, i64 xd] [i64 p, i64 q] = decide (xn = p ∧ xd = q) := fun {p q} => by
    rw [Bool.eq_iff_iff]; simp [eqPL, eqP]
  repeat' (refine And.intro (fun _ => ?_) (fun _ => ?_))
  all_goals show SV.p (bl _) = SV.p (bl true)
  all_goals first
    | rfl
    | (exfalso; grind)
    | (rw [eF]; grind)
    | grind
    | skip
end Go.Pv
