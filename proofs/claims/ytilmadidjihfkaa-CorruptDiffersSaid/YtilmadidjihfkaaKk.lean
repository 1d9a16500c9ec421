/- Contracts: closures of series compared, the code's. -/
import Derived.Test.YtilmadidjihfkaaKi
import Derived.Test.YtilmadidjihfkaaCs
import Derived.Test.YtilmadidjihfkaaPlCxm
namespace Go.Pv
open Go.Vc
open Go.Proofs
set_option maxRecDepth 10000
set_option maxHeartbeats 4000000

theorem k_sameAmp (a b : List Vis) (i j k n : Int) (ha : ∀ v ∈ a, Enc.ok v) (hb : ∀ v ∈ b, Enc.ok v) : Ret Try.prog 70 [sl a, sl b, .agg [i64 i, i64 j, i64 k, i64 n]] [] (.p (bl (amB a b i j k n))) := by
  refine ret (fn := Try.f70) (by kernel_rfl) (by kernel_rfl) rfl ?_
  refine ⟨0, rfl, by decide, ?_⟩
  refine ⟨_, rfl, rfl, ?_⟩
  refine ⟨1, rfl, by decide, ?_⟩
  refine ⟨_, rfl, rfl, ?_⟩
  refine ⟨2, rfl, by decide, ?_⟩
  refine ⟨_, rfl, rfl, ?_⟩
  refine ⟨3, rfl, by decide, ?_⟩
  refine ⟨_, rfl, rfl, ?_⟩
  refine ⟨[], _, l_amp a i j k n ha, rfl, ?_⟩
  refine ⟨fun h1 => ?_, fun h1 => ?_⟩
  · have h1 : (amp a i j k n).2 ≠ 0 := by simpa using h1
    rw [amB, decide_eq_true (fun h => absurd h h1)]; rfl
  have h1 : (amp a i j k n).2 = 0 := by simpa using h1
  refine ⟨0, rfl, by decide, ?_⟩
  refine ⟨_, rfl, rfl, ?_⟩
  refine ⟨1, rfl, by decide, ?_⟩
  refine ⟨_, rfl, rfl, ?_⟩
  refine ⟨2, rfl, by decide, ?_⟩
  refine ⟨_, rfl, rfl, ?_⟩
  refine ⟨3, rfl, by decide, ?_⟩
  refine ⟨_, rfl, rfl, ?_⟩
  refine ⟨[], _, l_amp b i j k n hb, rfl, ?_⟩
  refine ⟨fun h2 => ?_, fun h2 => ?_⟩
  rotate_left
  · have h2 : (amp b i j k n).2 ≠ 0 := by simpa using h2
    rw [amB, decide_eq_true (fun _ h => absurd h h2)]; rfl
  have h2 : (amp b i j k n).2 = 0 := by simpa using h2
  show SV.p (bl (eqPL _ _)) = _
  rw [eqPL_fr, amB]
  simp [h1, h2]

theorem k_samePh (a b : List Vis) (ha : ∀ v ∈ a, Enc.ok v) (hb : ∀ v ∈ b, Enc.ok v) (h0 : ck27 a = 0) : Ret Try.prog 49 [sl a, sl b] [] (.tup [.p (bl (phB a b)), .p (i64 0)]) := by
  refine ret (fn := Try.f49) (by kernel_rfl) (by kernel_rfl) rfl ?_
  refine ⟨[], _, l_triples a ha, rfl, ?_⟩
  have ht : (triples a).2 = 0 := by rw [triples, if_neg (by simp [h0])]
  have hn : (triples a).1.length ≤ 512 := by rw [triples, if_neg (by simp [h0])]; exact tris_length a 512
  refine ⟨fun q => absurd q (by rw [ht]; simp), fun _ => ?_⟩
  refine ⟨Nat, { inv := fun k => k ≤ (triples a).1.length ∧ (((triples a).1.take k).all (fun t => phT a b t.list) = true), slots := [(24, fun k => i64 k)],  mu := fun k => (triples a).1.length - k }, 0, ⟨⟨rfl, trivial⟩, trivial, (by repeat' first | exact trivial | rfl | apply And.intro), Nat.zero_le _, rfl⟩, ?_⟩
  intro k ⟨hk, hall⟩
  refine ⟨fun h2 => ?_, fun h2 => ?_⟩
  · simp at h2
    have bad : phT a b ((triples a).1[k]).list = false → phB a b = false := fun h => by
      unfold phB
      rw [← List.take_append_drop (k + 1) (triples a).1, List.all_append, all_take_succ _ h2, h]; simp
    have good : phT a b ((triples a).1[k]).list = true → ((triples a).1.take (k + 1)).all (fun t => phT a b t.list) = true := fun h => by
      rw [all_take_succ _ h2, hall, h]; rfl
    refine ⟨k, rfl, h2, by decide, _, idx h2, rfl, ?_⟩
    refine ⟨Nat.le_refl _, ?_⟩
    generalize (triples a).1[k] = t at *
    refine ⟨rfl, Nat.zero_le _, Nat.le_refl _, ?_⟩
    refine ⟨[], _, l_phase a t.list ha (by show 3 ≤ _; omega), rfl, ?_⟩
    refine ⟨rfl, Nat.zero_le _, Nat.le_refl _, ?_⟩
    refine ⟨[], _, l_phase b t.list hb (by show 3 ≤ _; omega), rfl, ?_⟩
    refine ⟨fun h3 => ?_, fun h3 => ?_⟩
    focus
      refine ⟨fun h4 => ?_, fun h4 => ?_⟩
      focus
        have h3 : (phase a t.list).2 = 0 := by simpa using h3
        have h4 : (phase b t.list).2 = 0 := by simpa using h4
        refine ⟨fun h5 => ?_, fun h5 => ?_⟩
        focus
          have h5 : (!eqPL (Enc.cs (phase a t.list).1) (Enc.cs (phase b t.list).1)) = true := h5
          rw [eqPL_cxK] at h5
          simp at h5
          rw [bad (by rw [phT, decide_eq_false]; exact fun h => h5 (h h3 h4))]; rfl
        have h5 : (!eqPL (Enc.cs (phase a t.list).1) (Enc.cs (phase b t.list).1)) = false := h5
        rw [eqPL_cxK] at h5
        simp at h5
        have gd := good (by rw [phT, decide_eq_true]; exact fun _ _ => h5)
      rotate_left
      focus
        have h4 : (phase b t.list).2 ≠ 0 := by simpa using h4
        have gd := good (by rw [phT, decide_eq_true]; exact fun _ h => absurd h h4)
    rotate_left 2
    focus
      have h3 : (phase a t.list).2 ≠ 0 := by simpa using h3
      have gd := good (by rw [phT, decide_eq_true]; exact fun h => absurd h h3)
    all_goals
      refine ⟨k + 1, by show _ < _; simp; omega, ⟨rfl, rfl⟩, ⟨by show PV.v (.int _ _) = _; rw [succ_w (by omega)], trivial⟩, trivial, (by repeat' first | exact trivial | rfl | apply And.intro), h2, gd⟩
  · simp at h2
    have : k = (triples a).1.length := by omega
    subst this
    rw [List.take_length] at hall
    rw [phB, hall]; rfl
end Go.Pv
