/- The law BandRestores. -/
import Derived.Test.YtaaijmojlodefaaBm
import Derived.Test.YtaaijmojlodefaaPlBandBm
namespace Go.Pv
open Go.Vc
open Go.Proofs
set_option maxRecDepth 10000

theorem r_sameSpX {x y : List Spec} (e : x = y) (h1 : y.length ≤ 1000000) (h2 : ∀ s ∈ y, s.v.length ≤ 1000000) : Ret Try.prog 28 [sl x, sl y] [] (.p (bl true)) := by
  subst e
  have := r_sameSp x x h1 h2
  simpa using this

theorem bandRestores (a b : List (List Cx)) (l : List Spec) (ha : ∀ r ∈ a, ∀ c ∈ r, Enc.ok c) (hb : ∀ r ∈ b, ∀ c ∈ r, Enc.ok c) (hl : ∀ s ∈ l, Enc.ok s) (hv : ∀ s ∈ l, s.v.length ≤ 9223372036854775807) : Ret Try.prog 7 [sl a, sl b, sl l] [] (.p (bl true)) := by
  refine ret (fn := Try.f7) (by kernel_rfl) (by kernel_rfl) rfl ?_
  refine ⟨[], _, w_alive, rfl, ?_⟩
  refine ⟨_, r_both32 a b, rfl, ?_⟩
  refine ⟨fun h1 => ?_, fun h1 => ?_⟩
  rotate_left
  · rfl
  simp at h1
  obtain ⟨ka, kb⟩ := both32_0 h1
  obtain ⟨a1, a2, a3, a4, a5, a6⟩ := ck32_0 ka
  obtain ⟨b1, b2, b3, b4, b5, b6⟩ := ck32_0 kb
  have ea := row0_get a2
  have eb := row0_get b2
  refine ⟨fun h2 => ?_, fun h2 => ?_⟩
  rotate_left
  · rfl
  simp at h2
  refine ⟨0, rfl, a2, by decide, _, idx a2, rfl, ?_⟩
  refine ⟨0, rfl, b2, by decide, _, idx b2, rfl, ?_⟩
  refine ⟨fun h3 => ?_, fun h3 => ?_⟩
  rotate_left
  · rfl
  simp at h3
  refine ⟨0, rfl, a2, by decide, _, idx a2, rfl, ?_⟩
  refine ⟨_, r_all32 l a.length a[0].length hv, rfl, ?_⟩
  refine ⟨fun h4 => ?_, fun h4 => ?_⟩
  rotate_left
  · rfl
  simp at h4
  rw [← ea] at h4
  have hn : a.length = b.length := by omega
  have hm : (row0 a).length = (row0 b).length := by rw [ea, eb]; omega
  obtain ⟨l1, l2⟩ := all32_0 h4
  have lv := all_vlen h4
  refine ⟨fun h => absurd h (by first | decide | simp), fun _ => ?_⟩
  refine ⟨[], _, b_act a l ha hl hv, rfl, ?_⟩
  refine ⟨[], _, b_inv a ha, rfl, ?_⟩
  refine ⟨[], _, b_mul a b ha hb, rfl, ?_⟩
  have okI : ∀ r ∈ (binv a).1, ∀ c ∈ r, Enc.ok c := fun r hr c hc => ok_valid (binv_valid a r hr c hc)
  have okM : ∀ r ∈ (bmul a b).1, ∀ c ∈ r, Enc.ok c := fun r hr c hc => ok_valid (bmul_valid a b r hr c hc)
  have okP : ∀ s ∈ (bact a l).1, Enc.ok s := bact_enc hl
  refine ⟨fun h5 => ?gA, fun h5 => ?gB⟩
  case' gA =>
    refine ⟨fun h6 => ?gC, fun h6 => ?gD⟩
    case' gC =>
      simp at h5 h6
      refine ⟨[], _, b_act (binv a).1 (bact a l).1 okI okP (bact_vlen a l), rfl, ?_⟩
      refine ⟨fun h7 => ?gE, fun h7 => ?gF⟩
      case' gE =>
        simp at h7
        refine ⟨[], _, r_sameSpX (band_inv h5 h6 h7) (by omega) (fun s hs => by have := lv s hs; omega), rfl, ?_⟩
        refine ⟨fun h => absurd h (by first | decide | simp), fun _ => ?_⟩
  all_goals
    refine ⟨fun t1 => ?_, fun t1 => ?_⟩
    rotate_left
    · rfl
    refine ⟨fun t2 => ?_, fun t2 => ?_⟩
    rotate_left
    · rfl
    simp at t1 t2
    refine ⟨[], _, b_act b (bact a l).1 hb okP (bact_vlen a l), rfl, ?_⟩
    refine ⟨[], _, b_act (bmul a b).1 l okM hl hv, rfl, ?_⟩
    refine ⟨fun t3 => ?_, fun t3 => ?_⟩
    rotate_left
    · rfl
    refine ⟨fun t4 => ?_, fun t4 => ?_⟩
    rotate_left
    · rfl
    simp at t3 t4
    refine ⟨[], _, r_sameSpX (band_mul h1 hn hm t1 t2 t3 t4) (by have := (sz_act (bmul a b).1 l).1; omega) (fun s hs => by have := (sz_act (bmul a b).1 l).2 s hs; omega), rfl, ?_⟩
    refine ⟨fun h => absurd h (by first | decide | simp), fun _ => ?_⟩
    rfl
end Go.Pv
