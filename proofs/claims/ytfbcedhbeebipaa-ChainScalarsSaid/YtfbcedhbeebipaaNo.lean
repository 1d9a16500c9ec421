/- The law ChainOne, of the code. -/
import Derived.Test.YtfbcedhbeebipaaNm
import Derived.Test.YtfbcedhbeebipaaPlChainGm
namespace Go.Pv
open Go.Vc
open Go.Proofs
set_option maxRecDepth 10000

theorem tab_enc {f : Nat → Nat → Jn} {n m : Nat} (hn : n ≤ 8) (hm : m ≤ 16) (h : ∀ i, i < n → ∀ c, c < m → (f i c).valid) : Enc.ok (tabJ f n m) := by
  refine ⟨by rw [tabJ_len]; unfold maxLen; omega, fun r hr => ?_⟩
  simp only [tabJ, List.mem_map, List.mem_range] at hr
  obtain ⟨i, hi, rfl⟩ := hr
  refine ⟨by simp; unfold maxLen; omega, fun j hj => ?_⟩
  simp only [List.mem_map, List.mem_range] at hj
  obtain ⟨c, hc, rfl⟩ := hj
  exact jok (h i hi c hc)

theorem chcomp_enc {l : List Stg} {n m : Int} (h : (chcomp l n m).2 = 0) : Enc.ok (chcomp l n m).1 := by
  obtain ⟨h1, h2⟩ := chcomp_0 h
  obtain ⟨k1, k2, k3⟩ := ck34_0 h1
  rw [chcomp_ok h]
  refine ⟨⟨by show (0 : Int) ≤ 5; decide, by show (5 : Int) ≤ 255; decide⟩, nil_enc, nil_enc, nil_enc, nil_enc, ?_⟩
  exact tab_enc (by omega) (by omega) fun i hi c hc => (comp_v l (cerr_0 (h2 i hi c hc)).1).1

theorem chcomp_k5 {l : List Stg} {n m : Int} (h : (chcomp l n m).2 = 0) : (chcomp l n m).1.kind = 5 := by rw [chcomp_ok h]

theorem sameC {x y : List Cube} (h : x = y) (h1 : x.length ≤ 64) (h2 : ∀ c ∈ x, c.v.length ≤ 16) : Ret Try.prog 20 [sl x, sl y] [] (.p (bl true)) := by
  subst h
  exact same3 (by omega) fun c hc => by have := h2 c hc; omega

theorem k_act0 {l : List Stg} {n m : Int} {cs : List Cube} (hl : ∀ s ∈ l, Enc.ok s) (hc : ∀ c ∈ cs, Enc.ok c) (h : (chact l n m cs).2 = 0) : Ret Try.prog 17 [sl l, i64 n, i64 m, sl cs] [] (resCu ((chact l n m cs).1, 0)) := by
  rw [← h]; exact k_act l n m cs hl hc
theorem k_act1 {l : List Stg} {n m : Int} {cs : List Cube} (hl : ∀ s ∈ l, Enc.ok s) (hc : ∀ c ∈ cs, Enc.ok c) (h : chact l n m cs = ([], 16)) : Ret Try.prog 17 [sl l, i64 n, i64 m, sl cs] [] (resCu ([], 16)) := by
  rw [← h]; exact k_act l n m cs hl hc
theorem k_comp0 {l : List Stg} {n m : Int} (hl : ∀ s ∈ l, Enc.ok s) (h : (chcomp l n m).2 = 0) : Ret Try.prog 12 [sl l, i64 n, i64 m] [] (resSt ((chcomp l n m).1, 0)) := by
  rw [← h]; exact k_compose l n m hl
theorem k_comp1 {l : List Stg} {n m : Int} (hl : ∀ s ∈ l, Enc.ok s) (h : chcomp l n m = (s0, 16)) : Ret Try.prog 12 [sl l, i64 n, i64 m] [] (resSt (s0, 16)) := by
  rw [← h]; exact k_compose l n m hl

set_option maxHeartbeats 4000000 in
theorem chainOne (l : List Stg) (n m : Int) (cs : List Cube) (hl : ∀ s ∈ l, Enc.ok s) (hc : ∀ c ∈ cs, Enc.ok c) : Ret Try.prog 7 [sl l, i64 n, i64 m, sl cs] [] (.p (bl true)) := by
  refine ret (fn := Try.f7) (by kernel_rfl) (by kernel_rfl) rfl ?_
  refine ⟨[], _, w_alive, rfl, ?_⟩
  refine ⟨[], _, r_check34 l n m hl, rfl, ?_⟩
  refine ⟨fun h1 => ?_, fun h1 => ?_⟩
  rotate_left
  · rfl
  simp at h1
  refine ⟨[], _, r_cubes34 cs n m hc, rfl, ?_⟩
  refine ⟨fun h2 => ?_, fun h2 => ?_⟩
  rotate_left
  · rfl
  simp at h2
  refine ⟨fun h => absurd h (by first | decide | simp), fun _ => ?_⟩
  rcases chact_err (cs := cs) h1 h2 with za | za
  · refine ⟨[], _, k_act0 hl hc za, rfl, ?_⟩
    rcases chcomp_err h1 with zb | zb
    · refine ⟨[], _, k_comp0 hl zb, rfl, ?_⟩
      refine ⟨fun h => absurd h (by first | decide | simp), fun _ => ?_⟩
      refine ⟨fun h => absurd h (by first | decide | simp), fun _ => ?_⟩
      refine ⟨fun h => absurd h (by first | decide | simp), fun _ => ?_⟩
      refine ⟨[], _, (show Ret Try.prog 32 [stg (chcomp l n m).1, i64 n, i64 m] [] (.p (bl true)) by have := r_stage (chcomp l n m).1 n m (chcomp_enc zb); rw [decide_eq_true (chcomp_good zb)] at this; exact this), rfl, ?_⟩
      refine ⟨fun _ => ?_, fun h => absurd h (by first | decide | simp)⟩
      refine ⟨fun h3 => ?_, fun h3 => ?_⟩
      · have h3 : ((chcomp l n m).1.kind != 5) = true := h3
        rw [chcomp_k5 zb] at h3
        exact absurd h3 (by decide)
      have hC : ∀ s ∈ [(chcomp l n m).1], Enc.ok s := by simpa using chcomp_enc zb
      refine ⟨[], _, k_act [(chcomp l n m).1] n m cs hC hc, rfl, ?_⟩
      refine ⟨fun _ => ?_, fun h => absurd h (by first | decide | simp)⟩
      refine ⟨fun _ => ?_, fun h => absurd h (by first | decide | simp)⟩
      refine ⟨fun h4 => ?_, fun h4 => ?_⟩
      · simp at h4
        refine ⟨[], _, sameC (one_act za zb h4) chact_small.1 chact_small.2, rfl, ?_⟩
        rfl
      · rfl
    · refine ⟨[], _, k_comp1 hl zb, rfl, ?_⟩
      refine ⟨fun h => absurd h (by first | decide | simp), fun _ => ?_⟩
      refine ⟨fun _ => ?_, fun h => absurd h (by first | decide | simp)⟩
      refine ⟨fun h => absurd h (by first | decide | simp), fun _ => ?_⟩
      refine ⟨fun _ => ?_, fun h => absurd h (by first | decide | simp)⟩
      rfl
  · refine ⟨[], _, k_act1 hl hc za, rfl, ?_⟩
    rcases chcomp_err h1 with zb | zb
    · refine ⟨[], _, k_comp0 hl zb, rfl, ?_⟩
      refine ⟨fun _ => ?_, fun h => absurd h (by first | decide | simp)⟩
      refine ⟨fun _ => ?_, fun h => absurd h (by first | decide | simp)⟩
      refine ⟨fun h => absurd h (by first | decide | simp), fun _ => ?_⟩
      refine ⟨fun h => absurd h (by first | decide | simp), fun _ => ?_⟩
      refine ⟨[], _, (show Ret Try.prog 32 [stg (chcomp l n m).1, i64 n, i64 m] [] (.p (bl true)) by have := r_stage (chcomp l n m).1 n m (chcomp_enc zb); rw [decide_eq_true (chcomp_good zb)] at this; exact this), rfl, ?_⟩
      refine ⟨fun _ => ?_, fun h => absurd h (by first | decide | simp)⟩
      refine ⟨fun h3 => ?_, fun h3 => ?_⟩
      · have h3 : ((chcomp l n m).1.kind != 5) = true := h3
        rw [chcomp_k5 zb] at h3
        exact absurd h3 (by decide)
      have hC : ∀ s ∈ [(chcomp l n m).1], Enc.ok s := by simpa using chcomp_enc zb
      refine ⟨[], _, k_act [(chcomp l n m).1] n m cs hC hc, rfl, ?_⟩
      refine ⟨fun _ => ?_, fun h => absurd h (by first | decide | simp)⟩
      refine ⟨fun h => absurd h (by first | decide | simp), fun _ => ?_⟩
      rfl
    · refine ⟨[], _, k_comp1 hl zb, rfl, ?_⟩
      refine ⟨fun _ => ?_, fun h => absurd h (by first | decide | simp)⟩
      refine ⟨fun _ => ?_, fun h => absurd h (by first | decide | simp)⟩
      refine ⟨fun _ => ?_, fun h => absurd h (by first | decide | simp)⟩
      refine ⟨fun h => absurd h (by first | decide | simp), fun _ => ?_⟩
      refine ⟨fun _ => ?_, fun h => absurd h (by first | decide | simp)⟩
      rfl
end Go.Pv
