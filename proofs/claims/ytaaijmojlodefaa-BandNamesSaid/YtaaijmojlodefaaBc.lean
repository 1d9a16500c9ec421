/- Contracts of bandpasses: Mul, Inv, Flat. -/
import Derived.Test.YtaaijmojlodefaaBb
import Derived.Test.YtaaijmojlodefaaBg
namespace Go.Pv
open Go.Vc
open Go.Proofs
set_option maxRecDepth 10000

theorem ck_oks {g : List Cx} (h : ck26 g = 0) : ∀ c ∈ g, Enc.ok c := fun c hc => ok_valid ((ck26_0 h).2.2 c hc).1

theorem b_both (a b : List (List Cx)) (ha : ∀ r ∈ a, ∀ c ∈ r, Enc.ok c) (hb : ∀ r ∈ b, ∀ c ∈ r, Enc.ok c) : Ret Try.prog 39 [sl a, sl b] [] (.p (i64 (both32 a b))) := by
  refine ret (fn := Try.f39) (by kernel_rfl) (by kernel_rfl) rfl ?_
  refine ⟨[], _, b_check a ha, rfl, ?_⟩
  refine ⟨fun h1 => ?_, fun h1 => ?_⟩
  · simp at h1
    rw [both32, if_pos h1]; rfl
  simp at h1
  refine ⟨[], _, b_check b hb, rfl, ?_⟩
  rw [both32, if_neg (by simp [h1])]; rfl

theorem b_mul1 (a b : List (List Cx)) (c : Nat) (ha : ck32 a = 0) (hb : ck32 b = 0) (h1 : c < (row0 a).length) (h2 : c < (row0 b).length) : Ret Try.prog 41 [i64 c, .fp true [sl a], .fp true [sl b]] [] (resCs (tmul (col32 a c) (col32 b c))) := by
  obtain ⟨a1, a2, a3, a4, a5, a6⟩ := ck32_0 ha
  obtain ⟨b1, b2, b3, b4, b5, b6⟩ := ck32_0 hb
  refine ret (fn := Try.f41) (by kernel_rfl) (by kernel_rfl) rfl ?_
  refine ⟨_, b_col a c (by omega) (fun r hr => by have := a5 r hr; omega), rfl, ?_⟩
  refine ⟨_, b_col b c (by omega) (fun r hr => by have := b5 r hr; omega), rfl, ?_⟩
  refine ⟨_, g_mul (col32 a c) (col32 b c) (ck_oks (col32_ck ha h1)) (ck_oks (col32_ck hb h2)), rfl, ?_⟩
  rfl

theorem b_inv1 (a : List (List Cx)) (c : Nat) (ha : ck32 a = 0) (h1 : c < (row0 a).length) : Ret Try.prog 45 [i64 c, .fp true [sl a]] [] (resCs (tinv (col32 a c))) := by
  obtain ⟨a1, a2, a3, a4, a5, a6⟩ := ck32_0 ha
  refine ret (fn := Try.f45) (by kernel_rfl) (by kernel_rfl) rfl ?_
  refine ⟨[], _, b_col a c (by omega) (fun r hr => by have := a5 r hr; omega), rfl, ?_⟩
  refine ⟨[], _, g_inv (col32 a c) (ck_oks (col32_ck ha h1)), rfl, ?_⟩
  rfl

theorem b_flat1 (g : List Cx) (c : Nat) : Ret Try.prog 50 [i64 c, .fp true [sl g]] [] (resCs (g, 0)) := by
  refine ret (fn := Try.f50) (by kernel_rfl) (by kernel_rfl) rfl ?_
  rfl

theorem b_mul (a b : List (List Cx)) (ha : ∀ r ∈ a, ∀ c ∈ r, Enc.ok c) (hb : ∀ r ∈ b, ∀ c ∈ r, Enc.ok c) : Ret Try.prog 11 [sl a, sl b] [] (resBs (bmul a b)) := by
  refine ret (fn := Try.f11) (by kernel_rfl) (by kernel_rfl) rfl ?_
  refine ⟨[], _, b_both a b ha hb, rfl, ?_⟩
  refine ⟨fun h1 => ?_, fun h1 => ?_⟩
  · simp at h1
    rw [bmul, if_pos h1]; rfl
  simp at h1
  obtain ⟨ka, kb⟩ := both32_0 h1
  obtain ⟨a1, a2, a3, a4, a5, a6⟩ := ck32_0 ka
  obtain ⟨b1, b2, b3, b4, b5, b6⟩ := ck32_0 kb
  have ea := row0_get a2
  have eb := row0_get b2
  refine ⟨fun h2 => ?_, fun h2 => ?_⟩
  rotate_left
  · simp at h2
    show SV.tup [.p (.sl false 0 []), .p (i64 2)] = resBs _
    rw [bmul, if_neg (by simp [h1]), if_pos (.inl (by omega))]; rfl
  simp at h2
  refine ⟨0, rfl, a2, by decide, _, idx a2, rfl, ?_⟩
  refine ⟨0, rfl, b2, by decide, _, idx b2, rfl, ?_⟩
  refine ⟨fun h3 => ?_, fun h3 => ?_⟩
  · simp at h3
    show SV.tup [.p (.sl false 0 []), .p (i64 2)] = resBs _
    rw [bmul, if_neg (by simp [h1]), if_pos (.inr (by rw [ea, eb]; omega))]; rfl
  simp at h3
  refine ⟨0, rfl, a2, by decide, _, idx a2, rfl, ?_⟩
  refine ⟨_, (show Ret Try.prog 40 [i64 a.length, i64 a[0].length, .fn (.func 41) [] [.fp true [sl a], .fp true [sl b]]] [] (resBs (built a.length a[0].length fun c => tmul (col32 a c) (col32 b c))) from b_buildM a.length a[0].length a1 (by rw [← ea]; exact a4) [sl a] [sl b] _ (fun c hc => b_mul1 a b c ka kb (by rw [ea]; exact hc) (by rw [eb]; omega)) (fun c hc e => by rw [tmul_len e, col32_length])), rfl, ?_⟩
  rw [bmul, if_neg (by simp [h1]), if_neg (by rw [ea, eb]; omega), ea]; rfl

theorem b_inv (b : List (List Cx)) (hb : ∀ r ∈ b, ∀ c ∈ r, Enc.ok c) : Ret Try.prog 13 [sl b] [] (resBs (binv b)) := by
  refine ret (fn := Try.f13) (by kernel_rfl) (by kernel_rfl) rfl ?_
  refine ⟨[], _, b_check b hb, rfl, ?_⟩
  refine ⟨fun h1 => ?_, fun h1 => ?_⟩
  · simp at h1
    rw [binv, if_pos h1]; rfl
  simp at h1
  obtain ⟨b1, b2, b3, b4, b5, b6⟩ := ck32_0 h1
  have eb := row0_get b2
  refine ⟨0, rfl, b2, by decide, _, idx b2, rfl, ?_⟩
  refine ⟨_, (show Ret Try.prog 40 [i64 b.length, i64 b[0].length, .fn (.func 45) [] [.fp true [sl b]]] [] (resBs (built b.length b[0].length fun c => tinv (col32 b c))) from b_buildI b.length b[0].length b1 (by rw [← eb]; exact b4) [sl b] _ (fun c hc => b_inv1 b c h1 (by rw [eb]; exact hc)) (fun c hc e => by rw [tinv_len e, col32_length])), rfl, ?_⟩
  rw [binv, if_neg (by simp [h1]), eb]; rfl

theorem b_flat (g : List Cx) (n : Int) (hg : ∀ c ∈ g, Enc.ok c) : Ret Try.prog 15 [sl g, i64 n] [] (resBs (bflat g n)) := by
  refine ret (fn := Try.f15) (by kernel_rfl) (by kernel_rfl) rfl ?_
  refine ⟨[], _, g_check g hg, rfl, ?_⟩
  refine ⟨fun h1 => ?_, fun h1 => ?_⟩
  · simp at h1
    rw [bflat, if_pos h1]; rfl
  simp at h1
  obtain ⟨b1, b2, b3⟩ := ck26_0 h1
  refine ⟨fun h2 => ?_, fun h2 => ?_⟩
  rotate_left
  · simp at h2
    show SV.tup [.p (.sl false 0 []), .p (i64 2)] = resBs _
    rw [bflat, if_neg (by simp [h1]), if_pos (.inl h2)]; rfl
  simp at h2
  refine ⟨fun h3 => ?_, fun h3 => ?_⟩
  · simp at h3
    show SV.tup [.p (.sl false 0 []), .p (i64 2)] = resBs _
    rw [bflat, if_neg (by simp [h1]), if_pos (.inr h3)]; rfl
  simp at h3
  obtain ⟨m, rfl⟩ := Int.eq_ofNat_of_zero_le (show 0 ≤ n by omega)
  refine ⟨[], _, (show Ret Try.prog 40 [i64 g.length, i64 m, .fn (.func 50) [] [.fp true [sl g]]] [] (resBs (built g.length m fun _ => (g, 0))) from b_buildF g.length m b1 (by omega) [sl g] _ (fun c _ => b_flat1 g c) (fun _ _ _ => rfl)), rfl, ?_⟩
  rw [bflat, if_neg (by simp [h1]), if_neg (by omega)]; rfl
end Go.Pv
