/- The law BandParts. -/
import Derived.Test.YtaaijmojlodefaaBn
import Derived.Test.YtaaijmojlodefaaPlBandBm
namespace Go.Pv
open Go.Vc
open Go.Proofs
set_option maxRecDepth 10000

theorem r_sameXX {x y : List (List Cx)} (e : x = y) (h : sz32 y) : Ret Try.prog 21 [sl x, sl y] [] (.p (bl true)) := by
  subst e
  exact r_sameX h

theorem sz_ck {b : List (List Cx)} (h : ck32 b = 0) : sz32 b := by
  obtain ⟨a1, a2, a3, a4, a5, _⟩ := ck32_0 h
  exact ⟨by omega, fun r hr => by rw [a5 r hr]; omega⟩

theorem ck_enc {b : List (List Cx)} (h : ck32 b = 0) : ∀ r ∈ b, ∀ c ∈ r, Enc.ok c := fun r hr c hc => ok_valid ((ck32_0 h).2.2.2.2.2 r hr c hc).1

set_option maxHeartbeats 4000000 in
theorem bandParts (a b : List (List Cx)) (n : Int) (ha : ∀ r ∈ a, ∀ c ∈ r, Enc.ok c) (hb : ∀ r ∈ b, ∀ c ∈ r, Enc.ok c) : Ret Try.prog 8 [sl a, sl b, i64 n] [] (.p (bl true)) := by
  refine ret (fn := Try.f8) (by kernel_rfl) (by kernel_rfl) rfl ?_
  refine ⟨[], _, w_alive, rfl, ?_⟩
  refine ⟨[], _, r_both32 a b, rfl, ?_⟩
  refine ⟨fun h1 => ?_, fun h1 => ?_⟩
  rotate_left
  · rfl
  simp at h1
  obtain ⟨ka, kb⟩ := both32_0 h1
  obtain ⟨a1, a2, a3, a4, a5, a6⟩ := ck32_0 ka
  obtain ⟨b1, b2, b3, b4, b5, b6⟩ := ck32_0 kb
  have ea := row0_get a2
  have eb := row0_get b2
  refine ⟨fun h => absurd h (by first | decide | simp), fun _ => ?_⟩
  have hs : (bsplit a n).2.2 = 0 ↔ 1 ≤ n ∧ n < (a[0].length : Int) := by
    unfold bsplit
    rw [if_neg (by simp [ka])]
    split
    · rename_i q
      rw [← ea]
      constructor
      · intro h; simp at h
      · omega
    · rename_i q
      rw [← ea]
      exact ⟨fun _ => by omega, fun _ => rfl⟩
  refine ⟨[], _, b_split a n ha, rfl, ?_⟩
  by_cases hr : 1 ≤ n ∧ n < (a[0].length : Int)
  case' pos =>
    obtain ⟨n1, n2⟩ := hr
    have g3 := hs.2 ⟨n1, n2⟩
    refine ⟨fun g1 => ?_, fun g1 => absurd n1 (by simp at g1; omega)⟩
    refine ⟨0, rfl, a2, by decide, _, idx a2, rfl, ?_⟩
    refine ⟨fun g2 => absurd n2 (by simp [g3] at g2; omega), fun g2 => ?_⟩
    refine ⟨fun _ => ?_, fun h => absurd g3 (by simpa using h)⟩
    obtain ⟨m, rfl⟩ := Int.eq_ofNat_of_zero_le (show 0 ≤ n by omega)
    have es : bsplit a m = (cut32 a 0 m, cut32 a m (row0 a).length, 0) := by
      rw [bsplit, if_neg (by simp [ka]), if_neg (by rw [ea]; omega), Int.toNat_natCast]
    have k1 := (cut_ck ka (show 0 < m by omega) (show m ≤ (row0 a).length by rw [ea]; omega)).1
    have k2 := (cut_ck ka (show m < (row0 a).length by rw [ea]; omega) (Nat.le_refl _)).1
    have ej := split_join ka (show 1 ≤ m by omega) (show m < (row0 a).length by rw [ea]; omega)
    rw [es]
    refine ⟨[], _, b_join (cut32 a 0 m) (cut32 a m (row0 a).length) (ck_enc k1) (ck_enc k2), rfl, ?_⟩
    rw [ej]
    refine ⟨fun _ => ?_, fun h => absurd h (by first | decide | simp)⟩
    refine ⟨[], _, r_sameX (sz_ck ka), rfl, ?_⟩
    refine ⟨fun h => absurd h (by first | decide | simp), fun _ => ?_⟩
    clear es ej k1 k2 g2
  case' neg =>
    have g3 : ¬ (bsplit a n).2.2 = 0 := fun q => hr (hs.1 q)
    refine ⟨fun g1 => ?nA, fun g1 => ?nB⟩
    case' nA =>
      refine ⟨0, rfl, a2, by decide, _, idx a2, rfl, ?_⟩
      refine ⟨fun g2 => absurd hr (by simp at g1 g2; grind), fun g2 => ?_⟩
      refine ⟨fun h => absurd (by simpa using h) g3, fun _ => ?_⟩
      clear g2
    case' nB =>
      refine ⟨fun g2 => absurd hr (by simp at g1 g2; grind), fun g2 => ?_⟩
      refine ⟨fun h => absurd (by simpa using h) g3, fun _ => ?_⟩
      clear g2
  all_goals
    clear g1 g3 hs
    refine ⟨[], _, b_join a b ha hb, rfl, ?_⟩
    refine ⟨fun g4 => ?_, fun g4 => ?_⟩
    · rfl
    simp at g4
    have hn : a.length = b.length ∧ (row0 a).length + (row0 b).length ≤ 16 := by
      unfold bjoin at g4
      rw [if_neg (by simp [h1])] at g4
      split at g4
      · simp at g4
      · split at g4
        · simp at g4
        · omega
    obtain ⟨hn, hm⟩ := hn
    have ej : bjoin a b = (jn a b, 0) := by rw [bjoin, if_neg (by simp [h1]), if_neg (by omega), if_neg (by omega)]
    obtain ⟨j1, j2⟩ := jn_ck ka kb hn hm
    rw [ej]
    refine ⟨0, rfl, a2, by decide, _, idx a2, rfl, ?_⟩
    refine ⟨[], _, (show Ret Try.prog 17 [sl (jn a b), i64 a[0].length] [] (resB2 (a, b, 0)) by rw [← ea, ← join_split ka kb hn hm]; exact b_split (jn a b) _ (ck_enc j1)), rfl, ?_⟩
    refine ⟨fun _ => ?_, fun h => absurd h (by first | decide | simp)⟩
    refine ⟨[], _, r_sameX (sz_ck ka), rfl, ?_⟩
    refine ⟨fun _ => ?_, fun h => absurd h (by first | decide | simp)⟩
    refine ⟨[], _, r_sameX (sz_ck kb), rfl, ?_⟩
    refine ⟨fun h => absurd h (by first | decide | simp), fun _ => ?_⟩
    by_cases z : (bmul a a).2 = 0 ∧ (bmul b b).2 = 0
    · obtain ⟨z1, z2⟩ := z
      have em : bmul (jn a b) (jn a b) = (jn (bmul a a).1 (bmul b b).1, 0) := by rw [jn_mul ka kb hn hm, if_pos ⟨z1, z2⟩]
      obtain ⟨p1, p2, p3⟩ := bmul_ck (both_self ka) rfl rfl z1
      obtain ⟨q1, q2, q3⟩ := bmul_ck (both_self kb) rfl rfl z2
      have j3 := jn_ck p1 q1 (by omega) (by omega)
      refine ⟨[], _, b_mul a a ha ha, rfl, ?_⟩
      refine ⟨[], _, b_mul b b hb hb, rfl, ?_⟩
      refine ⟨[], _, (show Ret Try.prog 11 [sl (jn a b), sl (jn a b)] [] (resBs (jn (bmul a a).1 (bmul b b).1, 0)) by rw [← em]; exact b_mul _ _ (ck_enc j1) (ck_enc j1)), rfl, ?_⟩
      refine ⟨fun _ => ?_, fun h => absurd z1 (by simpa using h)⟩
      refine ⟨fun h => absurd z2 (by simpa using h), fun _ => ?_⟩
      refine ⟨[], _, (show Ret Try.prog 19 [sl (bmul a a).1, sl (bmul b b).1] [] (resBs (jn (bmul a a).1 (bmul b b).1, 0)) by rw [← join_muls ka kb hn hm z1 z2]; exact b_join _ _ (ck_enc p1) (ck_enc q1)), rfl, ?_⟩
      refine ⟨fun _ => ?_, fun h => absurd h (by first | decide | simp)⟩
      refine ⟨fun _ => ?_, fun h => absurd h (by first | decide | simp)⟩
      refine ⟨fun _ => ?_, fun h => absurd h (by first | decide | simp)⟩
      refine ⟨[], _, r_sameX (sz_ck j3.1), rfl, ?_⟩
      rfl
    · have em : bmul (jn a b) (jn a b) = ([], 16) := by rw [jn_mul ka kb hn hm, if_neg z]
      refine ⟨[], _, b_mul a a ha ha, rfl, ?_⟩
      refine ⟨[], _, b_mul b b hb hb, rfl, ?_⟩
      refine ⟨[], _, (show Ret Try.prog 11 [sl (jn a b), sl (jn a b)] [] (resBs ([], 16)) by rw [← em]; exact b_mul _ _ (ck_enc j1) (ck_enc j1)), rfl, ?_⟩
      by_cases z1 : (bmul a a).2 = 0
      · refine ⟨fun _ => ?_, fun h => absurd z1 (by simpa using h)⟩
        refine ⟨fun _ => ?_, fun h => absurd ⟨z1, by simpa using h⟩ z⟩
        refine ⟨fun _ => ?_, fun h => absurd h (by first | decide | simp)⟩
        rfl
      · refine ⟨fun h => absurd (by simpa using h) z1, fun _ => ?_⟩
        refine ⟨fun _ => ?_, fun h => absurd h (by first | decide | simp)⟩
        rfl
end Go.Pv
