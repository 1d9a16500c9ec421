/- The law ChainJoins, of the code. -/
import Derived.Test.YtfbcedhbeebipaaNo
namespace Go.Pv
open Go.Vc
open Go.Proofs
set_option maxRecDepth 10000

theorem chact_enc {l : List Stg} {n m : Int} {cs : List Cube} (h : (chact l n m cs).2 = 0) : ∀ c ∈ (chact l n m cs).1, Enc.ok c := by
  have g := acts_good h
  obtain ⟨h1, h2, h3⟩ := chact_0 h
  obtain ⟨k1, k2, k3⟩ := ck34_0 h1
  obtain ⟨c1, c2⟩ := cck_0 g
  intro c hc
  have q := c2 c hc
  refine ⟨?_, ?_, ?_, fun a ha => jok (q.2.2.2.2 a ha)⟩
  · have := q.1; have := q.2.1; have := q.2.2.1; unfold I64; omega
  · have := q.1; have := q.2.1; have := q.2.2.1; unfold I64; omega
  · have := q.2.2.2.1; unfold maxLen; omega

theorem sameS {x y : Stg} (h : x = y) (hs : x.small) : Ret Try.prog 19 [stg x, stg y] [] (.p (bl true)) := by
  subst h
  exact same1 hs

theorem sl_head {l : List Stg} {t : Nat} (h : t ≤ l.length) : PV.sl false (t - 0) (((flat l).drop (0 * 6)).take ((t - 0) * 6)) = sl (l.take t) := by
  have := flat_part l 0 t
  show PV.sl false (t - 0) _ = PV.sl false (l.take t).length _
  rw [List.length_take, Nat.min_eq_left h, Nat.sub_zero]
  congr 1
theorem sl_tail {l : List Stg} {t : Nat} (h : t ≤ l.length) : PV.sl false (l.length - t) (((flat l).drop (t * 6)).take ((l.length - t) * 6)) = sl (l.drop t) := by
  have e : ((flat l).drop (t * 6)).take ((l.length - t) * 6) = flat ((l.drop t).take (l.length - t)) := flat_part l t l.length
  have e2 : (l.drop t).take (l.length - t) = l.drop t := by rw [← List.length_drop, List.take_length]
  rw [e, e2]
  show PV.sl false (l.length - t) _ = PV.sl false (l.drop t).length _
  rw [List.length_drop]

set_option maxHeartbeats 4000000 in
theorem chainJoins (l : List Stg) (a n m : Int) (cs : List Cube) (hl : ∀ s ∈ l, Enc.ok s) (hc : ∀ c ∈ cs, Enc.ok c) : Ret Try.prog 9 [sl l, i64 a, i64 n, i64 m, sl cs] [] (.p (bl true)) := by
  refine ret (fn := Try.f9) (by kernel_rfl) (by kernel_rfl) rfl ?_
  refine ⟨[], _, w_alive, rfl, ?_⟩
  refine ⟨[], _, r_check34 l n m hl, rfl, ?_⟩
  refine ⟨fun h1 => ?_, fun h1 => ?_⟩
  rotate_left
  · rfl
  simp at h1
  refine ⟨[], _, r_cubes34 cs n m hc, rfl, ?_⟩
  refine ⟨fun h2 => ?_, fun h2 => ?_⟩
  rotate_left
  · rfl
  simp at h2
  refine ⟨fun h3 => ?_, fun h3 => ?_⟩
  rotate_left
  · rfl
  simp at h3
  refine ⟨fun h4 => ?_, fun h4 => ?_⟩
  rotate_left
  · rfl
  simp at h4
  refine ⟨fun h => absurd h (by first | decide | simp), fun _ => ?_⟩
  obtain ⟨t, rfl⟩ := Int.eq_ofNat_of_zero_le (show 0 ≤ a by omega)
  have ht : t ≤ l.length := by omega
  have hlt : ∀ s ∈ l.take t, Enc.ok s := fun s hs => hl s (List.mem_of_mem_take hs)
  have hld : ∀ s ∈ l.drop t, Enc.ok s := fun s hs => hl s (List.mem_of_mem_drop hs)
  have k4 := (ck34_0 h1).2.1
  have h1t : ck34 (l.take t) n m = 0 := ck34_part h1 (fun s hs => List.mem_of_mem_take hs) (by simp; omega)
  have h1d : ck34 (l.drop t) n m = 0 := ck34_part h1 (fun s hs => List.mem_of_mem_drop hs) (by simp)
  refine ⟨[], _, k_act l n m cs hl hc, rfl, ?_⟩
  refine ⟨by rw [flat_length]; rfl, t, rfl, Nat.zero_le _, ht, ?_⟩
  rcases chact_err (cs := cs) h1t h2 with zq | zq
  rotate_left
  · refine ⟨[], _, (show Ret Try.prog 17 [PV.sl false (t - 0) (((flat l).drop (0 * 6)).take ((t - 0) * 6)), i64 n, i64 m, sl cs] [] (resCu ([], 16)) by rw [sl_head ht]; exact k_act1 hlt hc zq), rfl, ?_⟩
    refine ⟨fun _ => ?_, fun h => absurd h (by first | decide | simp)⟩
    refine ⟨fun _ => ?_, fun h => absurd h (by first | decide | simp)⟩
    have e := join_bad (t := t) h1 h2 (by rw [zq]; decide)
    show SV.p (bl _) = SV.p (bl true)
    rw [e, zq]; rfl
  · refine ⟨[], _, (show Ret Try.prog 17 [PV.sl false (t - 0) (((flat l).drop (0 * 6)).take ((t - 0) * 6)), i64 n, i64 m, sl cs] [] (resCu ((chact (l.take t) n m cs).1, 0)) by rw [sl_head ht]; exact k_act0 hlt hc zq), rfl, ?_⟩
    refine ⟨fun h => absurd h (by first | decide | simp), fun _ => ?_⟩
    refine ⟨by rw [flat_length]; rfl, t, rfl, ht, Nat.le_refl _, ?_⟩
    refine ⟨[], _, (show Ret Try.prog 17 [PV.sl false (l.length - t) (((flat l).drop (t * 6)).take ((l.length - t) * 6)), i64 n, i64 m, sl (chact (l.take t) n m cs).1] [] (resCu (chact l n m cs)) by rw [sl_tail ht, join_act h1 h2 zq]; exact k_act _ n m _ hld (chact_enc zq)), rfl, ?_⟩
    refine ⟨fun _ => ?_, fun h => absurd h (by simp)⟩
    refine ⟨[], _, sameC rfl chact_small.1 chact_small.2, rfl, ?_⟩
    refine ⟨fun h => absurd h (by first | decide | simp), fun _ => ?_⟩
    refine ⟨by rw [flat_length]; rfl, t, rfl, Nat.zero_le _, ht, ?_⟩
    refine ⟨[], _, (show Ret Try.prog 12 [PV.sl false (t - 0) (((flat l).drop (0 * 6)).take ((t - 0) * 6)), i64 n, i64 m] [] (resSt (chcomp (l.take t) n m)) by rw [sl_head ht]; exact k_compose _ n m hlt), rfl, ?_⟩
    refine ⟨by rw [flat_length]; rfl, t, rfl, ht, Nat.le_refl _, ?_⟩
    refine ⟨[], _, (show Ret Try.prog 12 [PV.sl false (l.length - t) (((flat l).drop (t * 6)).take ((l.length - t) * 6)), i64 n, i64 m] [] (resSt (chcomp (l.drop t) n m)) by rw [sl_tail ht]; exact k_compose _ n m hld), rfl, ?_⟩
    refine ⟨[], _, k_compose l n m hl, rfl, ?_⟩
    refine ⟨fun h5 => ?_, fun h5 => ?_⟩
    rotate_left
    · rfl
    simp at h5
    refine ⟨fun h6 => ?_, fun h6 => ?_⟩
    rotate_left
    · rfl
    simp at h6
    refine ⟨fun h7 => ?_, fun h7 => ?_⟩
    · rfl
    simp at h7
    have hd : ∀ s ∈ [(chcomp (l.take t) n m).1, (chcomp (l.drop t) n m).1], Enc.ok s := by simpa using ⟨chcomp_enc h5, chcomp_enc h6⟩
    refine ⟨[], _, k_compose [(chcomp (l.take t) n m).1, (chcomp (l.drop t) n m).1] n m hd, rfl, ?_⟩
    refine ⟨fun _ => ?_, fun h => absurd h (by first | decide | simp)⟩
    refine ⟨fun h8 => ?_, fun h8 => ?_⟩
    · simp at h8
      refine ⟨[], _, sameS (join_comp h5 h6 h7 h8) chcomp_small, rfl, ?_⟩
      rfl
    · rfl
end Go.Pv
