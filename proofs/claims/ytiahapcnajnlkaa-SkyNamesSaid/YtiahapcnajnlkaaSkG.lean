/- The law SkyAdds, of the code. -/
import Derived.Test.YtiahapcnajnlkaaSkF
import Derived.Test.YtiahapcnajnlkaaCx
import Derived.Test.YtiahapcnajnlkaaPlAdds
namespace Go.Pv
open Go.Vc
open Go.Proofs
set_option maxRecDepth 10000
set_option maxHeartbeats 4000000

theorem half {n : Nat} (h2 : 2 ≤ n) (h8 : n ≤ 8) : IntKind.i64.wrap ((IntKind.i64.wrap ((n : Int) * IntKind.i64.wrap ((n : Int) - 1))).tdiv 2) = ((prs n).length : Nat) := by
  have : n = 2 ∨ n = 3 ∨ n = 4 ∨ n = 5 ∨ n = 6 ∨ n = 7 ∨ n = 8 := by omega
  rcases this with rfl | rfl | rfl | rfl | rfl | rfl | rfl <;> decide

theorem c_addE {a b : Cx} {r : Cx × Int} (h : add a b = r) (ha : Enc.ok a) (hb : Enc.ok b) : Ret Try.prog 34 [cx a, cx b] [] (resC r) := h ▸ c_add a b ha hb

theorem skyAdds (p : List Place) (l m : List Lamp) : Ret Try.prog 9 [sl p, sl l, sl m] [] (.p (bl true)) := by
  refine ret (fn := Try.f9) (by kernel_rfl) (by kernel_rfl) rfl ?_
  refine ⟨[], _, w_alive, rfl, ?_⟩
  refine ⟨[], _, w_valid p l, rfl, ?_⟩
  refine ⟨fun h1 => ?_, fun h1 => ?_⟩
  rotate_left
  · rfl
  refine ⟨[], _, w_valid p m, rfl, ?_⟩
  refine ⟨fun h2 => ?_, fun h2 => ?_⟩
  rotate_left
  · rfl
  simp at h1 h2
  have hw : IntKind.i64.wrap ((l.length : Int) + m.length) = ((l.length + m.length : Nat) : Int) := by rw [wrap_id (by omega) (by omega)]; simp
  refine ⟨fun h3 => ?_, fun h3 => ?_⟩
  rotate_left
  · rfl
  rw [hw] at h3
  simp at h3
  refine ⟨fun h4 => ?_, fun h4 => ?_⟩
  · rfl
  obtain ⟨hp, hl⟩ := both_0 h1.2.2
  obtain ⟨_, hm⟩ := both_0 h2.2.2
  obtain ⟨hn8, hn2, hpl⟩ := places_0 hp
  have hlm := check_app hl hm (by omega)
  refine ⟨[], _, skySeeE (see_ok hp hl), rfl, ?_⟩
  refine ⟨[], _, skySeeE (see_ok hp hm), rfl, ?_⟩
  refine ⟨flat_length l, ⟨by show 0 + _ ≤ _; omega, by show (0 + _) * 24 ≤ _; omega⟩, false, by simp, ?_⟩
  refine ⟨flat_length m, ⟨by show 0 + _ + _ ≤ _; omega, by show (0 + _ + _) * 24 ≤ _; omega⟩, ?_⟩
  have eb : PV.sl false (0 + l.length + m.length) (flat l ++ flat m) = sl (l ++ m) := by rw [← flat_append, Nat.zero_add, ← List.length_append]
  refine ⟨[], resV (turned p (l ++ m) 0 0, 0), ?_, rfl, ?_⟩
  · show Ret Try.prog 18 [sl p, .sl false (0 + l.length + m.length) (flat l ++ flat m)] [] _
    rw [eb]
    exact skySeeE (see_ok hp hlm)
  refine ⟨fun _ => ?_, fun h => absurd h (by first | decide | simp)⟩
  refine ⟨fun _ => ?_, fun h => absurd h (by first | decide | simp)⟩
  refine ⟨fun _ => ?_, fun h => absurd h (by first | decide | simp)⟩
  have ela := turned_length p l 0 0
  have elb := turned_length p m 0 0
  have elc := turned_length p (l ++ m) 0 0
  have hle := prs_le hn8
  refine ⟨by decide, ?_⟩
  refine ⟨fun h5 => ?_, fun h5 => ?_⟩
  rotate_left
  · rw [half hn2 hn8, ela] at h5
    simp at h5
  refine ⟨fun h6 => ?_, fun h6 => ?_⟩
  rotate_left
  · rw [ela, elb] at h6
    simp at h6
  refine ⟨fun h7 => ?_, fun h7 => ?_⟩
  · rw [ela, elc] at h7
    simp at h7
  refine ⟨Nat, { inv := fun k => k ≤ (turned p l 0 0).length, slots := [(15, fun k => i64 k)], mu := fun k => (turned p l 0 0).length - k }, 0, ⟨⟨rfl, trivial⟩, trivial, (by repeat' first | exact trivial | rfl | apply And.intro), Nat.zero_le _⟩, ?_⟩
  intro k hk
  refine ⟨fun h8 => ?_, fun h8 => ?_⟩
  · simp at h8
    have hkb : k < (turned p m 0 0).length := by omega
    have hkc : k < (turned p (l ++ m) 0 0).length := by omega
    have hkq : k < (prs p.length).length := by omega
    have hq := mem_prs (List.getElem_mem hkq)
    have va : (turned p l 0 0)[k] = vis1 p l 0 0 (prs p.length)[k] := by simp [turned]
    have vb : (turned p m 0 0)[k] = vis1 p m 0 0 (prs p.length)[k] := by simp [turned]
    have vc : (turned p (l ++ m) 0 0)[k] = vis1 p (l ++ m) 0 0 (prs p.length)[k] := by simp [turned]
    rw [vis1_0] at va vb vc
    have ba := seen_sum_bound hl (p := p) (prs p.length)[k].1 (prs p.length)[k].2 l.length
    have bb := seen_sum_bound hm (p := p) (prs p.length)[k].1 (prs p.length)[k].2 m.length
    rw [List.take_length] at ba bb
    rw [sre_app, sim_app] at vc
    generalize (prs p.length)[k].1 = qi at *
    generalize (prs p.length)[k].2 = qj at *
    generalize sre p qi qj l = x1 at *
    generalize sim p qi qj l = y1 at *
    generalize sre p qi qj m = x2 at *
    generalize sim p qi qj m = y2 at *
    have f1 : fits x1 ∧ fits y1 ∧ fits x2 ∧ fits y2 ∧ fits (x1 + x2) ∧ fits (y1 + y2) := by unfold fits; omega
    have hadd : add (turned p l 0 0)[k].v (turned p m 0 0)[k].v = ((turned p (l ++ m) 0 0)[k].v, 0) := by
      rw [va, vb, vc]; exact add_1 f1.1 f1.2.1 f1.2.2.1 f1.2.2.2.1 f1.2.2.2.2.1 f1.2.2.2.2.2
    have oka : Enc.ok (turned p l 0 0)[k].v := by rw [va]; exact ok_valid (valid_1 f1.1 f1.2.1)
    have okb : Enc.ok (turned p m 0 0)[k].v := by rw [vb]; exact ok_valid (valid_1 f1.2.2.1 f1.2.2.2.1)
    have c1 : (turned p l 0 0)[k].i = (turned p m 0 0)[k].i := by rw [va, vb]
    have c2 : (turned p l 0 0)[k].i = (turned p (l ++ m) 0 0)[k].i := by rw [va, vc]
    have c3 : (turned p l 0 0)[k].j = (turned p m 0 0)[k].j := by rw [va, vb]
    have c4 : (turned p l 0 0)[k].j = (turned p (l ++ m) 0 0)[k].j := by rw [va, vc]
    have c5 : (turned p l 0 0)[k].i < (turned p l 0 0)[k].j := by rw [va]; simp only; omega
    have c6 : (turned p l 0 0)[k].n = 1 := by rw [va]
    refine ⟨k, rfl, h8, by decide, _, idx h8, rfl, ?_⟩
    refine ⟨k, rfl, hkb, by decide, _, idx hkb, rfl, ?_⟩
    refine ⟨_, c_addE hadd oka okb, rfl, ?_⟩
    refine ⟨fun _ => ?_, fun h => absurd h (by first | decide | simp)⟩
    refine ⟨k, rfl, hkc, by decide, _, idx hkc, rfl, ?_⟩
    refine ⟨fun g1 => ?_, fun g1 => ?_⟩
    rotate_left
    · have g1 : (!eqPL [i64 (turned p (l ++ m) 0 0)[k].v.re, i64 (turned p (l ++ m) 0 0)[k].v.im, i64 (turned p (l ++ m) 0 0)[k].v.den] [i64 (turned p (l ++ m) 0 0)[k].v.re, i64 (turned p (l ++ m) 0 0)[k].v.im, i64 (turned p (l ++ m) 0 0)[k].v.den]) = true := g1
      rw [eqPL_cx] at g1
      simp at g1
    refine ⟨k, rfl, h8, by decide, _, idx h8, rfl, ?_⟩
    refine ⟨k, rfl, hkb, by decide, _, idx hkb, rfl, ?_⟩
    refine ⟨fun g2 => ?_, fun g2 => ?_⟩
    rotate_left
    · simp [c1] at g2
    refine ⟨k, rfl, h8, by decide, _, idx h8, rfl, ?_⟩
    refine ⟨k, rfl, hkc, by decide, _, idx hkc, rfl, ?_⟩
    refine ⟨fun g3 => ?_, fun g3 => ?_⟩
    rotate_left
    · simp [c2] at g3
    refine ⟨k, rfl, h8, by decide, _, idx h8, rfl, ?_⟩
    refine ⟨k, rfl, hkb, by decide, _, idx hkb, rfl, ?_⟩
    refine ⟨fun g4 => ?_, fun g4 => ?_⟩
    rotate_left
    · simp [c3] at g4
    refine ⟨k, rfl, h8, by decide, _, idx h8, rfl, ?_⟩
    refine ⟨k, rfl, hkc, by decide, _, idx hkc, rfl, ?_⟩
    refine ⟨fun g5 => ?_, fun g5 => ?_⟩
    rotate_left
    · simp [c4] at g5
    refine ⟨k, rfl, h8, by decide, _, idx h8, rfl, ?_⟩
    refine ⟨k, rfl, h8, by decide, _, idx h8, rfl, ?_⟩
    refine ⟨fun g6 => ?_, fun g6 => ?_⟩
    rotate_left
    · simp at g6; omega
    refine ⟨k, rfl, h8, by decide, _, idx h8, rfl, ?_⟩
    refine ⟨fun g7 => ?_, fun g7 => ?_⟩
    · simp [c6] at g7
    refine ⟨k + 1, by show _ < _; simp; omega, ⟨rfl, rfl⟩, ⟨by show PV.v (.int _ _) = _; rw [succ_w (by omega)], trivial⟩, trivial, (by repeat' first | exact trivial | rfl | apply And.intro), h8⟩
  · simp at h8
    refine ⟨[], resL (merge (l ++ m)), ?_, rfl, ?_⟩
    · show Ret Try.prog 11 [.sl false (0 + l.length + m.length) (flat l ++ flat m)] [] _
      rw [eb]
      exact (skyMerge (l ++ m)).frz
    refine ⟨fun g1 => ?_, fun g1 => ?_⟩
    · simp at g1
      have e16 : (merge (l ++ m)).2 = 16 := by rcases merge_err hlm with h | h; exact absurd h g1; exact h
      refine ⟨fun _ => ?_, fun h => absurd h (by first | decide | simp)⟩
      show SV.p (bl _) = _
      rw [e16]; rfl
    · simp at g1
      obtain ⟨m1, m2, m3⟩ := merge_again hlm g1
      obtain ⟨_, hrng⟩ := check_0 hlm
      refine ⟨[], resV (turned p (l ++ m) 0 0, 0), ?_, rfl, ?_⟩
      · show Ret Try.prog 18 [sl p, sl (merge (l ++ m)).1] [] _
        rw [m1]
        exact skySeeE (by rw [see_ok hp m2, turned_mg p hrng])
      refine ⟨[], resL (mg (l ++ m) 64, 0), ?_, rfl, ?_⟩
      · show Ret Try.prog 11 [sl (merge (l ++ m)).1] [] _
        rw [m1, ← m3]
        exact (skyMerge (mg (l ++ m) 64)).frz
      refine ⟨fun _ => ?_, fun h => absurd h (by first | decide | simp)⟩
      refine ⟨fun _ => ?_, fun h => absurd h (by first | decide | simp)⟩
      refine ⟨[], _, refSameVis (turned p (l ++ m) 0 0) (turned p (l ++ m) 0 0) (by omega), rfl, ?_⟩
      refine ⟨fun g2 => ?_, fun g2 => ?_⟩
      rotate_left
      · simp at g2
      refine ⟨fun _ => ?_, fun h => absurd h (by first | decide | simp)⟩
      have hml := mg_length (l ++ m) 64
      refine ⟨[], .p (bl true), ?_, rfl, ?_⟩
      · show Ret Try.prog 15 [sl (mg (l ++ m) 64), sl (merge (l ++ m)).1] [] _
        rw [m1]
        have := refSame (mg (l ++ m) 64) (mg (l ++ m) 64) (by omega)
        simpa using this
      rfl
end Go.Pv
