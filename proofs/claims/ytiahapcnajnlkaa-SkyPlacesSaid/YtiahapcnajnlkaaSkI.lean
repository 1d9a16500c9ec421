/- The law SkyPlaces, of the code. -/
import Derived.Test.YtiahapcnajnlkaaSkH
import Derived.Test.YtiahapcnajnlkaaPlPla
namespace Go.Pv
open Go.Vc
open Go.Proofs
set_option maxRecDepth 10000
set_option maxHeartbeats 4000000

theorem skyPlacesL (p : List Place) (l : List Lamp) (dx dy who : Int) : Ret Try.prog 4 [sl p, sl l, i64 dx, i64 dy, i64 who] [] (.p (bl true)) := by
  refine ret (fn := Try.f4) (by kernel_rfl) (by kernel_rfl) rfl ?_
  refine ⟨[], _, w_alive, rfl, ?_⟩
  refine ⟨[], _, w_valid p l, rfl, ?_⟩
  refine ⟨fun h1 => ?_, fun h1 => ?_⟩
  rotate_left
  · rfl
  refine ⟨fun w1 => ?_, fun w1 => ?_⟩
  rotate_left
  · rfl
  refine ⟨fun w2 => ?_, fun w2 => ?_⟩
  rotate_left
  · rfl
  refine ⟨fun d1 => ?_, fun d1 => ?_⟩
  rotate_left
  · rfl
  refine ⟨fun d2 => ?_, fun d2 => ?_⟩
  rotate_left
  · rfl
  refine ⟨fun d3 => ?_, fun d3 => ?_⟩
  rotate_left
  · rfl
  refine ⟨fun d4 => ?_, fun d4 => ?_⟩
  rotate_left
  · rfl
  refine ⟨fun h4 => ?_, fun h4 => ?_⟩
  · rfl
  simp at h1 w1 w2 d1 d2 d3 d4
  obtain ⟨w, rfl⟩ : ∃ m : Nat, who = m := ⟨who.toNat, by omega⟩
  have hw : w < p.length := by omega
  obtain ⟨hp, hl⟩ := both_0 h1.2.2
  obtain ⟨hn8, hn2, hpl⟩ := places_0 hp
  have hle := prs_le hn8
  have ela := turned_length p l 0 0
  refine ⟨[], _, skySeeE (see_ok hp hl), rfl, ?_⟩
  refine ⟨fun h => absurd h (by first | decide | simp), fun _ => ?_⟩
  refine ⟨flat_length p, ⟨by show 0 + _ ≤ _; omega, by show (0 + _) * 16 ≤ _; omega⟩, false, by simp, ?_⟩
  refine ⟨flat_length p, ⟨by show 0 + _ ≤ _; omega, by show (0 + _) * 16 ≤ _; omega⟩, false, by simp, ?_⟩
  refine ⟨Nat, { inv := fun k => k ≤ p.length, slots := [(16, fun k => i64 k)], boxes := [(1, fun k => flat (mixT (mvP dx dy) p k))], mu := fun k => p.length - k }, 0, ⟨⟨rfl, trivial⟩, trivial, ⟨trivial, ⟨rfl, by show flat p = flat (mixT (mvP dx dy) p 0); rw [mixT_0]⟩, (by repeat' first | exact trivial | rfl | apply And.intro)⟩, Nat.zero_le _⟩, ?_⟩
  intro k hk
  refine ⟨fun g1 => ?_, fun g1 => ?_⟩
  · simp at g1
    have hb := hpl p[k] (List.getElem_mem g1)
    have hml := mixT_length (mvP dx dy) p k
    refine ⟨k, rfl, g1, by decide, _, idx g1, rfl, ?_⟩
    refine ⟨k, rfl, g1, by decide, _, idx g1, rfl, ?_⟩
    refine ⟨k, rfl, by omega, ?_⟩
    refine ⟨by show k * 2 + 2 ≤ (flat (mixT (mvP dx dy) p k)).length; rw [flat_length, hml]; show _ ≤ p.length * 2; omega, ?_⟩
    refine ⟨k + 1, by show _ < _; simp; omega, ⟨rfl, rfl⟩, ⟨by show PV.v (.int _ _) = _; rw [succ_w (by omega)], trivial⟩, trivial, ⟨trivial, ⟨rfl, ?_⟩, (by repeat' first | exact trivial | rfl | apply And.intro)⟩, g1⟩
    show spl (flat (mixT (mvP dx dy) p k)) (k * 2) [i64 (IntKind.i64.wrap (p[k].x + dx)), i64 (IntKind.i64.wrap (p[k].y + dy))] = flat (mixT (mvP dx dy) p (k + 1))
    rw [← mixT_set _ g1, wrap_id (by omega) (by omega), wrap_id (by omega) (by omega)]
    exact flat_put (by rw [hml]; exact g1) (mvP dx dy p[k])
  simp at g1
  have : k = p.length := by simp only at hk; omega
  subst this
  have hbw := hpl p[w] (List.getElem_mem hw)
  refine ⟨w, rfl, hw, by decide, _, idx hw, rfl, ?_⟩
  refine ⟨w, rfl, hw, by decide, _, idx hw, rfl, ?_⟩
  refine ⟨w, rfl, by omega, ?_⟩
  refine ⟨by show w * 2 + 2 ≤ (flat p).length; rw [flat_length]; show _ ≤ p.length * 2; omega, ?_⟩
  have w1 : IntKind.i64.wrap (p[w].x + IntKind.i64.wrap (4 * dx)) = p[w].x + 4 * dx := by rw [wrap_id (n := 4 * dx) (by omega) (by omega), wrap_id (by omega) (by omega)]
  have w2 : IntKind.i64.wrap (p[w].y - IntKind.i64.wrap (4 * dy)) = p[w].y - 4 * dy := by rw [wrap_id (n := 4 * dy) (by omega) (by omega), wrap_id (by omega) (by omega)]
  have E1 : PV.sl false (0 + p.length) (flat (mixT (mvP dx dy) p p.length)) = sl (p.map (mvP dx dy)) := by rw [mixT_end, Nat.zero_add]; simp
  have E2 : PV.sl false (0 + p.length) (spl (flat p) (w * 2) [i64 (IntKind.i64.wrap (p[w].x + IntKind.i64.wrap (4 * dx))), i64 (IntKind.i64.wrap (p[w].y - IntKind.i64.wrap (4 * dy)))]) = sl (p.set w ⟨p[w].x + 4 * dx, p[w].y - 4 * dy⟩) := by
    rw [w1, w2, Nat.zero_add]
    have := flat_put hw (⟨p[w].x + 4 * dx, p[w].y - 4 * dy⟩ : Place)
    rw [show sl (p.set w ⟨p[w].x + 4 * dx, p[w].y - 4 * dy⟩) = PV.sl false (p.set w ⟨p[w].x + 4 * dx, p[w].y - 4 * dy⟩).length (flat (p.set w ⟨p[w].x + 4 * dx, p[w].y - 4 * dy⟩)) from rfl, ← this, List.length_set]
    rfl
  refine ⟨[], .p (i64 (places (p.map (mvP dx dy)))), ?_, rfl, ?_⟩
  · show Ret Try.prog 19 [.sl false (0 + p.length) (flat (mixT (mvP dx dy) p p.length))] [] _
    rw [E1]
    exact refPlaces _
  refine ⟨fun q1 => ?_, fun q1 => ?_⟩
  focus
    simp at q1
    refine ⟨[], resV (turned p l 0 0, 0), ?_, rfl, ?_⟩
    · show Ret Try.prog 18 [.sl false (0 + p.length) (flat (mixT (mvP dx dy) p p.length)), sl l] [] _
      rw [E1]
      exact skySeeE (by rw [see_ok q1 hl, turned_mvP])
    refine ⟨fun _ => ?_, fun h => absurd h (by first | decide | simp)⟩
    refine ⟨[], _, refSameVis (turned p l 0 0) (turned p l 0 0) (by omega), rfl, ?_⟩
    refine ⟨fun q2 => absurd q2 (by simp), fun _ => ?_⟩
  all_goals
    refine ⟨[], .p (i64 (places (p.set w ⟨p[w].x + 4 * dx, p[w].y - 4 * dy⟩))), ?_, rfl, ?_⟩
    focus
      show Ret Try.prog 19 [.sl false (0 + p.length) (spl (flat p) (w * 2) [i64 (IntKind.i64.wrap (p[w].x + IntKind.i64.wrap (4 * dx))), i64 (IntKind.i64.wrap (p[w].y - IntKind.i64.wrap (4 * dy)))])] [] _
      rw [E2]
      exact refPlaces _
    refine ⟨fun q3 => ?_, fun q3 => ?_⟩
    focus
      simp at q3
      refine ⟨[], resV (turned p l 0 0, 0), ?_, rfl, ?_⟩
      · show Ret Try.prog 18 [.sl false (0 + p.length) (spl (flat p) (w * 2) [i64 (IntKind.i64.wrap (p[w].x + IntKind.i64.wrap (4 * dx))), i64 (IntKind.i64.wrap (p[w].y - IntKind.i64.wrap (4 * dy)))]), sl l] [] _
        rw [E2]
        exact skySeeE (by rw [see_ok q3 hl, turned_set p l dx dy hw])
      refine ⟨fun _ => ?_, fun h => absurd h (by first | decide | simp)⟩
      refine ⟨[], _, refSameVis (turned p l 0 0) (turned p l 0 0) (by omega), rfl, ?_⟩
      refine ⟨fun q2 => absurd q2 (by simp), fun _ => ?_⟩
  all_goals
    refine ⟨Nat, { inv := fun k => k ≤ (turned p l 0 0).length, slots := [(21, fun k => i64 k)], mu := fun k => (turned p l 0 0).length - k }, 0, ⟨⟨rfl, trivial⟩, trivial, (by repeat' first | exact trivial | rfl | apply And.intro), Nat.zero_le _⟩, ?_⟩
    intro k hk
    refine ⟨fun h8 => ?_, fun h8 => ?_⟩
    focus
      simp at h8
      have hkq : k < (prs p.length).length := by omega
      have hq := mem_prs (List.getElem_mem hkq)
      have va : (turned p l 0 0)[k] = vis1 p l 0 0 (prs p.length)[k] := by simp [turned]
      rw [vis1_0] at va
      generalize (prs p.length)[k].1 = qi at *
      generalize (prs p.length)[k].2 = qj at *
      have hqi : qi < p.length := by omega
      have hqj : qj < p.length := by omega
      have hi : (turned p l 0 0)[k].i = (qi : Nat) := by rw [va]
      have hj : (turned p l 0 0)[k].j = (qj : Nat) := by rw [va]
      refine ⟨k, rfl, h8, by decide, _, idx h8, rfl, ?_⟩
      refine ⟨fun g1 => ?_, fun g1 => absurd g1 (by simp; omega)⟩
      refine ⟨k, rfl, h8, by decide, _, idx h8, rfl, ?_⟩
      refine ⟨fun g2 => ?_, fun g2 => absurd g2 (by simp; omega)⟩
      refine ⟨k, rfl, h8, by decide, _, idx h8, rfl, ?_⟩
      refine ⟨k, rfl, h8, by decide, _, idx h8, rfl, ?_⟩
      refine ⟨fun g3 => absurd g3 (by simp; omega), fun g3 => ?_⟩
      refine ⟨k, rfl, h8, by decide, _, idx h8, rfl, ?_⟩
      refine ⟨qi, hi, hqi, by decide, _, idx hqi, rfl, ?_⟩
      refine ⟨k, rfl, h8, by decide, _, idx h8, rfl, ?_⟩
      refine ⟨qj, hj, hqj, by decide, _, idx hqj, rfl, ?_⟩
      refine ⟨_, skySeeE (see_pair hp hl hqi hqj), rfl, ?_⟩
      refine ⟨fun _ => ?_, fun h => absurd h (by first | decide | simp)⟩
      refine ⟨fun _ => ?_, fun h => absurd h (by first | decide | simp)⟩
      refine ⟨0, rfl, Nat.one_pos, by decide, _, rfl, rfl, ?_⟩
      refine ⟨k, rfl, h8, by decide, _, idx h8, rfl, ?_⟩
      refine ⟨fun g4 => absurd g4 ?_, fun g4 => ?_⟩
      focus
        show ¬ (!eqPL [i64 (sre p qi qj l), i64 (sim p qi qj l), i64 1] [i64 (turned p l 0 0)[k].v.re, i64 (turned p l 0 0)[k].v.im, i64 (turned p l 0 0)[k].v.den]) = true
        have := eqPL_cx ⟨sre p qi qj l, sim p qi qj l, 1⟩ (turned p l 0 0)[k].v
        simp only at this
        rw [this, va]
        simp
      refine ⟨k + 1, by show _ < _; simp; omega, ⟨rfl, rfl⟩, ⟨by show PV.v (.int _ _) = _; rw [succ_w (by omega)], trivial⟩, trivial, (by repeat' first | exact trivial | rfl | apply And.intro), h8⟩
    focus
      rfl
end Go.Pv
