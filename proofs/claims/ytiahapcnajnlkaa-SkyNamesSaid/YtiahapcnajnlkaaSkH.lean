/- The law SkyShifts, of the code. -/
import Derived.Test.YtiahapcnajnlkaaSkG
namespace Go.Pv
open Go.Vc
open Go.Proofs
set_option maxRecDepth 10000
set_option maxHeartbeats 4000000

theorem skyTurnedE {p : List Place} {l : List Lamp} {x y : Int} {r : List Vis × Int} (h : turnd p l x y = r) : Ret Try.prog 24 [sl p, sl l, i64 x, i64 y] [] (resV r) := h ▸ skyTurned p l x y
theorem skyShiftE {l : List Lamp} {x y : Int} {r : List Lamp × Int} (h : shift l x y = r) : Ret Try.prog 13 [sl l, i64 x, i64 y] [] (resL r) := h ▸ (skyShift l x y).frz

theorem skyShifts (p : List Place) (l : List Lamp) (dx dy : Int) : Ret Try.prog 8 [sl p, sl l, i64 dx, i64 dy] [] (.p (bl true)) := by
  refine ret (fn := Try.f8) (by kernel_rfl) (by kernel_rfl) rfl ?_
  refine ⟨[], _, w_alive, rfl, ?_⟩
  refine ⟨[], _, w_valid p l, rfl, ?_⟩
  refine ⟨fun h1 => ?_, fun h1 => ?_⟩
  rotate_left
  · rfl
  refine ⟨fun d1 => ?_, fun d1 => ?_⟩
  rotate_left
  · rfl
  refine ⟨fun d2 => ?_, fun d2 => ?_⟩
  rotate_left
  · rfl
  refine ⟨fun d3 => ?_, fun d3 => ?_⟩
  rotate_left
  · rfl
  refine ⟨fun d4 => ?_, fun d4 => ?_⟩
  rotate_left
  · rfl
  refine ⟨fun h4 => ?_, fun h4 => ?_⟩
  · rfl
  simp at h1 d1 d2 d3 d4
  have hd : -8 ≤ dx ∧ dx ≤ 8 ∧ -8 ≤ dy ∧ dy ≤ 8 := ⟨d1, d2, d3, d4⟩
  obtain ⟨hp, hl⟩ := both_0 h1.2.2
  obtain ⟨hn8, hn2, hpl⟩ := places_0 hp
  have hle := prs_le hn8
  have ela := turned_length p l 0 0
  have elt := turned_length p l dx dy
  refine ⟨[], _, skySeeE (see_ok hp hl), rfl, ?_⟩
  refine ⟨[], _, skyTurnedE (turnd_ok hp hl hd), rfl, ?_⟩
  refine ⟨fun _ => ?_, fun h => absurd h (by first | decide | simp)⟩
  refine ⟨fun _ => ?_, fun h => absurd h (by first | decide | simp)⟩
  refine ⟨fun h5 => ?_, fun h5 => ?_⟩
  · rw [ela, elt] at h5
    simp at h5
  refine ⟨Nat, { inv := fun k => k ≤ (turned p l 0 0).length, slots := [(14, fun k => i64 k)], mu := fun k => (turned p l 0 0).length - k }, 0, ⟨⟨rfl, trivial⟩, trivial, (by repeat' first | exact trivial | rfl | apply And.intro), Nat.zero_le _⟩, ?_⟩
  intro k hk
  refine ⟨fun h8 => ?_, fun h8 => ?_⟩
  · simp at h8
    have hkt : k < (turned p l dx dy).length := by omega
    have hkq : k < (prs p.length).length := by omega
    have hq := mem_prs (List.getElem_mem hkq)
    have va : (turned p l 0 0)[k] = vis1 p l 0 0 (prs p.length)[k] := by simp [turned]
    have vt : (turned p l dx dy)[k] = vis1 p l dx dy (prs p.length)[k] := by simp [turned]
    have hb := vis1_bound hl (p := p) 0 0 (prs p.length)[k]
    have vtt := turnV_vis1 p l dx dy (prs p.length)[k]
    rw [← va] at vtt hb
    rw [← vtt] at vt
    have hi : (turned p l 0 0)[k].i = ((prs p.length)[k].1 : Nat) := by rw [va, vis1_0]
    have hj : (turned p l 0 0)[k].j = ((prs p.length)[k].2 : Nat) := by rw [va, vis1_0]
    have hden : (turned p l 0 0)[k].v.den = 1 := by rw [va, vis1_0]
    have hn : (turned p l 0 0)[k].n = 1 := by rw [va, vis1_0]
    generalize (prs p.length)[k].1 = qi at *
    generalize (prs p.length)[k].2 = qj at *
    have hqi : qi < p.length := by omega
    have hqj : qj < p.length := by omega
    have hqb := qs_bound hpl (i := qi) (j := qj) (x := dx) (y := dy) (by omega) (by omega)
    have hval : (turned p l 0 0)[k].v.valid := by
      have : (turned p l 0 0)[k].v = ⟨(turned p l 0 0)[k].v.re, (turned p l 0 0)[k].v.im, 1⟩ := by rw [← hden]
      rw [this]
      exact valid_1 (by unfold fits; omega) (by unfold fits; omega)
    have hQ : IntKind.i64.wrap (IntKind.i64.wrap (dx * IntKind.i64.wrap (p[qj].x - p[qi].x)) + IntKind.i64.wrap (dy * IntKind.i64.wrap (p[qj].y - p[qi].y))) = qs p qi qj dx dy := by
      rw [qs, plc_get hqi, plc_get hqj] at hqb
      rw [qs, plc_get hqi, plc_get hqj, wrap_id (n := p[qj].x - p[qi].x) (by omega) (by omega), wrap_id (n := p[qj].y - p[qi].y) (by omega) (by omega), wrap_id (n := dx * (p[qj].x - p[qi].x)) (by omega) (by omega), wrap_id (n := dy * (p[qj].y - p[qi].y)) (by omega) (by omega), wrap_id (by omega) (by omega)]
    have ht : turn (turned p l 0 0)[k].v (quart (qs p qi qj dx dy)) = ((turned p l dx dy)[k].v, 0) := by
      rw [turn_quart hval, vt, turnV, hi, hj]
      rfl
    have e1 : (turned p l dx dy)[k].i = (turned p l 0 0)[k].i := by rw [vt]; rfl
    have e2 : (turned p l dx dy)[k].j = (turned p l 0 0)[k].j := by rw [vt]; rfl
    refine ⟨k, rfl, h8, by decide, _, idx h8, rfl, ?_⟩
    refine ⟨fun g1 => ?_, fun g1 => ?_⟩
    rotate_left
    · simp at g1; omega
    refine ⟨k, rfl, h8, by decide, _, idx h8, rfl, ?_⟩
    refine ⟨fun g2 => ?_, fun g2 => ?_⟩
    rotate_left
    · simp at g2; omega
    refine ⟨k, rfl, h8, by decide, _, idx h8, rfl, ?_⟩
    refine ⟨fun g3 => ?_, fun g3 => ?_⟩
    rotate_left
    · simp at g3; omega
    refine ⟨k, rfl, h8, by decide, _, idx h8, rfl, ?_⟩
    refine ⟨fun g4 => ?_, fun g4 => ?_⟩
    · simp at g4; omega
    refine ⟨k, rfl, h8, by decide, _, idx h8, rfl, ?_⟩
    refine ⟨qj, hj, hqj, by decide, _, idx hqj, rfl, ?_⟩
    refine ⟨k, rfl, h8, by decide, _, idx h8, rfl, ?_⟩
    refine ⟨qi, hi, hqi, by decide, _, idx hqi, rfl, ?_⟩
    refine ⟨k, rfl, h8, by decide, _, idx h8, rfl, ?_⟩
    refine ⟨qj, hj, hqj, by decide, _, idx hqj, rfl, ?_⟩
    refine ⟨k, rfl, h8, by decide, _, idx h8, rfl, ?_⟩
    refine ⟨qi, hi, hqi, by decide, _, idx hqi, rfl, ?_⟩
    refine ⟨k, rfl, h8, by decide, _, idx h8, rfl, ?_⟩
    refine ⟨by decide, by decide, ?_⟩
    refine ⟨[], resC ((turned p l dx dy)[k].v, 0), ?_, rfl, ?_⟩
    · show Ret Try.prog 33 [cx (turned p l 0 0)[k].v, i64 ((IntKind.i64.wrap ((IntKind.i64.wrap (IntKind.i64.wrap (dx * IntKind.i64.wrap (p[qj].x - p[qi].x)) + IntKind.i64.wrap (dy * IntKind.i64.wrap (p[qj].y - p[qi].y)))).tmod 4 + 4)).tmod 4)] [] _
      rw [hQ, (quart_w' (q := qs p qi qj dx dy)).1, ← ht]
      have := (quart_w' (q := qs p qi qj dx dy)).2
      exact c_turn _ _ (ok_valid hval) ⟨by omega, by omega⟩
    refine ⟨fun _ => ?_, fun h => absurd h (by first | decide | simp)⟩
    refine ⟨k, rfl, hkt, by decide, _, idx hkt, rfl, ?_⟩
    refine ⟨fun g5 => ?_, fun g5 => ?_⟩
    rotate_left
    · have g5 : (!eqPL [i64 (turned p l dx dy)[k].v.re, i64 (turned p l dx dy)[k].v.im, i64 (turned p l dx dy)[k].v.den] [i64 (turned p l dx dy)[k].v.re, i64 (turned p l dx dy)[k].v.im, i64 (turned p l dx dy)[k].v.den]) = true := g5
      rw [eqPL_cx] at g5
      simp at g5
    refine ⟨k, rfl, hkt, by decide, _, idx hkt, rfl, ?_⟩
    refine ⟨k, rfl, h8, by decide, _, idx h8, rfl, ?_⟩
    refine ⟨fun g6 => ?_, fun g6 => ?_⟩
    rotate_left
    · simp [e1] at g6
    refine ⟨k, rfl, hkt, by decide, _, idx hkt, rfl, ?_⟩
    refine ⟨k, rfl, h8, by decide, _, idx h8, rfl, ?_⟩
    refine ⟨fun g7 => ?_, fun g7 => ?_⟩
    · simp [e2] at g7
    refine ⟨k + 1, by show _ < _; simp; omega, ⟨rfl, rfl⟩, ⟨by show PV.v (.int _ _) = _; rw [succ_w (by omega)], trivial⟩, trivial, (by repeat' first | exact trivial | rfl | apply And.intro), h8⟩
  · simp at h8
    refine ⟨[], _, (skyShift l dx dy).frz, rfl, ?_⟩
    refine ⟨fun g1 => ?_, fun g1 => ?_⟩
    · simp at g1
      have e16 : (shift l dx dy).2 = 16 := by rcases shift_err hl dx dy with h | h; exact absurd h g1; exact h
      refine ⟨fun _ => ?_, fun h => absurd h (by first | decide | simp)⟩
      show SV.p (bl _) = _
      rw [e16]; rfl
    · simp at g1
      obtain ⟨m1, m2, m3⟩ := shift_ok hl g1
      refine ⟨[], resV (turned p l dx dy, 0), ?_, rfl, ?_⟩
      · show Ret Try.prog 18 [sl p, sl (shift l dx dy).1] [] _
        rw [m1]
        exact skySeeE (by rw [see_ok hp m2, turned_mv])
      have w1 : IntKind.i64.wrap (0 - dx) = -dx := by rw [wrap_id (by omega) (by omega)]; omega
      have w2 : IntKind.i64.wrap (0 - dy) = -dy := by rw [wrap_id (by omega) (by omega)]; omega
      refine ⟨[], resL (l, 0), ?_, rfl, ?_⟩
      · show Ret Try.prog 13 [sl (shift l dx dy).1, i64 (IntKind.i64.wrap (0 - dx)), i64 (IntKind.i64.wrap (0 - dy))] [] _
        rw [m1, w1, w2]
        exact skyShiftE m3
      refine ⟨fun _ => ?_, fun h => absurd h (by first | decide | simp)⟩
      refine ⟨fun _ => ?_, fun h => absurd h (by first | decide | simp)⟩
      refine ⟨[], _, refSameVis (turned p l dx dy) (turned p l dx dy) (by omega), rfl, ?_⟩
      refine ⟨fun g2 => ?_, fun g2 => ?_⟩
      rotate_left
      · simp at g2
      refine ⟨fun _ => ?_, fun h => absurd h (by first | decide | simp)⟩
      refine ⟨[], _, refSame l l (by omega), rfl, ?_⟩
      show SV.p (bl _) = _
      simp
end Go.Pv
