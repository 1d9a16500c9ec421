/- Contracts of the sky's functions: places, quarters, turns, See and the reference's. -/
import Derived.Test.YtiahapcnajnlkaaSkB
import Derived.Test.YtiahapcnajnlkaaPlSee
namespace Go.Pv
open Go.Vc
open Go.Proofs
set_option maxRecDepth 10000

theorem skyPlaces (ps : List Place) : Ret Try.prog 29 [sl ps] [] (.p (i64 (places ps))) := by
  refine ret (fn := Try.f29) (by kernel_rfl) (by kernel_rfl) rfl ?_
  refine ⟨fun h1 => ?_, fun h1 => ?_⟩
  · show SV.p (i64 _) = _
    simp at h1
    simp [places]; omega
  simp at h1
  refine ⟨fun h0 => ?_, fun h0 => ?_⟩
  · show SV.p (i64 _) = _
    simp at h0
    rw [places, if_neg (by omega), if_pos (by omega)]
  simp at h0
  refine ⟨Nat, { inv := fun k => k ≤ ps.length ∧ (ps.take k).all okP = true, slots := [(13, fun k => i64 k)], mu := fun k => ps.length - k }, 0, ⟨⟨rfl, trivial⟩, trivial, trivial, Nat.zero_le _, by simp⟩, ?_⟩
  intro k ⟨hk, hall⟩
  refine ⟨fun h2 => ?_, fun h2 => ?_⟩
  · simp at h2
    refine ⟨k, rfl, h2, by decide, _, idx h2, rfl, ?_⟩
    have bad : ¬ (-100 ≤ ps[k].x ∧ ps[k].x ≤ 100 ∧ -100 ≤ ps[k].y ∧ ps[k].y ≤ 100) → SV.p (i64 8) = SV.p (i64 (places ps)) := fun h => by rw [places_bad (by omega) (by omega) h2 h]
    refine ⟨fun h3 => ?_, fun h3 => ?_⟩
    · refine ⟨fun h4 => ?_, fun h4 => ?_⟩
      · refine ⟨fun h5 => ?_, fun h5 => ?_⟩
        · refine ⟨fun h6 => ?_, fun h6 => ?_⟩
          · simp at h3 h4 h5 h6
            exact bad (by omega)
          · simp at h3 h4 h5 h6
            refine ⟨k + 1, by show _ < _; simp; omega, ⟨rfl, rfl⟩, ⟨by show PV.v (.int _ _) = _; rw [succ_w (by omega)], trivial⟩, trivial, trivial, h2, ?_⟩
            rw [all_take_succ _ h2, hall]
            simp [okP]; omega
        · simp at h5
          exact bad (by omega)
      · simp at h4
        exact bad (by omega)
    · simp at h3
      exact bad (by omega)
  · show SV.p (i64 _) = _
    simp at h2
    have : k = ps.length := by omega
    subst this
    rw [List.take_length] at hall
    rw [places, if_neg (by omega), if_neg (by omega), if_pos hall]

theorem refPlaces (ps : List Place) : Ret Try.prog 19 [sl ps] [] (.p (i64 (places ps))) := by
  refine ret (fn := Try.f19) (by kernel_rfl) (by kernel_rfl) rfl ?_
  refine ⟨fun h1 => ?_, fun h1 => ?_⟩
  · show SV.p (i64 _) = _
    simp at h1
    simp [places]; omega
  simp at h1
  refine ⟨fun h0 => ?_, fun h0 => ?_⟩
  · show SV.p (i64 _) = _
    simp at h0
    rw [places, if_neg (by omega), if_pos (by omega)]
  simp at h0
  refine ⟨Nat, { inv := fun k => k ≤ ps.length ∧ (ps.take k).all okP = true, slots := [(3, fun k => i64 k)], mu := fun k => ps.length - k }, 0, ⟨⟨rfl, trivial⟩, trivial, trivial, Nat.zero_le _, by simp⟩, ?_⟩
  intro k ⟨hk, hall⟩
  refine ⟨fun h2 => ?_, fun h2 => ?_⟩
  · simp at h2
    refine ⟨k, rfl, h2, by decide, _, idx h2, rfl, ?_⟩
    have bad : ¬ (-100 ≤ ps[k].x ∧ ps[k].x ≤ 100 ∧ -100 ≤ ps[k].y ∧ ps[k].y ≤ 100) → SV.p (i64 8) = SV.p (i64 (places ps)) := fun h => by rw [places_bad (by omega) (by omega) h2 h]
    refine ⟨[], _, refIn _ _ _, rfl, ?_⟩
    refine ⟨fun h3 => ?_, fun h3 => ?_⟩
    · refine ⟨k, rfl, h2, by decide, _, idx h2, rfl, ?_⟩
      refine ⟨[], _, refIn _ _ _, rfl, ?_⟩
      refine ⟨fun h4 => ?_, fun h4 => ?_⟩
      · simp at h3 h4
        exact bad (by omega)
      · simp at h3 h4
        refine ⟨k + 1, by show _ < _; simp; omega, ⟨rfl, rfl⟩, ⟨by show PV.v (.int _ _) = _; rw [succ_w (by omega)], trivial⟩, trivial, trivial, h2, ?_⟩
        rw [all_take_succ _ h2, hall]
        simp [okP]; omega
    · simp at h3
      exact bad (by omega)
  · show SV.p (i64 _) = _
    simp at h2
    have : k = ps.length := by omega
    subst this
    rw [List.take_length] at hall
    rw [places, if_neg (by omega), if_neg (by omega), if_pos hall]

theorem refBoth (ps : List Place) (ls : List Lamp) : Ret Try.prog 36 [sl ps, sl ls] [] (.p (i64 (both41 ps ls))) := by
  refine ret (fn := Try.f36) (by kernel_rfl) (by kernel_rfl) rfl ?_
  refine ⟨[], _, refPlaces ps, rfl, ?_⟩
  refine ⟨fun h1 => ?_, fun h1 => ?_⟩
  · simp at h1
    show SV.p (i64 _) = _
    rw [both41, if_pos h1]
  · simp at h1
    refine ⟨[], _, refCheck ls, rfl, ?_⟩
    show SV.p (i64 _) = _
    rw [both41, if_neg (by simp [h1])]

theorem w_valid (ps : List Place) (ls : List Lamp) : Ret Try.prog 17 [sl ps, sl ls] [] (.p (bl (decide (ps.length ≤ 20 ∧ ls.length ≤ 40 ∧ both41 ps ls = 0)))) := by
  refine ret (fn := Try.f17) (by kernel_rfl) (by kernel_rfl) rfl ?_
  refine ⟨[], _, great ps ls, rfl, ?_⟩
  refine ⟨fun h1 => ?_, fun h1 => ?_⟩
  · refine ⟨[], _, refBoth ps ls, rfl, ?_⟩
    show SV.p (bl _) = _
    simp at h1
    by_cases e : both41 ps ls = 0
    · simp [e]; omega
    · simp [e]
  · show SV.p (bl _) = _
    simp at h1
    have : ¬ (ps.length ≤ 20 ∧ ls.length ≤ 40 ∧ both41 ps ls = 0) := by omega
    simp [this]

section
variable {p : List Place} (hp : ∀ a ∈ p, -100 ≤ a.x ∧ a.x ≤ 100 ∧ -100 ≤ a.y ∧ a.y ≤ 100) {i j : Nat} (hi : i < p.length) (hj : j < p.length) {x y : Int} (hx : -8 ≤ x ∧ x ≤ 8) (hy : -8 ≤ y ∧ y ≤ 8)
include hp hi hj hx hy

theorem skyQuarters : Ret Try.prog 38 [sl p, i64 i, i64 j, i64 x, i64 y] [] (.p (i64 (qs p i j x y))) := by
  refine ret (fn := Try.f38) (by kernel_rfl) (by kernel_rfl) rfl ?_
  refine ⟨j, rfl, hj, by decide, _, idx hj, rfl, ?_⟩
  refine ⟨i, rfl, hi, by decide, _, idx hi, rfl, ?_⟩
  refine ⟨j, rfl, hj, by decide, _, idx hj, rfl, ?_⟩
  refine ⟨i, rfl, hi, by decide, _, idx hi, rfl, ?_⟩
  have hb := qs_bound hp (i := i) (j := j) hx hy
  rw [qs, plc_get hi, plc_get hj] at hb
  show SV.p (i64 (IntKind.i64.wrap (IntKind.i64.wrap (x * IntKind.i64.wrap (p[j].x - p[i].x)) + IntKind.i64.wrap (y * IntKind.i64.wrap (p[j].y - p[i].y))))) = _
  rw [qs, plc_get hi, plc_get hj, wrap_id (n := p[j].x - p[i].x) (by omega) (by omega), wrap_id (n := p[j].y - p[i].y) (by omega) (by omega), wrap_id (n := x * (p[j].x - p[i].x)) (by omega) (by omega), wrap_id (n := y * (p[j].y - p[i].y)) (by omega) (by omega), wrap_id (by omega) (by omega)]

theorem refQuarters : Ret Try.prog 46 [sl p, i64 i, i64 j, i64 x, i64 y] [] (.p (i64 (qs p i j x y))) := by
  refine ret (fn := Try.f46) (by kernel_rfl) (by kernel_rfl) rfl ?_
  refine ⟨j, rfl, hj, by decide, _, idx hj, rfl, ?_⟩
  refine ⟨i, rfl, hi, by decide, _, idx hi, rfl, ?_⟩
  refine ⟨j, rfl, hj, by decide, _, idx hj, rfl, ?_⟩
  refine ⟨i, rfl, hi, by decide, _, idx hi, rfl, ?_⟩
  have hb := qs_bound hp (i := i) (j := j) hx hy
  rw [qs, plc_get hi, plc_get hj] at hb
  show SV.p (i64 (IntKind.i64.wrap (IntKind.i64.wrap (x * IntKind.i64.wrap (p[j].x - p[i].x)) + IntKind.i64.wrap (y * IntKind.i64.wrap (p[j].y - p[i].y))))) = _
  rw [qs, plc_get hi, plc_get hj, wrap_id (n := p[j].x - p[i].x) (by omega) (by omega), wrap_id (n := p[j].y - p[i].y) (by omega) (by omega), wrap_id (n := x * (p[j].x - p[i].x)) (by omega) (by omega), wrap_id (n := y * (p[j].y - p[i].y)) (by omega) (by omega), wrap_id (by omega) (by omega)]
end

theorem rot_rotN' (k : Nat) (a : Cx) : rot (rotN k a) = rotN (k + 1) a := by
  induction k generalizing a with
  | zero => rfl
  | succ k ih => show rot (rotN k (rot a)) = rotN (k + 1) (rot a); exact ih _

theorem rotN_fits' (k : Nat) {a : Cx} (h : fits a.re ∧ fits a.im) : fits (rotN k a).re ∧ fits (rotN k a).im := by
  induction k generalizing a with
  | zero => exact h
  | succ k ih => exact ih ⟨by unfold rot fits at *; simp only; omega, h.1⟩

theorem quart_w' {q : Int} : (IntKind.i64.wrap (q.tmod 4 + 4)).tmod 4 = (quart q : Int) ∧ quart q < 4 := by
  have h1 : -4 < q.tmod 4 ∧ q.tmod 4 < 4 := by
    have e := Int.tmod_eq_emod (a := q) (b := 4)
    split at e <;> omega
  have h2 : 0 ≤ (q.tmod 4 + 4).tmod 4 ∧ (q.tmod 4 + 4).tmod 4 < 4 := by
    rw [Int.tmod_eq_emod_of_nonneg (by omega)]; omega
  rw [wrap_id (by omega) (by omega)]
  unfold quart
  omega

abbrev cxv (a : Cx) : PV := .agg [i64 a.re, i64 a.im, i64 a.den]

theorem skyTurn (a : Cx) (q : Int) (ha : fits a.re ∧ fits a.im) : Ret Try.prog 37 [cxv a, i64 q] [] (.p (cxv (gtc q a))) := by
  refine ret (fn := Try.f37) (by kernel_rfl) (by kernel_rfl) rfl ?_
  obtain ⟨qw, q4⟩ := quart_w' (q := q)
  refine ⟨by decide, by decide, ?_⟩
  refine ⟨Nat, { inv := fun k => k ≤ quart q, slots := [(9, fun k => i64 k)], boxes := [(0, fun k => Enc.cs (rotN k a))], mu := fun k => quart q - k }, 0, ⟨⟨rfl, trivial⟩, trivial, (by repeat' first | exact trivial | rfl | apply And.intro), Nat.zero_le _⟩, ?_⟩
  intro k hk
  have hf := rotN_fits' k ha
  refine ⟨fun h2 => ?_, fun h2 => ?_⟩
  · have h2 : decide ((k : Int) < (IntKind.i64.wrap (q.tmod 4 + 4)).tmod 4) = true := h2
    rw [qw] at h2
    simp at h2
    have e : IntKind.i64.wrap (0 - (rotN k a).im) = -(rotN k a).im := by unfold fits at hf; rw [wrap_id (by omega) (by omega)]; omega
    have e2 : Enc.cs (rotN (k + 1) a) = [i64 (IntKind.i64.wrap (0 - (rotN k a).im)), i64 (rotN k a).re, i64 (rotN k a).den] := by rw [e, ← rot_rotN']; rfl
    refine ⟨k + 1, by show _ < _; simp; omega, ⟨rfl, rfl⟩, ⟨by show PV.v (.int _ _) = _; rw [succ_w (by omega)], trivial⟩, trivial, ?_, h2⟩
    refine ⟨?_, rfl, trivial⟩
    show _ = mapP (Enc.cs (rotN (k + 1) a))
    rw [e2]; rfl
  · have h2 : decide ((k : Int) < (IntKind.i64.wrap (q.tmod 4 + 4)).tmod 4) = false := h2
    rw [qw] at h2
    simp at h2
    have : k = quart q := by simp only at hk; omega
    subst this
    show SV.p (cxv (rotN (quart q) a)) = _
    rw [rotN_gtc]

/-- Gaussian integers. -/
abbrev gs (a : Int × Int) : PV := .agg [i64 a.1, i64 a.2]

theorem refTurn (a : Int × Int) (q : Int) (ha : fits a.1 ∧ fits a.2) : Ret Try.prog 44 [gs a, i64 q] [] (.p (gs (gt q a))) := by
  refine ret (fn := Try.f44) (by kernel_rfl) (by kernel_rfl) rfl ?_
  obtain ⟨qw, q4⟩ := quart_w' (q := q)
  refine ⟨by decide, by decide, ?_⟩
  have e0 : (IntKind.i64.wrap (q.tmod 4 + 4)).tmod 4 = ((quart q - 0 : Nat) : Int) := by simpa using qw
  refine ⟨Nat, { inv := fun k => k ≤ quart q, slots := [(5, fun k => i64 ((quart q - k : Nat) : Int))], boxes := [(0, fun k => [i64 (rotN k ⟨a.1, a.2, 1⟩).re, i64 (rotN k ⟨a.1, a.2, 1⟩).im])], mu := fun k => quart q - k }, 0, ⟨⟨?_, trivial⟩, trivial, (by repeat' first | exact trivial | rfl | apply And.intro), Nat.zero_le _⟩, ?_⟩
  · show PV.v (.int _ _) = _
    rw [e0]
  intro k hk
  have hf := rotN_fits' k (a := ⟨a.1, a.2, 1⟩) ha
  refine ⟨fun h2 => ?_, fun h2 => ?_⟩
  · simp at h2
    have e : IntKind.i64.wrap (0 - (rotN k ⟨a.1, a.2, 1⟩).im) = -(rotN k ⟨a.1, a.2, 1⟩).im := by unfold fits at hf; rw [wrap_id (by omega) (by omega)]; omega
    refine ⟨k + 1, by show _ < _; simp; omega, ⟨rfl, rfl⟩, ⟨?_, trivial⟩, trivial, ⟨?_, (by repeat' first | exact trivial | rfl | apply And.intro)⟩, by show k + 1 ≤ _; omega⟩
    · show PV.v (.int _ _) = _
      rw [wrap_id (by omega) (by omega)]
      congr 2; omega
    · show [SV.p (i64 (IntKind.i64.wrap (0 - (rotN k ⟨a.1, a.2, 1⟩).im))), SV.p (i64 (rotN k ⟨a.1, a.2, 1⟩).re)] = [SV.p (i64 (rotN (k + 1) ⟨a.1, a.2, 1⟩).re), SV.p (i64 (rotN (k + 1) ⟨a.1, a.2, 1⟩).im)]
      rw [e, ← rot_rotN']; rfl
  · simp at h2
    have : k = quart q := by simp only at hk; omega
    subst this
    show SV.p (.agg [i64 (rotN (quart q) ⟨a.1, a.2, 1⟩).re, i64 (rotN (quart q) ⟨a.1, a.2, 1⟩).im]) = _
    rw [rotN_gtc]; rfl
end Go.Pv
