/- ClosureTurns: the walk. -/
import Derived.Test.YtikimjgbbbajoaaCe
import Derived.Test.YtikimjgbbbajoaaPlCxm
namespace Go.Pv
open Go.Vc
open Go.Proofs
set_option maxRecDepth 10000

theorem r_circleL (c : List Int) (hc : c.length ≤ 9223372036854775807) : Ret Try.prog 18 [sl c] [] (.p (bl (decide (circle c)))) := by
  by_cases hc' : c.length ≤ 1000000
  · exact r_circle c hc'
  have hn : ¬ circle c := fun h => by have := h.2.1; omega
  rw [decide_eq_false hn]
  refine ret (fn := Try.f18) (by kernel_rfl) (by kernel_rfl) rfl ?_
  refine ⟨fun h1 => ?_, fun h1 => ?_⟩
  · refine ⟨fun h2 => ?_, fun h2 => ?_⟩
    · simp at h2
      omega
    · rfl
  · rfl

set_option maxHeartbeats 8000000 in
theorem closureTurns (l : List Vis) (c : List Int) (k : Int) (hl : ∀ v ∈ l, Enc.ok v) (hc : c.length ≤ maxLen) : Ret Try.prog 4 [sl l, sl c, i64 k] [] (.p (bl true)) := by
  refine ret (fn := Try.f4) (by kernel_rfl) (by kernel_rfl) rfl ?_
  refine ⟨[], _, w_alive, rfl, ?_⟩
  refine ⟨[], _, r_check27 l, rfl, ?_⟩
  refine ⟨fun h1 => ?_, fun h1 => ?_⟩
  rotate_left
  · rfl
  have h0 : ck27 l = 0 := by simpa using h1
  refine ⟨[], _, r_circleL c (by simpa only [maxLen] using hc), rfl, ?_⟩
  refine ⟨fun h2 => ?_, fun h2 => ?_⟩
  rotate_left
  · rfl
  have hci : circle c := by simpa using h2
  refine ⟨fun h3 => ?_, fun h3 => ?_⟩
  rotate_left
  · rfl
  refine ⟨fun h4 => ?_, fun h4 => ?_⟩
  rotate_left
  · rfl
  refine ⟨fun h5 => ?_, fun h5 => ?_⟩
  · rfl
  simp at h3 h4
  have hlen : 3 ≤ c.length ∧ c.length ≤ 8 := ⟨hci.1, hci.2.1⟩
  obtain ⟨k, rfl⟩ := Int.eq_ofNat_of_zero_le (show 0 ≤ k by omega)
  have hk : k < c.length := by omega
  obtain ⟨p, hp⟩ : ∃ p, phase l c = p := ⟨_, rfl⟩
  obtain ⟨q, hq⟩ : ∃ q, phase l (c.drop k ++ c.take k) = q := ⟨_, rfl⟩
  obtain ⟨r, hr⟩ : ∃ r, phase l c.reverse = r := ⟨_, rfl⟩
  obtain ⟨s1, s2⟩ := phase_rot h0 hci hk
  obtain ⟨s3, s4⟩ := phase_rev h0 hci
  have s5 := phase_ok h0 hci
  rw [hp, hq] at s1 s2
  rw [hp, hr] at s3 s4
  rw [hp] at s5
  refine ⟨Nat, { inv := fun i => i ≤ c.length, slots := [(9, fun i => i64 ((c.length : Int) - 1 - i))], rows := [(8, 3, 1, fun i => i, fun i => flat (c.reverse.take i))], mu := fun i => c.length - i }, 0, ⟨⟨?_, trivial⟩, ⟨⟨rfl, rfl⟩, trivial⟩, (by repeat' first | exact trivial | rfl | apply And.intro), Nat.zero_le _⟩, ?_⟩
  · show PV.v (.int _ _) = _
    rw [wrap_id (by omega) (by omega)]
    show _ = i64 ((c.length : Int) - 1 - ((0 : Nat) : Int))
    congr 2
    omega
  intro i hi
  have hi : i ≤ c.length := hi
  refine ⟨fun h2 => ?_, fun h2 => ?_⟩
  · have h2 : decide ((c.length : Int) - 1 - i ≥ 0) = true := h2
    rw [decide_eq_true_iff] at h2
    have hil : i < c.length := by omega
    have hidx : c.length - 1 - i < c.length := by omega
    have ei : (c.length : Int) - 1 - i = ((c.length - 1 - i : Nat) : Int) := by omega
    have hrev : c.reverse.take (i + 1) = c.reverse.take i ++ [c[c.length - 1 - i]] := by
      rw [List.take_succ_eq_append_getElem (by simpa using hil), List.getElem_reverse]
    refine ⟨c.length - 1 - i, ei, hidx, by decide, _, idx hidx, rfl, ?_⟩
    refine ⟨⟨by show i + 1 ≤ _; omega, by show (i + 1) * 8 ≤ _; omega⟩, ?_⟩
    refine ⟨i + 1, by show _ < _; simp; omega, ⟨rfl, rfl⟩, ⟨?_, trivial⟩, ⟨⟨rfl, ?_⟩, trivial⟩, (by repeat' first | exact trivial | rfl | apply And.intro), by show i + 1 ≤ _; omega⟩
    · show PV.v (.int _ (IntKind.i64.wrap ((c.length : Int) - 1 - i - 1))) = i64 ((c.length : Int) - 1 - ((i + 1 : Nat) : Int))
      rw [wrap_id (by omega) (by omega)]
      congr 2
      omega
    · show _ ++ _ = flat _
      rw [hrev, flat_append]; rfl
  have h2 : decide ((c.length : Int) - 1 - i ≥ 0) = false := h2
  rw [decide_eq_false_iff_not] at h2
  have : i = c.length := by omega
  subst this
  have eb : PV.sl false c.length (flat (c.reverse.take c.length)) = sl c.reverse := by
    have : c.reverse.take c.length = c.reverse := by rw [List.take_of_length_le (by simp)]
    rw [this]
    show _ = PV.sl false c.reverse.length _
    rw [List.length_reverse]
  have ea : PV.sl false (0 + (c.length - k) + (k - 0)) ([] ++ ((flat c).drop (k * 1)).take ((c.length - k) * 1) ++ ((flat c).drop (0 * 1)).take ((k - 0) * 1)) = sl (c.drop k ++ c.take k) := by
    have e1 : ((flat c).drop (k * 1)).take ((c.length - k) * 1) = flat ((c.drop k).take (c.length - k)) := flat_part c k c.length
    have e2 : ((flat c).drop (0 * 1)).take ((k - 0) * 1) = flat ((c.drop 0).take (k - 0)) := flat_part c 0 k
    have e3 : (c.drop k).take (c.length - k) = c.drop k := by rw [← List.length_drop, List.take_length]
    rw [e1, e2, e3]
    show _ = PV.sl false (c.drop k ++ c.take k).length (flat (c.drop k ++ c.take k))
    rw [flat_append, List.length_append, List.length_drop, List.length_take, Nat.min_eq_left (by omega)]
    simp
  have fl : (flat c).length = c.length * 1 := flat_length c
  have la : (((flat c).drop (k * 1)).take ((c.length - k) * 1)).length = (c.length - k) * 1 := by
    rw [List.length_take, List.length_drop, fl]; omega
  have lb : (((flat c).drop (0 * 1)).take ((k - 0) * 1)).length = (k - 0) * 1 := by
    rw [List.length_take, List.length_drop, fl]; omega
  refine ⟨[], _, l_phaseE hp hl (by omega), rfl, ?_⟩
  refine ⟨.take 0 (.take 2 (.take 3 (.take 4 (.take 6 (.take 7 (.take 8 (.alt 1 (.alt 5 (.alt 9 (.alt 10 (.take 11 (.take 12 (.take 13 (.alt 14 (.alt 15 (.alt 16 (.done) (.nil)) (.nil)) (.nil))))) (.alt 14 (.alt 10 (.take 11 (.take 12 (.take 13 (.alt 15 (.alt 16 (.done) (.nil)) (.nil))))) (.nil)) (.nil))) (.alt 14 (.alt 9 (.alt 10 (.take 11 (.take 12 (.take 13 (.alt 15 (.alt 16 (.done) (.nil)) (.nil))))) (.nil)) (.nil)) (.nil))) (.alt 14 (.alt 5 (.alt 9 (.alt 10 (.take 11 (.take 12 (.take 13 (.alt 15 (.alt 16 (.done) (.nil)) (.nil))))) (.nil)) (.nil)) (.nil)) (.nil))) (.alt 14 (.alt 1 (.alt 5 (.alt 9 (.alt 10 (.take 11 (.take 12 (.take 13 (.alt 15 (.alt 16 (.done) (.nil)) (.nil))))) (.nil)) (.nil)) (.nil)) (.nil)) (.nil))))))))), by kernel_rfl, ?_⟩
  refine ⟨by rw [flat_length]; rfl, k, rfl, Nat.le_of_lt hk, Nat.le_refl _, ?_⟩
  refine ⟨by rw [flat_length]; rfl, k, rfl, Nat.zero_le _, Nat.le_of_lt hk, ?_⟩
  refine And.intro ?_ ?_
  · refine And.intro ?_ ?_
    · refine ⟨la, ⟨by show 0 + (c.length - k) ≤ _; omega, by show (0 + (c.length - k)) * 8 ≤ _; omega⟩, false, (fun h => by cases h), ?_⟩
      refine And.intro ?_ ?_
      · refine ⟨lb, ⟨by show 0 + (c.length - k) + (k - 0) ≤ _; omega, by show (0 + (c.length - k) + (k - 0)) * 8 ≤ _; omega⟩, ?_⟩
        refine And.intro ?_ ?_
        · refine ⟨[], _, (show Ret Try.prog 19 [sl l, .sl false (0 + (c.length - k) + (k - 0)) ([] ++ ((flat c).drop (k * 1)).take ((c.length - k) * 1) ++ ((flat c).drop (0 * 1)).take ((k - 0) * 1))] [] (resC q) by rw [ea]; exact l_phaseE hq hl (by simp; omega)), rfl, ?_⟩
          refine ⟨[], _, (show Ret Try.prog 19 [sl l, .sl false c.length (flat (c.reverse.take c.length))] [] (resC r) by rw [eb]; exact l_phaseE hr hl (by simp; omega)), rfl, ?_⟩
          by_cases hE : p.2 = 0
          rotate_left
          · clear ea eb la lb hp hq hr s2 s4 s5 h0 hci hl
            repeat' (refine And.intro (fun _ => ?_) (fun _ => ?_))
            all_goals first | rfl | (exfalso; simp at *; omega)
          obtain ⟨pc, pe⟩ := p
          obtain ⟨qc, qe⟩ := q
          obtain ⟨rc, re⟩ := r
          simp only at hE s1 s2 s3 s4 s5
          subst hE
          obtain ⟨pv, pd, pg, _⟩ := s5 rfl
          obtain ⟨x, y, z⟩ := pc
          simp only at pd pg
          subst pd
          have hf : qe = 0 ∨ qe = 16 := by omega
          have hg : re = 0 ∨ re = 16 := by omega
          rcases hf with rfl | rfl <;> rcases hg with rfl | rfl
          · (repeat (first | refine And.intro (fun _ => ?_) (fun h => Bool.noConfusion (show true = false from h)) | refine And.intro (fun _ => ?_) (fun h => Bool.noConfusion (show false = true from h)) | refine And.intro (fun h => Bool.noConfusion (show false = true from h)) (fun _ => ?_) | refine And.intro (fun h => Bool.noConfusion (show true = false from h)) (fun _ => ?_)))
            refine ⟨[], _, (show Ret Try.prog 20 [cx ⟨x, y, 1⟩] [] (.p (i64 0)) by have := r_check ⟨x, y, 1⟩; rwa [chk, if_pos pv] at this), rfl, ?_⟩
            (repeat (first | refine And.intro (fun _ => ?_) (fun h => Bool.noConfusion (show true = false from h)) | refine And.intro (fun _ => ?_) (fun h => Bool.noConfusion (show false = true from h)) | refine And.intro (fun h => Bool.noConfusion (show false = true from h)) (fun _ => ?_) | refine And.intro (fun h => Bool.noConfusion (show true = false from h)) (fun _ => ?_)))
            refine ⟨[], _, (show Ret Try.prog 21 [i64 x, i64 y] [] (.p (i64 1)) by have := r_gcd x y (by have h : fits x := pv.2.2.1; unfold fits at h; omega) (by have h : fits y := pv.2.2.2.1; unfold fits at h; omega); rwa [pg] at this), rfl, ?_⟩
            (repeat (first | refine And.intro (fun _ => ?_) (fun h => Bool.noConfusion (show true = false from h)) | refine And.intro (fun _ => ?_) (fun h => Bool.noConfusion (show false = true from h)) | refine And.intro (fun h => Bool.noConfusion (show false = true from h)) (fun _ => ?_) | refine And.intro (fun h => Bool.noConfusion (show true = false from h)) (fun _ => ?_)))
            have e1 : (⟨x, y, 1⟩ : Cx) = qc := by have := s2 rfl rfl; simpa using this
            subst e1
            refine And.intro (fun _ => ?_) (fun h => ?_)
            rotate_left
            · have h : eqPL [i64 x, i64 y, i64 1] [i64 x, i64 y, i64 1] = false := h
              simp [eqPL, eqP] at h
            (repeat (first | refine And.intro (fun _ => ?_) (fun h => Bool.noConfusion (show true = false from h)) | refine And.intro (fun _ => ?_) (fun h => Bool.noConfusion (show false = true from h)) | refine And.intro (fun h => Bool.noConfusion (show false = true from h)) (fun _ => ?_) | refine And.intro (fun h => Bool.noConfusion (show true = false from h)) (fun _ => ?_)))
            have e2 : rc = conj ⟨x, y, 1⟩ := s4 rfl rfl
            subst e2
            refine ⟨_, r_apart ⟨x, y, 1⟩ pv, rfl, ?_⟩
            show SV.p (bl (eqPL [i64 x, i64 (-y), i64 1] [i64 x, i64 (-y), i64 1])) = SV.p (bl true)
            simp [eqPL, eqP]
          · (repeat (first | refine And.intro (fun _ => ?_) (fun h => Bool.noConfusion (show true = false from h)) | refine And.intro (fun _ => ?_) (fun h => Bool.noConfusion (show false = true from h)) | refine And.intro (fun h => Bool.noConfusion (show false = true from h)) (fun _ => ?_) | refine And.intro (fun h => Bool.noConfusion (show true = false from h)) (fun _ => ?_)))
            refine ⟨[], _, (show Ret Try.prog 20 [cx ⟨x, y, 1⟩] [] (.p (i64 0)) by have := r_check ⟨x, y, 1⟩; rwa [chk, if_pos pv] at this), rfl, ?_⟩
            (repeat (first | refine And.intro (fun _ => ?_) (fun h => Bool.noConfusion (show true = false from h)) | refine And.intro (fun _ => ?_) (fun h => Bool.noConfusion (show false = true from h)) | refine And.intro (fun h => Bool.noConfusion (show false = true from h)) (fun _ => ?_) | refine And.intro (fun h => Bool.noConfusion (show true = false from h)) (fun _ => ?_)))
            refine ⟨[], _, (show Ret Try.prog 21 [i64 x, i64 y] [] (.p (i64 1)) by have := r_gcd x y (by have h : fits x := pv.2.2.1; unfold fits at h; omega) (by have h : fits y := pv.2.2.2.1; unfold fits at h; omega); rwa [pg] at this), rfl, ?_⟩
            (repeat (first | refine And.intro (fun _ => ?_) (fun h => Bool.noConfusion (show true = false from h)) | refine And.intro (fun _ => ?_) (fun h => Bool.noConfusion (show false = true from h)) | refine And.intro (fun h => Bool.noConfusion (show false = true from h)) (fun _ => ?_) | refine And.intro (fun h => Bool.noConfusion (show true = false from h)) (fun _ => ?_)))
            have e1 : (⟨x, y, 1⟩ : Cx) = qc := by have := s2 rfl rfl; simpa using this
            subst e1
            refine And.intro (fun _ => ?_) (fun h => ?_)
            rotate_left
            · have h : eqPL [i64 x, i64 y, i64 1] [i64 x, i64 y, i64 1] = false := h
              simp [eqPL, eqP] at h
            (repeat (first | refine And.intro (fun _ => ?_) (fun h => Bool.noConfusion (show true = false from h)) | refine And.intro (fun _ => ?_) (fun h => Bool.noConfusion (show false = true from h)) | refine And.intro (fun h => Bool.noConfusion (show false = true from h)) (fun _ => ?_) | refine And.intro (fun h => Bool.noConfusion (show true = false from h)) (fun _ => ?_)))
            rfl
          · (repeat (first | refine And.intro (fun _ => ?_) (fun h => Bool.noConfusion (show true = false from h)) | refine And.intro (fun _ => ?_) (fun h => Bool.noConfusion (show false = true from h)) | refine And.intro (fun h => Bool.noConfusion (show false = true from h)) (fun _ => ?_) | refine And.intro (fun h => Bool.noConfusion (show true = false from h)) (fun _ => ?_)))
            refine ⟨[], _, (show Ret Try.prog 20 [cx ⟨x, y, 1⟩] [] (.p (i64 0)) by have := r_check ⟨x, y, 1⟩; rwa [chk, if_pos pv] at this), rfl, ?_⟩
            (repeat (first | refine And.intro (fun _ => ?_) (fun h => Bool.noConfusion (show true = false from h)) | refine And.intro (fun _ => ?_) (fun h => Bool.noConfusion (show false = true from h)) | refine And.intro (fun h => Bool.noConfusion (show false = true from h)) (fun _ => ?_) | refine And.intro (fun h => Bool.noConfusion (show true = false from h)) (fun _ => ?_)))
            refine ⟨[], _, (show Ret Try.prog 21 [i64 x, i64 y] [] (.p (i64 1)) by have := r_gcd x y (by have h : fits x := pv.2.2.1; unfold fits at h; omega) (by have h : fits y := pv.2.2.2.1; unfold fits at h; omega); rwa [pg] at this), rfl, ?_⟩
            (repeat (first | refine And.intro (fun _ => ?_) (fun h => Bool.noConfusion (show true = false from h)) | refine And.intro (fun _ => ?_) (fun h => Bool.noConfusion (show false = true from h)) | refine And.intro (fun h => Bool.noConfusion (show false = true from h)) (fun _ => ?_) | refine And.intro (fun h => Bool.noConfusion (show true = false from h)) (fun _ => ?_)))
            have e2 : rc = conj ⟨x, y, 1⟩ := s4 rfl rfl
            subst e2
            refine ⟨_, r_apart ⟨x, y, 1⟩ pv, rfl, ?_⟩
            show SV.p (bl (eqPL [i64 x, i64 (-y), i64 1] [i64 x, i64 (-y), i64 1])) = SV.p (bl true)
            simp [eqPL, eqP]
          · (repeat (first | refine And.intro (fun _ => ?_) (fun h => Bool.noConfusion (show true = false from h)) | refine And.intro (fun _ => ?_) (fun h => Bool.noConfusion (show false = true from h)) | refine And.intro (fun h => Bool.noConfusion (show false = true from h)) (fun _ => ?_) | refine And.intro (fun h => Bool.noConfusion (show true = false from h)) (fun _ => ?_)))
            refine ⟨[], _, (show Ret Try.prog 20 [cx ⟨x, y, 1⟩] [] (.p (i64 0)) by have := r_check ⟨x, y, 1⟩; rwa [chk, if_pos pv] at this), rfl, ?_⟩
            (repeat (first | refine And.intro (fun _ => ?_) (fun h => Bool.noConfusion (show true = false from h)) | refine And.intro (fun _ => ?_) (fun h => Bool.noConfusion (show false = true from h)) | refine And.intro (fun h => Bool.noConfusion (show false = true from h)) (fun _ => ?_) | refine And.intro (fun h => Bool.noConfusion (show true = false from h)) (fun _ => ?_)))
            refine ⟨[], _, (show Ret Try.prog 21 [i64 x, i64 y] [] (.p (i64 1)) by have := r_gcd x y (by have h : fits x := pv.2.2.1; unfold fits at h; omega) (by have h : fits y := pv.2.2.2.1; unfold fits at h; omega); rwa [pg] at this), rfl, ?_⟩
            (repeat (first | refine And.intro (fun _ => ?_) (fun h => Bool.noConfusion (show true = false from h)) | refine And.intro (fun _ => ?_) (fun h => Bool.noConfusion (show false = true from h)) | refine And.intro (fun h => Bool.noConfusion (show false = true from h)) (fun _ => ?_) | refine And.intro (fun h => Bool.noConfusion (show true = false from h)) (fun _ => ?_)))
            rfl
        · refine ⟨[], _, (show Ret Try.prog 19 [sl l, .sl false (0 + (c.length - k) + (k - 0)) ([] ++ ((flat c).drop (k * 1)).take ((c.length - k) * 1) ++ ((flat c).drop (0 * 1)).take ((k - 0) * 1))] [] (resC q) by rw [ea]; exact l_phaseE hq hl (by simp; omega)), rfl, ?_⟩
          refine ⟨[], _, (show Ret Try.prog 19 [sl l, .sl false c.length (flat (c.reverse.take c.length))] [] (resC r) by rw [eb]; exact l_phaseE hr hl (by simp; omega)), rfl, ?_⟩
          by_cases hE : p.2 = 0
          rotate_left
          · clear ea eb la lb hp hq hr s2 s4 s5 h0 hci hl
            repeat' (refine And.intro (fun _ => ?_) (fun _ => ?_))
            all_goals first | rfl | (exfalso; simp at *; omega)
          obtain ⟨pc, pe⟩ := p
          obtain ⟨qc, qe⟩ := q
          obtain ⟨rc, re⟩ := r
          simp only at hE s1 s2 s3 s4 s5
          subst hE
          obtain ⟨pv, pd, pg, _⟩ := s5 rfl
          obtain ⟨x, y, z⟩ := pc
          simp only at pd pg
          subst pd
          have hf : qe = 0 ∨ qe = 16 := by omega
          have hg : re = 0 ∨ re = 16 := by omega
          rcases hf with rfl | rfl <;> rcases hg with rfl | rfl
          · (repeat (first | refine And.intro (fun _ => ?_) (fun h => Bool.noConfusion (show true = false from h)) | refine And.intro (fun _ => ?_) (fun h => Bool.noConfusion (show false = true from h)) | refine And.intro (fun h => Bool.noConfusion (show false = true from h)) (fun _ => ?_) | refine And.intro (fun h => Bool.noConfusion (show true = false from h)) (fun _ => ?_)))
            refine ⟨[], _, (show Ret Try.prog 20 [cx ⟨x, y, 1⟩] [] (.p (i64 0)) by have := r_check ⟨x, y, 1⟩; rwa [chk, if_pos pv] at this), rfl, ?_⟩
            (repeat (first | refine And.intro (fun _ => ?_) (fun h => Bool.noConfusion (show true = false from h)) | refine And.intro (fun _ => ?_) (fun h => Bool.noConfusion (show false = true from h)) | refine And.intro (fun h => Bool.noConfusion (show false = true from h)) (fun _ => ?_) | refine And.intro (fun h => Bool.noConfusion (show true = false from h)) (fun _ => ?_)))
            refine ⟨[], _, (show Ret Try.prog 21 [i64 x, i64 y] [] (.p (i64 1)) by have := r_gcd x y (by have h : fits x := pv.2.2.1; unfold fits at h; omega) (by have h : fits y := pv.2.2.2.1; unfold fits at h; omega); rwa [pg] at this), rfl, ?_⟩
            (repeat (first | refine And.intro (fun _ => ?_) (fun h => Bool.noConfusion (show true = false from h)) | refine And.intro (fun _ => ?_) (fun h => Bool.noConfusion (show false = true from h)) | refine And.intro (fun h => Bool.noConfusion (show false = true from h)) (fun _ => ?_) | refine And.intro (fun h => Bool.noConfusion (show true = false from h)) (fun _ => ?_)))
            have e1 : (⟨x, y, 1⟩ : Cx) = qc := by have := s2 rfl rfl; simpa using this
            subst e1
            refine And.intro (fun _ => ?_) (fun h => ?_)
            rotate_left
            · have h : eqPL [i64 x, i64 y, i64 1] [i64 x, i64 y, i64 1] = false := h
              simp [eqPL, eqP] at h
            (repeat (first | refine And.intro (fun _ => ?_) (fun h => Bool.noConfusion (show true = false from h)) | refine And.intro (fun _ => ?_) (fun h => Bool.noConfusion (show false = true from h)) | refine And.intro (fun h => Bool.noConfusion (show false = true from h)) (fun _ => ?_) | refine And.intro (fun h => Bool.noConfusion (show true = false from h)) (fun _ => ?_)))
            have e2 : rc = conj ⟨x, y, 1⟩ := s4 rfl rfl
            subst e2
            refine ⟨_, r_apart ⟨x, y, 1⟩ pv, rfl, ?_⟩
            show SV.p (bl (eqPL [i64 x, i64 (-y), i64 1] [i64 x, i64 (-y), i64 1])) = SV.p (bl true)
            simp [eqPL, eqP]
          · (repeat (first | refine And.intro (fun _ => ?_) (fun h => Bool.noConfusion (show true = false from h)) | refine And.intro (fun _ => ?_) (fun h => Bool.noConfusion (show false = true from h)) | refine And.intro (fun h => Bool.noConfusion (show false = true from h)) (fun _ => ?_) | refine And.intro (fun h => Bool.noConfusion (show true = false from h)) (fun _ => ?_)))
            refine ⟨[], _, (show Ret Try.prog 20 [cx ⟨x, y, 1⟩] [] (.p (i64 0)) by have := r_check ⟨x, y, 1⟩; rwa [chk, if_pos pv] at this), rfl, ?_⟩
            (repeat (first | refine And.intro (fun _ => ?_) (fun h => Bool.noConfusion (show true = false from h)) | refine And.intro (fun _ => ?_) (fun h => Bool.noConfusion (show false = true from h)) | refine And.intro (fun h => Bool.noConfusion (show false = true from h)) (fun _ => ?_) | refine And.intro (fun h => Bool.noConfusion (show true = false from h)) (fun _ => ?_)))
            refine ⟨[], _, (show Ret Try.prog 21 [i64 x, i64 y] [] (.p (i64 1)) by have := r_gcd x y (by have h : fits x := pv.2.2.1; unfold fits at h; omega) (by have h : fits y := pv.2.2.2.1; unfold fits at h; omega); rwa [pg] at this), rfl, ?_⟩
            (repeat (first | refine And.intro (fun _ => ?_) (fun h => Bool.noConfusion (show true = false from h)) | refine And.intro (fun _ => ?_) (fun h => Bool.noConfusion (show false = true from h)) | refine And.intro (fun h => Bool.noConfusion (show false = true from h)) (fun _ => ?_) | refine And.intro (fun h => Bool.noConfusion (show true = false from h)) (fun _ => ?_)))
            have e1 : (⟨x, y, 1⟩ : Cx) = qc := by have := s2 rfl rfl; simpa using this
            subst e1
            refine And.intro (fun _ => ?_) (fun h => ?_)
            rotate_left
            · have h : eqPL [i64 x, i64 y, i64 1] [i64 x, i64 y, i64 1] = false := h
              simp [eqPL, eqP] at h
            (repeat (first | refine And.intro (fun _ => ?_) (fun h => Bool.noConfusion (show true = false from h)) | refine And.intro (fun _ => ?_) (fun h => Bool.noConfusion (show false = true from h)) | refine And.intro (fun h => Bool.noConfusion (show false = true from h)) (fun _ => ?_) | refine And.intro (fun h => Bool.noConfusion (show true = false from h)) (fun _ => ?_)))
            rfl
          · (repeat (first | refine And.intro (fun _ => ?_) (fun h => Bool.noConfusion (show true = false from h)) | refine And.intro (fun _ => ?_) (fun h => Bool.noConfusion (show false = true from h)) | refine And.intro (fun h => Bool.noConfusion (show false = true from h)) (fun _ => ?_) | refine And.intro (fun h => Bool.noConfusion (show true = false from h)) (fun _ => ?_)))
            refine ⟨[], _, (show Ret Try.prog 20 [cx ⟨x, y, 1⟩] [] (.p (i64 0)) by have := r_check ⟨x, y, 1⟩; rwa [chk, if_pos pv] at this), rfl, ?_⟩
            (repeat (first | refine And.intro (fun _ => ?_) (fun h => Bool.noConfusion (show true = false from h)) | refine And.intro (fun _ => ?_) (fun h => Bool.noConfusion (show false = true from h)) | refine And.intro (fun h => Bool.noConfusion (show false = true from h)) (fun _ => ?_) | refine And.intro (fun h => Bool.noConfusion (show true = false from h)) (fun _ => ?_)))
            refine ⟨[], _, (show Ret Try.prog 21 [i64 x, i64 y] [] (.p (i64 1)) by have := r_gcd x y (by have h : fits x := pv.2.2.1; unfold fits at h; omega) (by have h : fits y := pv.2.2.2.1; unfold fits at h; omega); rwa [pg] at this), rfl, ?_⟩
            (repeat (first | refine And.intro (fun _ => ?_) (fun h => Bool.noConfusion (show true = false from h)) | refine And.intro (fun _ => ?_) (fun h => Bool.noConfusion (show false = true from h)) | refine And.intro (fun h => Bool.noConfusion (show false = true from h)) (fun _ => ?_) | refine And.intro (fun h => Bool.noConfusion (show true = false from h)) (fun _ => ?_)))
            have e2 : rc = conj ⟨x, y, 1⟩ := s4 rfl rfl
            subst e2
            refine ⟨_, r_apart ⟨x, y, 1⟩ pv, rfl, ?_⟩
            show SV.p (bl (eqPL [i64 x, i64 (-y), i64 1] [i64 x, i64 (-y), i64 1])) = SV.p (bl true)
            simp [eqPL, eqP]
          · (repeat (first | refine And.intro (fun _ => ?_) (fun h => Bool.noConfusion (show true = false from h)) | refine And.intro (fun _ => ?_) (fun h => Bool.noConfusion (show false = true from h)) | refine And.intro (fun h => Bool.noConfusion (show false = true from h)) (fun _ => ?_) | refine And.intro (fun h => Bool.noConfusion (show true = false from h)) (fun _ => ?_)))
            refine ⟨[], _, (show Ret Try.prog 20 [cx ⟨x, y, 1⟩] [] (.p (i64 0)) by have := r_check ⟨x, y, 1⟩; rwa [chk, if_pos pv] at this), rfl, ?_⟩
            (repeat (first | refine And.intro (fun _ => ?_) (fun h => Bool.noConfusion (show true = false from h)) | refine And.intro (fun _ => ?_) (fun h => Bool.noConfusion (show false = true from h)) | refine And.intro (fun h => Bool.noConfusion (show false = true from h)) (fun _ => ?_) | refine And.intro (fun h => Bool.noConfusion (show true = false from h)) (fun _ => ?_)))
            refine ⟨[], _, (show Ret Try.prog 21 [i64 x, i64 y] [] (.p (i64 1)) by have := r_gcd x y (by have h : fits x := pv.2.2.1; unfold fits at h; omega) (by have h : fits y := pv.2.2.2.1; unfold fits at h; omega); rwa [pg] at this), rfl, ?_⟩
            (repeat (first | refine And.intro (fun _ => ?_) (fun h => Bool.noConfusion (show true = false from h)) | refine And.intro (fun _ => ?_) (fun h => Bool.noConfusion (show false = true from h)) | refine And.intro (fun h => Bool.noConfusion (show false = true from h)) (fun _ => ?_) | refine And.intro (fun h => Bool.noConfusion (show true = false from h)) (fun _ => ?_)))
            rfl
      · refine ⟨lb, ⟨by show 0 + (c.length - k) + (k - 0) ≤ _; omega, by show (0 + (c.length - k) + (k - 0)) * 8 ≤ _; omega⟩, ?_⟩
        refine ⟨[], _, (show Ret Try.prog 19 [sl l, .sl false (0 + (c.length - k) + (k - 0)) ([] ++ ((flat c).drop (k * 1)).take ((c.length - k) * 1) ++ ((flat c).drop (0 * 1)).take ((k - 0) * 1))] [] (resC q) by rw [ea]; exact l_phaseE hq hl (by simp; omega)), rfl, ?_⟩
        refine ⟨[], _, (show Ret Try.prog 19 [sl l, .sl false c.length (flat (c.reverse.take c.length))] [] (resC r) by rw [eb]; exact l_phaseE hr hl (by simp; omega)), rfl, ?_⟩
        by_cases hE : p.2 = 0
        rotate_left
        · clear ea eb la lb hp hq hr s2 s4 s5 h0 hci hl
          repeat' (refine And.intro (fun _ => ?_) (fun _ => ?_))
          all_goals first | rfl | (exfalso; simp at *; omega)
        obtain ⟨pc, pe⟩ := p
        obtain ⟨qc, qe⟩ := q
        obtain ⟨rc, re⟩ := r
        simp only at hE s1 s2 s3 s4 s5
        subst hE
        obtain ⟨pv, pd, pg, _⟩ := s5 rfl
        obtain ⟨x, y, z⟩ := pc
        simp only at pd pg
        subst pd
        have hf : qe = 0 ∨ qe = 16 := by omega
        have hg : re = 0 ∨ re = 16 := by omega
        rcases hf with rfl | rfl <;> rcases hg with rfl | rfl
        · (repeat (first | refine And.intro (fun _ => ?_) (fun h => Bool.noConfusion (show true = false from h)) | refine And.intro (fun _ => ?_) (fun h => Bool.noConfusion (show false = true from h)) | refine And.intro (fun h => Bool.noConfusion (show false = true from h)) (fun _ => ?_) | refine And.intro (fun h => Bool.noConfusion (show true = false from h)) (fun _ => ?_)))
          refine ⟨[], _, (show Ret Try.prog 20 [cx ⟨x, y, 1⟩] [] (.p (i64 0)) by have := r_check ⟨x, y, 1⟩; rwa [chk, if_pos pv] at this), rfl, ?_⟩
          (repeat (first | refine And.intro (fun _ => ?_) (fun h => Bool.noConfusion (show true = false from h)) | refine And.intro (fun _ => ?_) (fun h => Bool.noConfusion (show false = true from h)) | refine And.intro (fun h => Bool.noConfusion (show false = true from h)) (fun _ => ?_) | refine And.intro (fun h => Bool.noConfusion (show true = false from h)) (fun _ => ?_)))
          refine ⟨[], _, (show Ret Try.prog 21 [i64 x, i64 y] [] (.p (i64 1)) by have := r_gcd x y (by have h : fits x := pv.2.2.1; unfold fits at h; omega) (by have h : fits y := pv.2.2.2.1; unfold fits at h; omega); rwa [pg] at this), rfl, ?_⟩
          (repeat (first | refine And.intro (fun _ => ?_) (fun h => Bool.noConfusion (show true = false from h)) | refine And.intro (fun _ => ?_) (fun h => Bool.noConfusion (show false = true from h)) | refine And.intro (fun h => Bool.noConfusion (show false = true from h)) (fun _ => ?_) | refine And.intro (fun h => Bool.noConfusion (show true = false from h)) (fun _ => ?_)))
          have e1 : (⟨x, y, 1⟩ : Cx) = qc := by have := s2 rfl rfl; simpa using this
          subst e1
          refine And.intro (fun _ => ?_) (fun h => ?_)
          rotate_left
          · have h : eqPL [i64 x, i64 y, i64 1] [i64 x, i64 y, i64 1] = false := h
            simp [eqPL, eqP] at h
          (repeat (first | refine And.intro (fun _ => ?_) (fun h => Bool.noConfusion (show true = false from h)) | refine And.intro (fun _ => ?_) (fun h => Bool.noConfusion (show false = true from h)) | refine And.intro (fun h => Bool.noConfusion (show false = true from h)) (fun _ => ?_) | refine And.intro (fun h => Bool.noConfusion (show true = false from h)) (fun _ => ?_)))
          have e2 : rc = conj ⟨x, y, 1⟩ := s4 rfl rfl
          subst e2
          refine ⟨_, r_apart ⟨x, y, 1⟩ pv, rfl, ?_⟩
          show SV.p (bl (eqPL [i64 x, i64 (-y), i64 1] [i64 x, i64 (-y), i64 1])) = SV.p (bl true)
          simp [eqPL, eqP]
        · (repeat (first | refine And.intro (fun _ => ?_) (fun h => Bool.noConfusion (show true = false from h)) | refine And.intro (fun _ => ?_) (fun h => Bool.noConfusion (show false = true from h)) | refine And.intro (fun h => Bool.noConfusion (show false = true from h)) (fun _ => ?_) | refine And.intro (fun h => Bool.noConfusion (show true = false from h)) (fun _ => ?_)))
          refine ⟨[], _, (show Ret Try.prog 20 [cx ⟨x, y, 1⟩] [] (.p (i64 0)) by have := r_check ⟨x, y, 1⟩; rwa [chk, if_pos pv] at this), rfl, ?_⟩
          (repeat (first | refine And.intro (fun _ => ?_) (fun h => Bool.noConfusion (show true = false from h)) | refine And.intro (fun _ => ?_) (fun h => Bool.noConfusion (show false = true from h)) | refine And.intro (fun h => Bool.noConfusion (show false = true from h)) (fun _ => ?_) | refine And.intro (fun h => Bool.noConfusion (show true = false from h)) (fun _ => ?_)))
          refine ⟨[], _, (show Ret Try.prog 21 [i64 x, i64 y] [] (.p (i64 1)) by have := r_gcd x y (by have h : fits x := pv.2.2.1; unfold fits at h; omega) (by have h : fits y := pv.2.2.2.1; unfold fits at h; omega); rwa [pg] at this), rfl, ?_⟩
          (repeat (first | refine And.intro (fun _ => ?_) (fun h => Bool.noConfusion (show true = false from h)) | refine And.intro (fun _ => ?_) (fun h => Bool.noConfusion (show false = true from h)) | refine And.intro (fun h => Bool.noConfusion (show false = true from h)) (fun _ => ?_) | refine And.intro (fun h => Bool.noConfusion (show true = false from h)) (fun _ => ?_)))
          have e1 : (⟨x, y, 1⟩ : Cx) = qc := by have := s2 rfl rfl; simpa using this
          subst e1
          refine And.intro (fun _ => ?_) (fun h => ?_)
          rotate_left
          · have h : eqPL [i64 x, i64 y, i64 1] [i64 x, i64 y, i64 1] = false := h
            simp [eqPL, eqP] at h
          (repeat (first | refine And.intro (fun _ => ?_) (fun h => Bool.noConfusion (show true = false from h)) | refine And.intro (fun _ => ?_) (fun h => Bool.noConfusion (show false = true from h)) | refine And.intro (fun h => Bool.noConfusion (show false = true from h)) (fun _ => ?_) | refine And.intro (fun h => Bool.noConfusion (show true = false from h)) (fun _ => ?_)))
          rfl
        · (repeat (first | refine And.intro (fun _ => ?_) (fun h => Bool.noConfusion (show true = false from h)) | refine And.intro (fun _ => ?_) (fun h => Bool.noConfusion (show false = true from h)) | refine And.intro (fun h => Bool.noConfusion (show false = true from h)) (fun _ => ?_) | refine And.intro (fun h => Bool.noConfusion (show true = false from h)) (fun _ => ?_)))
          refine ⟨[], _, (show Ret Try.prog 20 [cx ⟨x, y, 1⟩] [] (.p (i64 0)) by have := r_check ⟨x, y, 1⟩; rwa [chk, if_pos pv] at this), rfl, ?_⟩
          (repeat (first | refine And.intro (fun _ => ?_) (fun h => Bool.noConfusion (show true = false from h)) | refine And.intro (fun _ => ?_) (fun h => Bool.noConfusion (show false = true from h)) | refine And.intro (fun h => Bool.noConfusion (show false = true from h)) (fun _ => ?_) | refine And.intro (fun h => Bool.noConfusion (show true = false from h)) (fun _ => ?_)))
          refine ⟨[], _, (show Ret Try.prog 21 [i64 x, i64 y] [] (.p (i64 1)) by have := r_gcd x y (by have h : fits x := pv.2.2.1; unfold fits at h; omega) (by have h : fits y := pv.2.2.2.1; unfold fits at h; omega); rwa [pg] at this), rfl, ?_⟩
          (repeat (first | refine And.intro (fun _ => ?_) (fun h => Bool.noConfusion (show true = false from h)) | refine And.intro (fun _ => ?_) (fun h => Bool.noConfusion (show false = true from h)) | refine And.intro (fun h => Bool.noConfusion (show false = true from h)) (fun _ => ?_) | refine And.intro (fun h => Bool.noConfusion (show true = false from h)) (fun _ => ?_)))
          have e2 : rc = conj ⟨x, y, 1⟩ := s4 rfl rfl
          subst e2
          refine ⟨_, r_apart ⟨x, y, 1⟩ pv, rfl, ?_⟩
          show SV.p (bl (eqPL [i64 x, i64 (-y), i64 1] [i64 x, i64 (-y), i64 1])) = SV.p (bl true)
          simp [eqPL, eqP]
        · (repeat (first | refine And.intro (fun _ => ?_) (fun h => Bool.noConfusion (show true = false from h)) | refine And.intro (fun _ => ?_) (fun h => Bool.noConfusion (show false = true from h)) | refine And.intro (fun h => Bool.noConfusion (show false = true from h)) (fun _ => ?_) | refine And.intro (fun h => Bool.noConfusion (show true = false from h)) (fun _ => ?_)))
          refine ⟨[], _, (show Ret Try.prog 20 [cx ⟨x, y, 1⟩] [] (.p (i64 0)) by have := r_check ⟨x, y, 1⟩; rwa [chk, if_pos pv] at this), rfl, ?_⟩
          (repeat (first | refine And.intro (fun _ => ?_) (fun h => Bool.noConfusion (show true = false from h)) | refine And.intro (fun _ => ?_) (fun h => Bool.noConfusion (show false = true from h)) | refine And.intro (fun h => Bool.noConfusion (show false = true from h)) (fun _ => ?_) | refine And.intro (fun h => Bool.noConfusion (show true = false from h)) (fun _ => ?_)))
          refine ⟨[], _, (show Ret Try.prog 21 [i64 x, i64 y] [] (.p (i64 1)) by have := r_gcd x y (by have h : fits x := pv.2.2.1; unfold fits at h; omega) (by have h : fits y := pv.2.2.2.1; unfold fits at h; omega); rwa [pg] at this), rfl, ?_⟩
          (repeat (first | refine And.intro (fun _ => ?_) (fun h => Bool.noConfusion (show true = false from h)) | refine And.intro (fun _ => ?_) (fun h => Bool.noConfusion (show false = true from h)) | refine And.intro (fun h => Bool.noConfusion (show false = true from h)) (fun _ => ?_) | refine And.intro (fun h => Bool.noConfusion (show true = false from h)) (fun _ => ?_)))
          rfl
    · refine ⟨la, ⟨by show 0 + (c.length - k) ≤ _; omega, by show (0 + (c.length - k)) * 8 ≤ _; omega⟩, false, (fun h => by cases h), ?_⟩
      refine ⟨lb, ⟨by show 0 + (c.length - k) + (k - 0) ≤ _; omega, by show (0 + (c.length - k) + (k - 0)) * 8 ≤ _; omega⟩, ?_⟩
      refine ⟨[], _, (show Ret Try.prog 19 [sl l, .sl false (0 + (c.length - k) + (k - 0)) ([] ++ ((flat c).drop (k * 1)).take ((c.length - k) * 1) ++ ((flat c).drop (0 * 1)).take ((k - 0) * 1))] [] (resC q) by rw [ea]; exact l_phaseE hq hl (by simp; omega)), rfl, ?_⟩
      refine ⟨[], _, (show Ret Try.prog 19 [sl l, .sl false c.length (flat (c.reverse.take c.length))] [] (resC r) by rw [eb]; exact l_phaseE hr hl (by simp; omega)), rfl, ?_⟩
      by_cases hE : p.2 = 0
      rotate_left
      · clear ea eb la lb hp hq hr s2 s4 s5 h0 hci hl
        repeat' (refine And.intro (fun _ => ?_) (fun _ => ?_))
        all_goals first | rfl | (exfalso; simp at *; omega)
      obtain ⟨pc, pe⟩ := p
      obtain ⟨qc, qe⟩ := q
      obtain ⟨rc, re⟩ := r
      simp only at hE s1 s2 s3 s4 s5
      subst hE
      obtain ⟨pv, pd, pg, _⟩ := s5 rfl
      obtain ⟨x, y, z⟩ := pc
      simp only at pd pg
      subst pd
      have hf : qe = 0 ∨ qe = 16 := by omega
      have hg : re = 0 ∨ re = 16 := by omega
      rcases hf with rfl | rfl <;> rcases hg with rfl | rfl
      · (repeat (first | refine And.intro (fun _ => ?_) (fun h => Bool.noConfusion (show true = false from h)) | refine And.intro (fun _ => ?_) (fun h => Bool.noConfusion (show false = true from h)) | refine And.intro (fun h => Bool.noConfusion (show false = true from h)) (fun _ => ?_) | refine And.intro (fun h => Bool.noConfusion (show true = false from h)) (fun _ => ?_)))
        refine ⟨[], _, (show Ret Try.prog 20 [cx ⟨x, y, 1⟩] [] (.p (i64 0)) by have := r_check ⟨x, y, 1⟩; rwa [chk, if_pos pv] at this), rfl, ?_⟩
        (repeat (first | refine And.intro (fun _ => ?_) (fun h => Bool.noConfusion (show true = false from h)) | refine And.intro (fun _ => ?_) (fun h => Bool.noConfusion (show false = true from h)) | refine And.intro (fun h => Bool.noConfusion (show false = true from h)) (fun _ => ?_) | refine And.intro (fun h => Bool.noConfusion (show true = false from h)) (fun _ => ?_)))
        refine ⟨[], _, (show Ret Try.prog 21 [i64 x, i64 y] [] (.p (i64 1)) by have := r_gcd x y (by have h : fits x := pv.2.2.1; unfold fits at h; omega) (by have h : fits y := pv.2.2.2.1; unfold fits at h; omega); rwa [pg] at this), rfl, ?_⟩
        (repeat (first | refine And.intro (fun _ => ?_) (fun h => Bool.noConfusion (show true = false from h)) | refine And.intro (fun _ => ?_) (fun h => Bool.noConfusion (show false = true from h)) | refine And.intro (fun h => Bool.noConfusion (show false = true from h)) (fun _ => ?_) | refine And.intro (fun h => Bool.noConfusion (show true = false from h)) (fun _ => ?_)))
        have e1 : (⟨x, y, 1⟩ : Cx) = qc := by have := s2 rfl rfl; simpa using this
        subst e1
        refine And.intro (fun _ => ?_) (fun h => ?_)
        rotate_left
        · have h : eqPL [i64 x, i64 y, i64 1] [i64 x, i64 y, i64 1] = false := h
          simp [eqPL, eqP] at h
        (repeat (first | refine And.intro (fun _ => ?_) (fun h => Bool.noConfusion (show true = false from h)) | refine And.intro (fun _ => ?_) (fun h => Bool.noConfusion (show false = true from h)) | refine And.intro (fun h => Bool.noConfusion (show false = true from h)) (fun _ => ?_) | refine And.intro (fun h => Bool.noConfusion (show true = false from h)) (fun _ => ?_)))
        have e2 : rc = conj ⟨x, y, 1⟩ := s4 rfl rfl
        subst e2
        refine ⟨_, r_apart ⟨x, y, 1⟩ pv, rfl, ?_⟩
        show SV.p (bl (eqPL [i64 x, i64 (-y), i64 1] [i64 x, i64 (-y), i64 1])) = SV.p (bl true)
        simp [eqPL, eqP]
      · (repeat (first | refine And.intro (fun _ => ?_) (fun h => Bool.noConfusion (show true = false from h)) | refine And.intro (fun _ => ?_) (fun h => Bool.noConfusion (show false = true from h)) | refine And.intro (fun h => Bool.noConfusion (show false = true from h)) (fun _ => ?_) | refine And.intro (fun h => Bool.noConfusion (show true = false from h)) (fun _ => ?_)))
        refine ⟨[], _, (show Ret Try.prog 20 [cx ⟨x, y, 1⟩] [] (.p (i64 0)) by have := r_check ⟨x, y, 1⟩; rwa [chk, if_pos pv] at this), rfl, ?_⟩
        (repeat (first | refine And.intro (fun _ => ?_) (fun h => Bool.noConfusion (show true = false from h)) | refine And.intro (fun _ => ?_) (fun h => Bool.noConfusion (show false = true from h)) | refine And.intro (fun h => Bool.noConfusion (show false = true from h)) (fun _ => ?_) | refine And.intro (fun h => Bool.noConfusion (show true = false from h)) (fun _ => ?_)))
        refine ⟨[], _, (show Ret Try.prog 21 [i64 x, i64 y] [] (.p (i64 1)) by have := r_gcd x y (by have h : fits x := pv.2.2.1; unfold fits at h; omega) (by have h : fits y := pv.2.2.2.1; unfold fits at h; omega); rwa [pg] at this), rfl, ?_⟩
        (repeat (first | refine And.intro (fun _ => ?_) (fun h => Bool.noConfusion (show true = false from h)) | refine And.intro (fun _ => ?_) (fun h => Bool.noConfusion (show false = true from h)) | refine And.intro (fun h => Bool.noConfusion (show false = true from h)) (fun _ => ?_) | refine And.intro (fun h => Bool.noConfusion (show true = false from h)) (fun _ => ?_)))
        have e1 : (⟨x, y, 1⟩ : Cx) = qc := by have := s2 rfl rfl; simpa using this
        subst e1
        refine And.intro (fun _ => ?_) (fun h => ?_)
        rotate_left
        · have h : eqPL [i64 x, i64 y, i64 1] [i64 x, i64 y, i64 1] = false := h
          simp [eqPL, eqP] at h
        (repeat (first | refine And.intro (fun _ => ?_) (fun h => Bool.noConfusion (show true = false from h)) | refine And.intro (fun _ => ?_) (fun h => Bool.noConfusion (show false = true from h)) | refine And.intro (fun h => Bool.noConfusion (show false = true from h)) (fun _ => ?_) | refine And.intro (fun h => Bool.noConfusion (show true = false from h)) (fun _ => ?_)))
        rfl
      · (repeat (first | refine And.intro (fun _ => ?_) (fun h => Bool.noConfusion (show true = false from h)) | refine And.intro (fun _ => ?_) (fun h => Bool.noConfusion (show false = true from h)) | refine And.intro (fun h => Bool.noConfusion (show false = true from h)) (fun _ => ?_) | refine And.intro (fun h => Bool.noConfusion (show true = false from h)) (fun _ => ?_)))
        refine ⟨[], _, (show Ret Try.prog 20 [cx ⟨x, y, 1⟩] [] (.p (i64 0)) by have := r_check ⟨x, y, 1⟩; rwa [chk, if_pos pv] at this), rfl, ?_⟩
        (repeat (first | refine And.intro (fun _ => ?_) (fun h => Bool.noConfusion (show true = false from h)) | refine And.intro (fun _ => ?_) (fun h => Bool.noConfusion (show false = true from h)) | refine And.intro (fun h => Bool.noConfusion (show false = true from h)) (fun _ => ?_) | refine And.intro (fun h => Bool.noConfusion (show true = false from h)) (fun _ => ?_)))
        refine ⟨[], _, (show Ret Try.prog 21 [i64 x, i64 y] [] (.p (i64 1)) by have := r_gcd x y (by have h : fits x := pv.2.2.1; unfold fits at h; omega) (by have h : fits y := pv.2.2.2.1; unfold fits at h; omega); rwa [pg] at this), rfl, ?_⟩
        (repeat (first | refine And.intro (fun _ => ?_) (fun h => Bool.noConfusion (show true = false from h)) | refine And.intro (fun _ => ?_) (fun h => Bool.noConfusion (show false = true from h)) | refine And.intro (fun h => Bool.noConfusion (show false = true from h)) (fun _ => ?_) | refine And.intro (fun h => Bool.noConfusion (show true = false from h)) (fun _ => ?_)))
        have e2 : rc = conj ⟨x, y, 1⟩ := s4 rfl rfl
        subst e2
        refine ⟨_, r_apart ⟨x, y, 1⟩ pv, rfl, ?_⟩
        show SV.p (bl (eqPL [i64 x, i64 (-y), i64 1] [i64 x, i64 (-y), i64 1])) = SV.p (bl true)
        simp [eqPL, eqP]
      · (repeat (first | refine And.intro (fun _ => ?_) (fun h => Bool.noConfusion (show true = false from h)) | refine And.intro (fun _ => ?_) (fun h => Bool.noConfusion (show false = true from h)) | refine And.intro (fun h => Bool.noConfusion (show false = true from h)) (fun _ => ?_) | refine And.intro (fun h => Bool.noConfusion (show true = false from h)) (fun _ => ?_)))
        refine ⟨[], _, (show Ret Try.prog 20 [cx ⟨x, y, 1⟩] [] (.p (i64 0)) by have := r_check ⟨x, y, 1⟩; rwa [chk, if_pos pv] at this), rfl, ?_⟩
        (repeat (first | refine And.intro (fun _ => ?_) (fun h => Bool.noConfusion (show true = false from h)) | refine And.intro (fun _ => ?_) (fun h => Bool.noConfusion (show false = true from h)) | refine And.intro (fun h => Bool.noConfusion (show false = true from h)) (fun _ => ?_) | refine And.intro (fun h => Bool.noConfusion (show true = false from h)) (fun _ => ?_)))
        refine ⟨[], _, (show Ret Try.prog 21 [i64 x, i64 y] [] (.p (i64 1)) by have := r_gcd x y (by have h : fits x := pv.2.2.1; unfold fits at h; omega) (by have h : fits y := pv.2.2.2.1; unfold fits at h; omega); rwa [pg] at this), rfl, ?_⟩
        (repeat (first | refine And.intro (fun _ => ?_) (fun h => Bool.noConfusion (show true = false from h)) | refine And.intro (fun _ => ?_) (fun h => Bool.noConfusion (show false = true from h)) | refine And.intro (fun h => Bool.noConfusion (show false = true from h)) (fun _ => ?_) | refine And.intro (fun h => Bool.noConfusion (show true = false from h)) (fun _ => ?_)))
        rfl
  · refine ⟨la, ⟨by show 0 + (c.length - k) ≤ _; omega, by show (0 + (c.length - k)) * 8 ≤ _; omega⟩, false, (fun h => by cases h), ?_⟩
    refine ⟨lb, ⟨by show 0 + (c.length - k) + (k - 0) ≤ _; omega, by show (0 + (c.length - k) + (k - 0)) * 8 ≤ _; omega⟩, ?_⟩
    refine ⟨[], _, (show Ret Try.prog 19 [sl l, .sl false (0 + (c.length - k) + (k - 0)) ([] ++ ((flat c).drop (k * 1)).take ((c.length - k) * 1) ++ ((flat c).drop (0 * 1)).take ((k - 0) * 1))] [] (resC q) by rw [ea]; exact l_phaseE hq hl (by simp; omega)), rfl, ?_⟩
    refine ⟨[], _, (show Ret Try.prog 19 [sl l, .sl false c.length (flat (c.reverse.take c.length))] [] (resC r) by rw [eb]; exact l_phaseE hr hl (by simp; omega)), rfl, ?_⟩
    by_cases hE : p.2 = 0
    rotate_left
    · clear ea eb la lb hp hq hr s2 s4 s5 h0 hci hl
      repeat' (refine And.intro (fun _ => ?_) (fun _ => ?_))
      all_goals first | rfl | (exfalso; simp at *; omega)
    obtain ⟨pc, pe⟩ := p
    obtain ⟨qc, qe⟩ := q
    obtain ⟨rc, re⟩ := r
    simp only at hE s1 s2 s3 s4 s5
    subst hE
    obtain ⟨pv, pd, pg, _⟩ := s5 rfl
    obtain ⟨x, y, z⟩ := pc
    simp only at pd pg
    subst pd
    have hf : qe = 0 ∨ qe = 16 := by omega
    have hg : re = 0 ∨ re = 16 := by omega
    rcases hf with rfl | rfl <;> rcases hg with rfl | rfl
    · (repeat (first | refine And.intro (fun _ => ?_) (fun h => Bool.noConfusion (show true = false from h)) | refine And.intro (fun _ => ?_) (fun h => Bool.noConfusion (show false = true from h)) | refine And.intro (fun h => Bool.noConfusion (show false = true from h)) (fun _ => ?_) | refine And.intro (fun h => Bool.noConfusion (show true = false from h)) (fun _ => ?_)))
      refine ⟨[], _, (show Ret Try.prog 20 [cx ⟨x, y, 1⟩] [] (.p (i64 0)) by have := r_check ⟨x, y, 1⟩; rwa [chk, if_pos pv] at this), rfl, ?_⟩
      (repeat (first | refine And.intro (fun _ => ?_) (fun h => Bool.noConfusion (show true = false from h)) | refine And.intro (fun _ => ?_) (fun h => Bool.noConfusion (show false = true from h)) | refine And.intro (fun h => Bool.noConfusion (show false = true from h)) (fun _ => ?_) | refine And.intro (fun h => Bool.noConfusion (show true = false from h)) (fun _ => ?_)))
      refine ⟨[], _, (show Ret Try.prog 21 [i64 x, i64 y] [] (.p (i64 1)) by have := r_gcd x y (by have h : fits x := pv.2.2.1; unfold fits at h; omega) (by have h : fits y := pv.2.2.2.1; unfold fits at h; omega); rwa [pg] at this), rfl, ?_⟩
      (repeat (first | refine And.intro (fun _ => ?_) (fun h => Bool.noConfusion (show true = false from h)) | refine And.intro (fun _ => ?_) (fun h => Bool.noConfusion (show false = true from h)) | refine And.intro (fun h => Bool.noConfusion (show false = true from h)) (fun _ => ?_) | refine And.intro (fun h => Bool.noConfusion (show true = false from h)) (fun _ => ?_)))
      have e1 : (⟨x, y, 1⟩ : Cx) = qc := by have := s2 rfl rfl; simpa using this
      subst e1
      refine And.intro (fun _ => ?_) (fun h => ?_)
      rotate_left
      · have h : eqPL [i64 x, i64 y, i64 1] [i64 x, i64 y, i64 1] = false := h
        simp [eqPL, eqP] at h
      (repeat (first | refine And.intro (fun _ => ?_) (fun h => Bool.noConfusion (show true = false from h)) | refine And.intro (fun _ => ?_) (fun h => Bool.noConfusion (show false = true from h)) | refine And.intro (fun h => Bool.noConfusion (show false = true from h)) (fun _ => ?_) | refine And.intro (fun h => Bool.noConfusion (show true = false from h)) (fun _ => ?_)))
      have e2 : rc = conj ⟨x, y, 1⟩ := s4 rfl rfl
      subst e2
      refine ⟨_, r_apart ⟨x, y, 1⟩ pv, rfl, ?_⟩
      show SV.p (bl (eqPL [i64 x, i64 (-y), i64 1] [i64 x, i64 (-y), i64 1])) = SV.p (bl true)
      simp [eqPL, eqP]
    · (repeat (first | refine And.intro (fun _ => ?_) (fun h => Bool.noConfusion (show true = false from h)) | refine And.intro (fun _ => ?_) (fun h => Bool.noConfusion (show false = true from h)) | refine And.intro (fun h => Bool.noConfusion (show false = true from h)) (fun _ => ?_) | refine And.intro (fun h => Bool.noConfusion (show true = false from h)) (fun _ => ?_)))
      refine ⟨[], _, (show Ret Try.prog 20 [cx ⟨x, y, 1⟩] [] (.p (i64 0)) by have := r_check ⟨x, y, 1⟩; rwa [chk, if_pos pv] at this), rfl, ?_⟩
      (repeat (first | refine And.intro (fun _ => ?_) (fun h => Bool.noConfusion (show true = false from h)) | refine And.intro (fun _ => ?_) (fun h => Bool.noConfusion (show false = true from h)) | refine And.intro (fun h => Bool.noConfusion (show false = true from h)) (fun _ => ?_) | refine And.intro (fun h => Bool.noConfusion (show true = false from h)) (fun _ => ?_)))
      refine ⟨[], _, (show Ret Try.prog 21 [i64 x, i64 y] [] (.p (i64 1)) by have := r_gcd x y (by have h : fits x := pv.2.2.1; unfold fits at h; omega) (by have h : fits y := pv.2.2.2.1; unfold fits at h; omega); rwa [pg] at this), rfl, ?_⟩
      (repeat (first | refine And.intro (fun _ => ?_) (fun h => Bool.noConfusion (show true = false from h)) | refine And.intro (fun _ => ?_) (fun h => Bool.noConfusion (show false = true from h)) | refine And.intro (fun h => Bool.noConfusion (show false = true from h)) (fun _ => ?_) | refine And.intro (fun h => Bool.noConfusion (show true = false from h)) (fun _ => ?_)))
      have e1 : (⟨x, y, 1⟩ : Cx) = qc := by have := s2 rfl rfl; simpa using this
      subst e1
      refine And.intro (fun _ => ?_) (fun h => ?_)
      rotate_left
      · have h : eqPL [i64 x, i64 y, i64 1] [i64 x, i64 y, i64 1] = false := h
        simp [eqPL, eqP] at h
      (repeat (first | refine And.intro (fun _ => ?_) (fun h => Bool.noConfusion (show true = false from h)) | refine And.intro (fun _ => ?_) (fun h => Bool.noConfusion (show false = true from h)) | refine And.intro (fun h => Bool.noConfusion (show false = true from h)) (fun _ => ?_) | refine And.intro (fun h => Bool.noConfusion (show true = false from h)) (fun _ => ?_)))
      rfl
    · (repeat (first | refine And.intro (fun _ => ?_) (fun h => Bool.noConfusion (show true = false from h)) | refine And.intro (fun _ => ?_) (fun h => Bool.noConfusion (show false = true from h)) | refine And.intro (fun h => Bool.noConfusion (show false = true from h)) (fun _ => ?_) | refine And.intro (fun h => Bool.noConfusion (show true = false from h)) (fun _ => ?_)))
      refine ⟨[], _, (show Ret Try.prog 20 [cx ⟨x, y, 1⟩] [] (.p (i64 0)) by have := r_check ⟨x, y, 1⟩; rwa [chk, if_pos pv] at this), rfl, ?_⟩
      (repeat (first | refine And.intro (fun _ => ?_) (fun h => Bool.noConfusion (show true = false from h)) | refine And.intro (fun _ => ?_) (fun h => Bool.noConfusion (show false = true from h)) | refine And.intro (fun h => Bool.noConfusion (show false = true from h)) (fun _ => ?_) | refine And.intro (fun h => Bool.noConfusion (show true = false from h)) (fun _ => ?_)))
      refine ⟨[], _, (show Ret Try.prog 21 [i64 x, i64 y] [] (.p (i64 1)) by have := r_gcd x y (by have h : fits x := pv.2.2.1; unfold fits at h; omega) (by have h : fits y := pv.2.2.2.1; unfold fits at h; omega); rwa [pg] at this), rfl, ?_⟩
      (repeat (first | refine And.intro (fun _ => ?_) (fun h => Bool.noConfusion (show true = false from h)) | refine And.intro (fun _ => ?_) (fun h => Bool.noConfusion (show false = true from h)) | refine And.intro (fun h => Bool.noConfusion (show false = true from h)) (fun _ => ?_) | refine And.intro (fun h => Bool.noConfusion (show true = false from h)) (fun _ => ?_)))
      have e2 : rc = conj ⟨x, y, 1⟩ := s4 rfl rfl
      subst e2
      refine ⟨_, r_apart ⟨x, y, 1⟩ pv, rfl, ?_⟩
      show SV.p (bl (eqPL [i64 x, i64 (-y), i64 1] [i64 x, i64 (-y), i64 1])) = SV.p (bl true)
      simp [eqPL, eqP]
    · (repeat (first | refine And.intro (fun _ => ?_) (fun h => Bool.noConfusion (show true = false from h)) | refine And.intro (fun _ => ?_) (fun h => Bool.noConfusion (show false = true from h)) | refine And.intro (fun h => Bool.noConfusion (show false = true from h)) (fun _ => ?_) | refine And.intro (fun h => Bool.noConfusion (show true = false from h)) (fun _ => ?_)))
      refine ⟨[], _, (show Ret Try.prog 20 [cx ⟨x, y, 1⟩] [] (.p (i64 0)) by have := r_check ⟨x, y, 1⟩; rwa [chk, if_pos pv] at this), rfl, ?_⟩
      (repeat (first | refine And.intro (fun _ => ?_) (fun h => Bool.noConfusion (show true = false from h)) | refine And.intro (fun _ => ?_) (fun h => Bool.noConfusion (show false = true from h)) | refine And.intro (fun h => Bool.noConfusion (show false = true from h)) (fun _ => ?_) | refine And.intro (fun h => Bool.noConfusion (show true = false from h)) (fun _ => ?_)))
      refine ⟨[], _, (show Ret Try.prog 21 [i64 x, i64 y] [] (.p (i64 1)) by have := r_gcd x y (by have h : fits x := pv.2.2.1; unfold fits at h; omega) (by have h : fits y := pv.2.2.2.1; unfold fits at h; omega); rwa [pg] at this), rfl, ?_⟩
      (repeat (first | refine And.intro (fun _ => ?_) (fun h => Bool.noConfusion (show true = false from h)) | refine And.intro (fun _ => ?_) (fun h => Bool.noConfusion (show false = true from h)) | refine And.intro (fun h => Bool.noConfusion (show false = true from h)) (fun _ => ?_) | refine And.intro (fun h => Bool.noConfusion (show true = false from h)) (fun _ => ?_)))
      rfl
end Go.Pv
