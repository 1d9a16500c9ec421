/- The law CorruptTimes, of the code. -/
import Derived.Test.YtilmadidjihfkaaKe
import Derived.Test.YtilmadidjihfkaaPlTim
namespace Go.Pv
open Go.Vc
open Go.Proofs
set_option maxRecDepth 10000
set_option maxHeartbeats 4000000

theorem corruptTimes (x : Spo) (t : Int) (hx : Enc.ok x) : Ret Try.prog 3 [spo x, i64 t] [] (.p (bl true)) := by
  refine ret (fn := Try.f3) (by kernel_rfl) (by kernel_rfl) rfl ?_
  refine ⟨[], _, law_alive, rfl, ?_⟩
  refine ⟨[], _, r_event x, rfl, ?_⟩
  refine ⟨fun h1 => ?_, fun h1 => ?_⟩
  rotate_left
  · rfl
  have hok : x.ok := by simpa using h1
  refine ⟨fun h2 => ?_, fun h2 => ?_⟩
  rotate_left
  · rfl
  refine ⟨fun h3 => ?_, fun h3 => ?_⟩
  rotate_left
  · rfl
  simp at h2 h3
  have ht : 0 ≤ t ∧ t < 32 := ⟨h2, h3⟩
  refine ⟨fun h => absurd h (by first | decide | simp), fun _ => ?_⟩
  have hx1 : ∀ s ∈ [x], Enc.ok s := by simpa using hx
  refine ⟨[], _, k_tableE (table1 hok ht) hx1, rfl, ?_⟩
  refine ⟨fun _ => ?_, fun h => absurd h (by first | decide | simp)⟩
  refine ⟨fun h => absurd h (by simp [row1_length]), fun _ => ?_⟩
  refine ⟨[], _, r_one, rfl, ?_⟩
  refine ⟨Nat, { inv := fun k => k ≤ 8 ∧ (True), slots := [(9, fun k => i64 k)],  mu := fun k => 8 - k }, 0, ⟨⟨rfl, trivial⟩, trivial, (by repeat' first | exact trivial | rfl | apply And.intro), Nat.zero_le _, trivial⟩, ?_⟩
  intro k ⟨hk, _⟩
  refine ⟨fun h4 => ?_, fun h4 => ?_⟩
  · have h4 : k < (row1 x t).length := by simpa using h4
    have h4' : k < 8 := by rw [row1_length] at h4; exact h4
    refine ⟨fun h5 => ?_, fun h5 => ?_⟩
    · refine ⟨k, rfl, h4, by decide, _, idx h4, rfl, ?_⟩
      refine ⟨fun q => absurd q ?_, fun _ => ?_⟩
      · have h5 : x.st ≠ (k : Int) := by simp at h5; omega
        show ¬ (!eqPL (Enc.cs ((row1 x t)[k]'h4)) (Enc.cs one)) = true
        rw [row1_get, if_neg h5, eqPL_cxK]; simp
      refine ⟨k + 1, by show _ < _; simp; omega, ⟨rfl, rfl⟩, ⟨by show PV.v (.int _ _) = _; rw [succ_w (by omega)], trivial⟩, trivial, (by repeat' first | exact trivial | rfl | apply And.intro), h4', trivial⟩
    · refine ⟨k + 1, by show _ < _; simp; omega, ⟨rfl, rfl⟩, ⟨by show PV.v (.int _ _) = _; rw [succ_w (by omega)], trivial⟩, trivial, (by repeat' first | exact trivial | rfl | apply And.intro), h4', trivial⟩
  clear h4 hk
  have e1 : x.st = (x.st.toNat : Int) := by have := hok.1; omega
  have hj : x.st.toNat < 8 := by have := hok.1; have := hok.2.1; omega
  have g1 : ∀ t, ∃ h : x.st.toNat < (row1 x t).length, (row1 x t)[x.st.toNat]'h = num x t := fun t => ⟨by rw [row1_length]; exact hj, by rw [row1_get, if_pos e1]⟩
  obtain ⟨h5, h6⟩ := g1 t
  refine ⟨x.st.toNat, e1, h5, by decide, Enc.cs (num x t), by rw [← h6]; exact idx h5, rfl, ?_⟩
  have off : (t < x.fr ∨ x.to ≤ t) → eqPL (Enc.cs (num x t)) (Enc.cs one) = true := fun h => by rw [num_off h, eqPL_cxK]; simp
  refine ⟨fun h7 => ?_, fun h7 => ?_⟩
  rotate_left
  · have h7 : t < x.fr := by simpa using h7
    refine ⟨fun _ => ?_, fun h => absurd h (by first | decide | simp)⟩
    show SV.p (bl (eqPL (Enc.cs (num x t)) (Enc.cs one))) = _
    rw [off (.inl h7)]
  have h7 : x.fr ≤ t := by simpa using h7
  refine ⟨fun h8 => ?_, fun h8 => ?_⟩
  · have h8 : x.to ≤ t := by simpa using h8
    refine ⟨fun _ => ?_, fun h => absurd h (by first | decide | simp)⟩
    show SV.p (bl (eqPL (Enc.cs (num x t)) (Enc.cs one))) = _
    rw [off (.inr h8)]
  have h8 : t < x.to := by simpa using h8
  have hin : ¬ (t < x.fr ∨ x.to ≤ t) := by omega
  refine ⟨fun h9 => ?_, fun h9 => ?_⟩
  · have h9 : x.kind = 1 := by simpa using h9
    refine ⟨fun _ => ?_, fun h => absurd h (by first | decide | simp)⟩
    show SV.p (bl (eqPL (Enc.cs (num x t)) (Enc.cs x.v))) = _
    rw [num_gain hin h9, eqPL_cxK]; simp
  have h9 : x.kind ≠ 1 := by simpa using h9
  refine ⟨fun h10 => ?_, fun h10 => ?_⟩
  · have h10 : x.kind = 2 := by simpa using h10
    have ct := r_turn one x.q hx.2.2.2.2.2
    rw [turn_one] at ct
    refine ⟨[], _, ct, rfl, ?_⟩
    refine ⟨fun _ => ?_, fun h => absurd h (by first | decide | simp)⟩
    refine ⟨fun _ => ?_, fun h => absurd h (by first | decide | simp)⟩
    show SV.p (bl (eqPL (Enc.cs (num x t)) (Enc.cs (rotN (quart x.q) one)))) = _
    rw [num_sky hin h10, eqPL_cxK]; simp
  have h10 : x.kind ≠ 2 := by simpa using h10
  have h11 : x.kind = 3 := by rcases hok.2.2.2.2.2 with h | h <;> omega
  have hq : 0 ≤ x.q := by
    rcases hok.2.2.2.2.2 with h | h
    · omega
    · exact h.2.2.1
  refine ⟨fun h12 => ?_, fun h12 => ?_⟩
  focus
    have h12 : t = x.fr := by simpa using h12
    refine ⟨fun q => absurd q ?_, fun _ => ?_⟩
    · show ¬ (!eqPL (Enc.cs (num x t)) (Enc.cs one)) = true
      rw [h12, clock_from (by rw [h12] at hin; exact hin) h11, eqPL_cxK]; simp
  all_goals
    refine ⟨fun h13 => ?_, fun h13 => ?_⟩
    · rfl
    have e4 : IntKind.i64.wrap (t + 4) = t + 4 := wrap_id (by omega) (by omega)
    have e5 : IntKind.i64.wrap (t + 1) = t + 1 := wrap_id (by omega) (by omega)
    have h13 : decide (x.to ≤ IntKind.i64.wrap (t + 4)) = false := h13
    rw [e4] at h13
    have h13 : t + 4 < x.to := by simpa using h13
    have h32 := hok.2.2.2.2.1
    refine ⟨[], resCs (row1 x (t + 4), 0), ?_, rfl, ?_⟩
    focus
      show Ret Try.prog 12 [sl [x], i64 (IntKind.i64.wrap (t + 4))] [] _
      rw [e4]
      exact k_tableE (table1 hok (by omega)) hx1
    refine ⟨[], resCs (row1 x (t + 1), 0), ?_, rfl, ?_⟩
    focus
      show Ret Try.prog 12 [sl [x], i64 (IntKind.i64.wrap (t + 1))] [] _
      rw [e5]
      exact k_tableE (table1 hok (by omega)) hx1
    refine ⟨fun _ => ?_, fun h => absurd h (by first | decide | simp)⟩
    refine ⟨fun _ => ?_, fun h => absurd h (by first | decide | simp)⟩
    refine ⟨fun _ => ?_, fun h => absurd h (by simp [row1_length])⟩
    refine ⟨fun h => absurd h (by simp [row1_length]), fun _ => ?_⟩
    have ct := r_turn (num x t) x.q hx.2.2.2.2.2
    rw [turn, if_pos (num_valid hok t)] at ct
    refine ⟨[], _, ct, rfl, ?_⟩
    refine ⟨fun _ => ?_, fun h => absurd h (by first | decide | simp)⟩
    refine ⟨fun _ => ?_, fun h => absurd h (by first | decide | simp)⟩
    obtain ⟨a1, a2⟩ := g1 (t + 4)
    refine ⟨x.st.toNat, e1, a1, by decide, Enc.cs (num x (t + 4)), by rw [← a2]; exact idx a1, rfl, ?_⟩
    refine ⟨fun _ => ?_, fun q => absurd q ?_⟩
    rotate_left
    focus
      show ¬ eqPL (Enc.cs (num x (t + 4))) (Enc.cs (num x t)) = false
      rw [clock_4 hq h7 h13 h11, eqPL_cxK]; simp
    obtain ⟨b1, b2⟩ := g1 (t + 1)
    refine ⟨x.st.toNat, e1, b1, by decide, Enc.cs (num x (t + 1)), by rw [← b2]; exact idx b1, rfl, ?_⟩
    show SV.p (bl (eqPL (Enc.cs (num x (t + 1))) (Enc.cs (rotN (quart x.q) (num x t))))) = _
    rw [clock_1 hq h7 (by omega) h11, eqPL_cxK]; simp
end Go.Pv
