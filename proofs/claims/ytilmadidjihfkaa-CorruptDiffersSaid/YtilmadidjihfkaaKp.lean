/- The law CorruptAlike, of the code. -/
import Derived.Test.YtilmadidjihfkaaKn
import Derived.Test.YtilmadidjihfkaaPlCalm
namespace Go.Pv
open Go.Vc
open Go.Proofs
set_option maxRecDepth 10000
set_option maxHeartbeats 4000000

theorem k_alikeE {a b : List (List Vis)} {r : Bool × Int} (e : alike35 a b = r) (ha : ∀ l ∈ a, ∀ v ∈ l, Enc.ok v) (hb : ∀ l ∈ b, ∀ v ∈ l, Enc.ok v) : Ret Try.prog 24 [sl a, sl b] [] (.tup [.p (bl r.1), .p (i64 r.2)]) := e ▸ k_alike a b ha hb

theorem corruptAlike (s : List (List Vis)) (l : List Spo) (hn : s.length ≤ 9223372036854775807) (hs : ∀ l ∈ s, ∀ v ∈ l, Enc.ok v) (hl : ∀ s ∈ l, Enc.ok s) : Ret Try.prog 9 [sl s, sl l] [] (.p (bl true)) := by
  refine ret (fn := Try.f9) (by kernel_rfl) (by kernel_rfl) rfl ?_
  refine ⟨[], _, law_alive, rfl, ?_⟩
  refine ⟨[], _, r_great35 s hn, rfl, ?_⟩
  refine ⟨fun h1 => ?_, fun h1 => ?_⟩
  rotate_left
  · rfl
  refine ⟨[], _, r_check35 s, rfl, ?_⟩
  refine ⟨fun h2 => ?_, fun h2 => ?_⟩
  rotate_left
  · rfl
  have h2 : ck35 s = 0 := by simpa using h2
  refine ⟨fun h3 => ?_, fun h3 => ?_⟩
  rotate_left
  · rfl
  have h3 : l.length ≤ 8 := by simp at h3; omega
  refine ⟨fun h => absurd h (by first | decide | simp), fun _ => ?_⟩
  have hrow := ck35_rows h2
  have hbas : ∀ (i j : Nat) (hi : i < s.length) (hj : j < s.length), bas s[i] s[j] = true := fun i j hi hj => ck35_bas h2 hi hj
  have hlen := ck35_len h2
  refine ⟨[], _, k_spoil s l hs hl, rfl, ?_⟩
  refine ⟨fun h4 => ?_, fun h4 => ?_⟩
  · have h4 : (spoil s l).2 ≠ 0 := by simpa using h4
    obtain ⟨he, hnil⟩ := spoil_err h2 hrow h3 h4
    refine ⟨fun _ => ?_, fun h => absurd h (by first | decide | simp)⟩
    refine ⟨fun h5 => ?_, fun h5 => ?_⟩
    focus
      have h5 : (spoil s l).2 ≠ 8 := by simpa using h5
      have h6 : (spoil s l).2 = 16 := by omega
      refine ⟨fun _ => ?_, fun h => absurd h (by show ¬ ((_ == _) = false); rw [h6]; simp)⟩
    all_goals
      show SV.p (bl (((spoil s l).1.length : Int) == 0)) = _
      rw [hnil]; rfl
  have h4 : (spoil s l).2 = 0 := by simpa using h4
  obtain ⟨e1, e2⟩ := spoil_rows h4 hrow
  have hck := spoil_ck h2 h4 hrow hbas
  obtain ⟨al1, al2⟩ := spoil_alike h2 h4 hrow hbas
  have henc := spo35_enc h4 hs
  have ub := undo_back h2 h4 hrow hbas
  have hcall := k_undo (spoil s l).1 l henc hl
  have cal1 := k_alikeE al1 hs henc
  have cal2 := k_alikeE al2 henc hs
  have hchk := r_check35 (spoil s l).1
  rw [hck] at hchk
  have hclo : ∀ (t : Nat) (ht : t < s.length) (ht' : t < (spoil s l).1.length), Ret Try.prog 30 [sl s[t], sl (spoil s l).1[t]] [] (.p (bl true)) := fun t ht ht' => by
    have := r_clos s[t] (spoil s l).1[t] (hrow _ (List.getElem_mem ht))
    rw [(clos_acts (e2 t ht ht').2.2.2.1).1] at this
    exact this
  clear al1 al2 hck h4 e2
  generalize hA : (spoil s l).1 = A at *
  refine ⟨[], _, hchk, rfl, ?_⟩
  refine ⟨fun _ => ?_, fun h => absurd h (by first | decide | simp)⟩
  refine ⟨fun q => absurd q (by show ¬ ((_ != _) = true); rw [e1]; simp), fun _ => ?_⟩
  refine ⟨[], _, cal1, rfl, ?_⟩
  refine ⟨[], _, cal2, rfl, ?_⟩
  refine ⟨fun _ => ?_, fun h => absurd h (by first | decide | simp)⟩
  refine ⟨fun _ => ?_, fun h => absurd h (by first | decide | simp)⟩
  refine ⟨fun _ => ?_, fun h => absurd h (by first | decide | simp)⟩
  refine ⟨fun h => absurd h (by first | decide | simp), fun _ => ?_⟩
  refine ⟨Nat, { inv := fun k => k ≤ s.length ∧ (True), slots := [(12, fun k => i64 k)],  mu := fun k => s.length - k }, 0, ⟨⟨rfl, trivial⟩, trivial, (by repeat' first | exact trivial | rfl | apply And.intro), Nat.zero_le _, trivial⟩, ?_⟩
  intro k ⟨hk, _⟩
  refine ⟨fun h6 => ?_, fun h6 => ?_⟩
  · simp at h6
    have h6' : k < A.length := by omega
    refine ⟨k, rfl, h6, by decide, _, idx h6, rfl, ?_⟩
    refine ⟨k, rfl, h6', by decide, _, idx h6', rfl, ?_⟩
    refine ⟨_, hclo k h6 h6', rfl, ?_⟩
    refine ⟨fun h => absurd h (by first | decide | simp), fun _ => ?_⟩
    refine ⟨k + 1, by show _ < _; simp; omega, ⟨rfl, rfl⟩, ⟨by show PV.v (.int _ _) = _; rw [succ_w (by omega)], trivial⟩, trivial, (by repeat' first | exact trivial | rfl | apply And.intro), h6, trivial⟩
  refine ⟨[], _, hcall, rfl, ?_⟩
  refine ⟨fun _ => ?_, fun h => absurd h (by first | decide | simp)⟩
  refine ⟨fun h7 => ?_, fun h7 => ?_⟩
  rotate_left
  · rfl
  have h7 : (undo A l).2 ≠ 16 := by simpa using h7
  obtain ⟨u1, u2⟩ := ub.resolve_left h7
  refine ⟨fun _ => ?_, fun h => absurd h (by show ¬ ((_ == _) = false); rw [u1]; simp)⟩
  have hsm := spo35_small tinv A l
  have sm := r_same35 (undo A l).1 s (by have : (undo A l).1.length ≤ 32 := hsm.1; omega) (fun r hr => by have := hsm.2 r hr; omega)
  rw [decide_eq_true u2] at sm
  refine ⟨[], _, sm, rfl, ?_⟩
  rfl
end Go.Pv
