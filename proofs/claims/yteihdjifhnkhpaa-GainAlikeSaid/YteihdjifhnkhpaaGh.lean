/- The law GainRefer, of the code. -/
import Derived.Test.YteihdjifhnkhpaaGg
import Derived.Test.YteihdjifhnkhpaaPlRefer
namespace Go.Pv
open Go.Vc
open Go.Proofs
set_option maxRecDepth 10000
set_option maxHeartbeats 4000000

theorem gainRefer (g : List Cx) (st : Int) (hg : ∀ c ∈ g, Enc.ok c) : Ret Try.prog 6 [sl g, i64 st] [] (.p (bl true)) := by
  refine ret (fn := Try.f6) (by kernel_rfl) (by kernel_rfl) rfl ?_
  refine ⟨[], _, w_alive, rfl, ?_⟩
  refine ⟨[], _, r_check26 g, rfl, ?_⟩
  refine ⟨fun h1 => ?_, fun h1 => ?_⟩
  rotate_left
  · rfl
  simp at h1
  refine ⟨fun s1 => ?_, fun s1 => ?_⟩
  rotate_left
  · rfl
  refine ⟨fun s2 => ?_, fun s2 => ?_⟩
  rotate_left
  · rfl
  refine ⟨fun h3 => ?_, fun h3 => ?_⟩
  · rfl
  simp at s1 s2
  obtain ⟨s, rfl⟩ : ∃ n : Nat, st = n := ⟨st.toNat, by omega⟩
  have hs : s < g.length := by omega
  obtain ⟨c1, c2, c3⟩ := ck26_0 h1
  refine ⟨[], _, g_refer g s hg, rfl, ?_⟩
  refine ⟨fun h4 => ?_, fun h4 => ?_⟩
  · simp at h4
    have e16 : (trefer g s).2 = 16 := by
      rcases trefer_err h1 hs with h | h
      · exact absurd h h4
      · exact h
    refine ⟨fun _ => ?_, fun h => absurd h (by first | decide | simp)⟩
    show SV.p (bl _) = _
    rw [e16]; rfl
  simp at h4
  obtain ⟨hl, _⟩ := trefer_ok h1 hs h4
  have hck := trefer_ck h1 hs h4
  have own := trefer_own h1 hs h4
  have hmul : ∀ {k : Nat}, k < g.length → _ := fun {k} hk => trefer_mul h1 hs h4 (k := k) hk
  have hray : ∀ (_ : (trefer (trefer g s).1 s).2 = 0) {k : Nat}, k < g.length → _ := fun h2 {k} hk => trefer_ray h1 hs h4 h2 (k := k) hk
  generalize hr : (trefer g s).1 = r at *
  have hs' : s < r.length := by omega
  rw [gat_get hs'] at own
  have hok : ∀ c ∈ r, Enc.ok c := fun c hc => ok_valid ((ck26_0 hck).2.2 c hc).1
  refine ⟨[], _, r_check26 r, rfl, ?_⟩
  refine ⟨fun _ => ?_, fun q => absurd q (by simp [hck])⟩
  refine ⟨fun _ => ?_, fun q => absurd q (by simp [hl])⟩
  refine ⟨s, rfl, hs', by decide, _, idx hs', rfl, ?_⟩
  refine ⟨fun _ => ?_, fun q => absurd q (by simp [own.1])⟩
  refine ⟨s, rfl, hs', by decide, _, idx hs', rfl, ?_⟩
  refine ⟨fun q => absurd q (by simp; omega), fun _ => ?_⟩
  refine ⟨Nat, { inv := fun k => k ≤ g.length, slots := [(8, fun k => i64 k)], mu := fun k => g.length - k }, 0, ⟨⟨rfl, trivial⟩, trivial, (by repeat' first | exact trivial | rfl | apply And.intro), Nat.zero_le _⟩, ?_⟩
  intro k hk
  refine ⟨fun h6 => ?_, fun h6 => ?_⟩
  · simp at h6
    have h6' : k < r.length := by omega
    refine ⟨k, rfl, h6', by decide, _, idx h6', rfl, ?_⟩
    refine ⟨s, rfl, hs, by decide, _, idx hs, rfl, ?_⟩
    refine ⟨_, r_mul r[k] g[s], rfl, ?_⟩
    refine ⟨s, rfl, hs', by decide, _, idx hs', rfl, ?_⟩
    refine ⟨k, rfl, h6, by decide, _, idx h6, rfl, ?_⟩
    refine ⟨_, r_mul r[s] g[k], rfl, ?_⟩
    refine ⟨fun q1 => ?_, fun q1 => ?_⟩
    · refine ⟨fun q2 => ?_, fun q2 => ?_⟩
      · simp at q1 q2
        have key := hmul h6
        rw [gat_get h6', gat_get hs, gat_get hs', gat_get h6] at key
        refine ⟨fun q => absurd q ?_, fun _ => ?_⟩
        · show ¬ (!eqPL [i64 (mul r[k] g[s]).1.re, i64 (mul r[k] g[s]).1.im, i64 (mul r[k] g[s]).1.den] [i64 (mul r[s] g[k]).1.re, i64 (mul r[s] g[k]).1.im, i64 (mul r[s] g[k]).1.den]) = true
          rw [eqPL_cx, key q1 q2]; simp
        refine ⟨k + 1, by show _ < _; simp; omega, ⟨rfl, rfl⟩, ⟨by show PV.v (.int _ _) = _; rw [succ_w (by omega)], trivial⟩, trivial, (by repeat' first | exact trivial | rfl | apply And.intro), h6⟩
      · refine ⟨k + 1, by show _ < _; simp; omega, ⟨rfl, rfl⟩, ⟨by show PV.v (.int _ _) = _; rw [succ_w (by omega)], trivial⟩, trivial, (by repeat' first | exact trivial | rfl | apply And.intro), h6⟩
    · refine ⟨k + 1, by show _ < _; simp; omega, ⟨rfl, rfl⟩, ⟨by show PV.v (.int _ _) = _; rw [succ_w (by omega)], trivial⟩, trivial, (by repeat' first | exact trivial | rfl | apply And.intro), h6⟩
  simp at h6
  refine ⟨[], _, g_refer r s hok, rfl, ?_⟩
  refine ⟨fun h7 => ?_, fun h7 => ?_⟩
  · rfl
  simp at h7
  have hl2 := (trefer_ok hck hs' h7).1
  refine ⟨Nat, { inv := fun k => k ≤ g.length, slots := [(15, fun k => i64 k)], mu := fun k => g.length - k }, 0, ⟨⟨rfl, trivial⟩, trivial, (by repeat' first | exact trivial | rfl | apply And.intro), Nat.zero_le _⟩, ?_⟩
  intro k hk
  refine ⟨fun h8 => ?_, fun h8 => ?_⟩
  · simp at h8
    have h8' : k < r.length := by omega
    have h8'' : k < (trefer r s).1.length := by omega
    refine ⟨fun _ => ?_, fun q => absurd q (by simp; omega)⟩
    have key := hray h7 h8
    rw [gat_get h8', gat_get h8''] at key
    refine ⟨k, rfl, h8', by decide, _, idx h8', rfl, ?_⟩
    refine ⟨[], _, r_ray r[k], rfl, ?_⟩
    refine ⟨k, rfl, h8'', by decide, _, idx h8'', rfl, ?_⟩
    refine ⟨[], _, r_ray (trefer r s).1[k], rfl, ?_⟩
    rw [← key.1]
    refine ⟨fun _ => ?_, fun q => absurd q (by simp [key.2])⟩
    refine ⟨fun _ => ?_, fun q => absurd q (by simp [key.2])⟩
    refine ⟨fun q => absurd q ?_, fun _ => ?_⟩
    · show ¬ (!eqPL [i64 (ray r[k]).1.re, i64 (ray r[k]).1.im, i64 (ray r[k]).1.den] [i64 (ray r[k]).1.re, i64 (ray r[k]).1.im, i64 (ray r[k]).1.den]) = true
      rw [eqPL_cx]; simp
    refine ⟨k + 1, by show _ < _; simp; omega, ⟨rfl, rfl⟩, ⟨by show PV.v (.int _ _) = _; rw [succ_w (by omega)], trivial⟩, trivial, (by repeat' first | exact trivial | rfl | apply And.intro), h8⟩
  · refine ⟨fun _ => ?_, fun h => absurd h (by first | decide | simp)⟩
    show SV.p (bl _) = _
    rw [hl2, hl]; simp
end Go.Pv
