/- ClosureGains: the walk. -/
import Derived.Test.YtikimjgbbbajoaaCe
import Derived.Test.YtikimjgbbbajoaaGc
import Derived.Test.YtikimjgbbbajoaaPlGains
namespace Go.Pv
open Go.Vc
open Go.Proofs
set_option maxRecDepth 10000
set_option maxHeartbeats 4000000

theorem act_okV {g : List Cx} {l : List Vis} (hl : ∀ v ∈ l, Enc.ok v) (H : Acts g l (act26 g l).1) (h : (act26 g l).2 = 0) : ∀ v ∈ (act26 g l).1, Enc.ok v := fun v hv => by
  obtain ⟨_, hgood, _⟩ := ck27_0 H.h1
  have hval := (hgood v hv).2.2.2.2
  rw [(act26_ok h).2.1, List.mem_map] at hv
  obtain ⟨u, hu, rfl⟩ := hv
  have := hl u hu
  exact ⟨this.1, this.2.1, ok_valid hval, this.2.2.2⟩

theorem closureGains (l : List Vis) (g : List Cx) (ci : List Int) (a b c d : Int) (hl : ∀ v ∈ l, Enc.ok v) (hg : ∀ v ∈ g, Enc.ok v) : Ret Try.prog 8 [sl l, sl g, sl ci, i64 a, i64 b, i64 c, i64 d] [] (.p (bl true)) := by
  refine ret (fn := Try.f8) (by kernel_rfl) (by kernel_rfl) rfl ?_
  refine ⟨[], _, w_alive, rfl, ?_⟩
  refine ⟨[], _, r_check27 l, rfl, ?_⟩
  refine ⟨fun h1 => ?_, fun h1 => ?_⟩
  rotate_left
  · rfl
  have h0 : ck27 l = 0 := by simpa using h1
  refine ⟨[], _, r_check26 g, rfl, ?_⟩
  refine ⟨fun h2 => ?_, fun h2 => ?_⟩
  rotate_left
  · rfl
  have hk : ck26 g = 0 := by simpa using h2
  refine ⟨fun h3 => ?_, fun h3 => ?_⟩
  rotate_left
  · rfl
  have h8 : g.length = 8 := by simp at h3; omega
  refine ⟨fun h4 => ?_, fun h4 => ?_⟩
  rotate_left
  · rfl
  have hci : ci.length ≤ 20 := by simp at h4; omega
  refine ⟨fun h => absurd h (by decide), fun _ => ?_⟩
  refine ⟨[], _, g_act g l hg hl, rfl, ?_⟩
  refine ⟨fun h5 => ?_, fun h5 => ?_⟩
  · have h5 : (act26 g l).2 ≠ 0 := by simpa using h5
    rcases act26_err h0 hk h8 with h | h
    · exact absurd h h5
    · refine ⟨fun _ => ?_, fun h => absurd h (by decide)⟩
      show SV.p (bl _) = SV.p (bl true)
      rw [h]; rfl
  have h5 : (act26 g l).2 = 0 := by simpa using h5
  have H := acts_of h0 h8 h5
  have hm := act_okV hl H h5
  refine ⟨[], _, r_check27 (act26 g l).1, rfl, ?_⟩
  refine ⟨fun h6 => ?_, fun h6 => ?_⟩
  · rw [H.h1] at h6; simp at h6
  refine ⟨[], _, l_phase l ci hl (by omega), rfl, ?_⟩
  refine ⟨[], _, l_phase (act26 g l).1 ci hm (by omega), rfl, ?_⟩
  obtain ⟨s1, s2⟩ := acts_phase H ci
  obtain ⟨s3, s4⟩ := acts_amp H a b c d
  have c1 := l_amp l a b c d hl
  have c2 := l_amp (act26 g l).1 a b c d hm
  generalize phase l ci = x at *
  generalize phase (act26 g l).1 ci = y at *
  generalize amp l a b c d = u at *
  generalize amp (act26 g l).1 a b c d = w at *
  obtain ⟨X, e⟩ := x
  obtain ⟨Y, f⟩ := y
  obtain ⟨U, i⟩ := u
  obtain ⟨W, j⟩ := w
  simp only at s1 s2 s3 s4
  clear H hm h6 h5 h4 h3 h2 h1
  repeat' (refine And.intro (fun _ => ?_) (fun _ => ?_))
  all_goals first
    | (refine Exists.intro [] (Exists.intro _ (And.intro c1 (And.intro rfl ?_)))
       refine Exists.intro [] (Exists.intro _ (And.intro c2 (And.intro rfl ?_)))
       clear c1 c2
       repeat' (refine And.intro (fun _ => ?_) (fun _ => ?_))
       all_goals show SV.p (bl _) = SV.p (bl true)
       all_goals first
         | rfl
         | (exfalso; grind)
         | (rw [eqPL_fr]; grind)
         | grind)
    | (exfalso; clear c1 c2; grind [eqPL_cx])
    | skip
end Go.Pv
