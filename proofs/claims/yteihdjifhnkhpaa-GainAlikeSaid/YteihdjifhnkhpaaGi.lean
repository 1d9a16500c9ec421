/- The law GainGroup, of the code. -/
import Derived.Test.YteihdjifhnkhpaaGh
import Derived.Test.YteihdjifhnkhpaaPlGroup
namespace Go.Pv
open Go.Vc
open Go.Proofs
set_option maxRecDepth 10000
set_option maxHeartbeats 4000000

theorem g_mulE {g h : List Cx} {r : List Cx × Int} (e : tmul g h = r) (hg : ∀ c ∈ g, Enc.ok c) (hh : ∀ c ∈ h, Enc.ok c) : Ret Try.prog 22 [sl g, sl h] [] (resCs r) := e ▸ g_mul g h hg hh

theorem gainGroup (g h : List Cx) (l : List Vis) (hg : ∀ c ∈ g, Enc.ok c) (hh : ∀ c ∈ h, Enc.ok c) (hl : ∀ v ∈ l, Enc.ok v) : Ret Try.prog 8 [sl g, sl h, sl l] [] (.p (bl true)) := by
  refine ret (fn := Try.f8) (by kernel_rfl) (by kernel_rfl) rfl ?_
  refine ⟨[], _, w_alive, rfl, ?_⟩
  refine ⟨[], _, r_both26 g h, rfl, ?_⟩
  refine ⟨fun h1 => ?_, fun h1 => ?_⟩
  rotate_left
  · rfl
  simp at h1
  refine ⟨[], _, r_all l g.length, rfl, ?_⟩
  refine ⟨fun h2 => ?_, fun h2 => ?_⟩
  rotate_left
  · rfl
  simp at h2
  refine ⟨fun h3 => ?_, fun h3 => ?_⟩
  · rfl
  obtain ⟨b1, b2, b3⟩ := both26_0 h1
  obtain ⟨c1, c2, c3⟩ := ck26_0 b1
  obtain ⟨l1, l2⟩ := all26_0 h2
  refine ⟨[], _, g_act g l hg hl, rfl, ?_⟩
  refine ⟨[], _, g_mul g h hg hh, rfl, ?_⟩
  refine ⟨[], _, g_mulE (tmul_comm h1).symm hh hg, rfl, ?_⟩
  have lm : (tmul g h).1.length ≤ 1000000 := by rw [tmul, if_neg (by simp [h1])]; exact Nat.le_trans (prods_length _ _ _ _) (by omega)
  refine ⟨fun _ => ?_, fun q => absurd q (by simp)⟩
  refine ⟨[], _, r_same25 (tmul g h).1 (tmul g h).1 lm, rfl, ?_⟩
  refine ⟨fun q => absurd q (by simp), fun _ => ?_⟩
  refine ⟨fun e0 => ?_, fun e0 => ?_⟩
  focus
    refine ⟨fun f0 => ?_, fun f0 => ?_⟩
    focus
      simp at e0 f0
      have oka := act26_enc b1 h2 e0 hl
      have hal := act26_len e0
      refine ⟨[], _, g_act h (act26 g l).1 hh oka, rfl, ?_⟩
      refine ⟨[], _, g_act (tmul g h).1 l (fun c hc => ok_of_valid (tmul_valid h1 f0 c hc)) hl, rfl, ?_⟩
      refine ⟨fun j0 => ?_, fun j0 => ?_⟩
      focus
        refine ⟨fun k0 => ?_, fun k0 => ?_⟩
        focus
          simp at j0 k0
          have key := act_mul h1 h2 e0 f0 j0 k0
          have hlc : (act26 h (act26 g l).1).1.length ≤ 1000000 := by rw [act26_len j0, hal]; omega
          refine ⟨[], .p (bl true), ?_, rfl, ?_⟩
          · show Ret Try.prog 14 [sl (act26 h (act26 g l).1).1, sl (act26 (tmul g h).1 l).1] [] _
            rw [← key]
            exact r_same26Y _ hlc
          refine ⟨fun h => absurd h (by first | decide | simp), fun _ => ?_⟩
  all_goals
    refine ⟨[], _, g_inv g hg, rfl, ?_⟩
    refine ⟨fun e1 => ?_, fun _ => ?_⟩
    rotate_left
    focus
      rfl
    refine ⟨fun i1 => ?_, fun _ => ?_⟩
    rotate_left
    focus
      rfl
    have e2 : (act26 g l).2 = 0 := by simpa using e1
    have i2 : (tinv g).2 = 0 := by simpa using i1
    have oka2 := act26_enc b1 h2 e2 hl
    refine ⟨[], _, g_act (tinv g).1 (act26 g l).1 (fun c hc => ok_of_valid (tinv_valid b1 i2 c hc)) oka2, rfl, ?_⟩
    refine ⟨fun k1 => ?_, fun _ => ?_⟩
    focus
      have k2 : (act26 (tinv g).1 (act26 g l).1).2 = 0 := by simpa using k1
      have back := act_inv b1 h2 e2 i2 k2
      refine ⟨[], .p (bl true), ?_, rfl, ?_⟩
      focus
        show Ret Try.prog 14 [sl (act26 (tinv g).1 (act26 g l).1).1, sl l] [] _
        rw [back]
        exact r_same26Y _ (by omega)
      refine ⟨fun q => absurd q (by simp), fun _ => ?_⟩
    all_goals
      refine ⟨[], _, g_mulE (tmul_inv b1 i2) hg (fun c hc => ok_of_valid (tinv_valid b1 i2 c hc)), rfl, ?_⟩
      refine ⟨fun _ => ?_, fun q => absurd q (by simp)⟩
      refine ⟨fun q => absurd q (by simp), fun _ => ?_⟩
      refine ⟨Nat, { inv := fun k => k ≤ g.length, slots := [(24, fun k => i64 k)], mu := fun k => g.length - k }, 0, ⟨⟨rfl, trivial⟩, trivial, (by repeat' first | exact trivial | rfl | apply And.intro), Nat.zero_le _⟩, ?_⟩
      intro k hk
      refine ⟨fun h6 => ?_, fun _ => ?_⟩
      rotate_left
      focus
        rfl
      have h6' : k < (List.replicate g.length one).length := by simpa using h6
      have h6n : k < g.length := by simpa using h6'
      have ek : (List.replicate g.length one)[k] = one := by simp
      refine ⟨k, rfl, h6', by decide, _, idx h6', rfl, ?_⟩
      refine ⟨_, r_one, rfl, ?_⟩
      refine ⟨fun q => absurd q ?_, fun _ => ?_⟩
      focus
        show ¬ (!eqPL (Enc.cs (List.replicate g.length one)[k]) (Enc.cs one)) = true
        rw [ek, eqPL_cxE]; simp
      refine ⟨k + 1, by show _ < _; simp; omega, ⟨rfl, rfl⟩, ⟨by show PV.v (.int _ _) = _; rw [succ_w (by omega)], trivial⟩, trivial, (by repeat' first | exact trivial | rfl | apply And.intro), h6n⟩
end Go.Pv
