/- The law GainAlike, of the code. -/
import Derived.Test.YteihdjifhnkhpaaGi
import Derived.Test.YteihdjifhnkhpaaPlAlk
namespace Go.Pv
open Go.Vc
open Go.Proofs
set_option maxRecDepth 10000
set_option maxHeartbeats 4000000

theorem gainAlike (g h : List Cx) (l : List Vis) (c : Cx) (hg : ∀ c ∈ g, Enc.ok c) (hh : ∀ c ∈ h, Enc.ok c) (hl : ∀ v ∈ l, Enc.ok v) (hc : Enc.ok c) : Ret Try.prog 5 [sl g, sl h, sl l, cx c] [] (.p (bl true)) := by
  refine ret (fn := Try.f5) (by kernel_rfl) (by kernel_rfl) rfl ?_
  refine ⟨[], _, w_alive, rfl, ?_⟩
  refine ⟨[], _, r_both26 g h, rfl, ?_⟩
  refine ⟨fun h1 => ?_, fun h1 => ?_⟩
  rotate_left
  · rfl
  simp at h1
  refine ⟨[], _, r_all l g.length, rfl, ?_⟩
  refine ⟨fun h2 => ?_, fun h2 => ?_⟩
  rotate_left
  · rfl
  simp at h2
  refine ⟨[], _, r_check c, rfl, ?_⟩
  refine ⟨fun hv => ?_, fun hv => ?_⟩
  rotate_left
  · rfl
  rw [chk_eq] at hv
  refine ⟨[], _, r_zero c, rfl, ?_⟩
  refine ⟨fun hz => ?_, fun hz => ?_⟩
  rotate_left
  · rfl
  have hz : ¬ c.zero := by simpa using hz
  refine ⟨fun h3 => ?_, fun h3 => ?_⟩
  · rfl
  obtain ⟨b1, b2, b3⟩ := both26_0 h1
  obtain ⟨c1, c2, c3⟩ := ck26_0 b1
  obtain ⟨l1, l2⟩ := all26_0 h2
  have hr := ck_rep hv hz c1 c2
  have br : both26 g (List.replicate g.length c) = 0 := by rw [both26, if_neg (by simp [b1]), if_neg (by simp [hr]), if_neg (by simp)]
  refine ⟨[], _, g_alike g h hg hh, rfl, ?_⟩
  refine ⟨fun e0 => ?_, fun e0 => ?_⟩
  focus
    refine ⟨fun s0 => ?_, fun s0 => ?_⟩
    focus
      simp at e0
      have s0' : (alike g h).1 = true := s0
      refine ⟨[], _, g_act g l hg hl, rfl, ?_⟩
      refine ⟨[], _, g_act h l hh hl, rfl, ?_⟩
      refine ⟨fun j0 => ?_, fun j0 => ?_⟩
      focus
        refine ⟨fun k0 => ?_, fun k0 => ?_⟩
        focus
          simp at j0 k0
          have key := alike_act e0 s0' h2 j0 k0
          have hal := act26_len j0
          refine ⟨[], .p (bl true), ?_, rfl, ?_⟩
          · show Ret Try.prog 14 [sl (act26 g l).1, sl (act26 h l).1] [] _
            rw [← key]
            exact r_same26Y _ (by omega)
          refine ⟨fun h => absurd h (by first | decide | simp), fun _ => ?_⟩
  all_goals
    refine ⟨Nat, { inv := fun k => k ≤ g.length, slots := [(17, fun k => i64 k)], rows := [(16, 36, 3, fun k => k, fun k => flat (List.replicate k c))], mu := fun k => g.length - k }, 0, ⟨⟨rfl, trivial⟩, ⟨⟨rfl, rfl⟩, trivial⟩, (by repeat' first | exact trivial | rfl | apply And.intro), Nat.zero_le _⟩, ?_⟩
    intro k hk
    refine ⟨fun h6 => ?_, fun h6 => ?_⟩
    focus
      have h6 : k < g.length := by simpa using h6
      refine ⟨⟨by show k + 1 ≤ _; omega, by show (k + 1) * 24 ≤ _; omega⟩, ?_⟩
      refine ⟨k + 1, by show _ < _; simp; omega, ⟨rfl, rfl⟩, ⟨by show PV.v (.int _ _) = _; rw [succ_w (by omega)], trivial⟩, ⟨⟨rfl, ?_⟩, trivial⟩, (by repeat' first | exact trivial | rfl | apply And.intro), h6⟩
      show _ ++ Enc.cs c = flat (List.replicate (k + 1) c)
      rw [List.replicate_succ', flat_snoc]
    have hkn : k = g.length := by
      have h6 : ¬ k < g.length := by simpa using h6
      have hk : k ≤ g.length := hk
      omega
    subst hkn
    refine ⟨[], resCs (tmul g (List.replicate g.length c)), ?_, rfl, ?_⟩
    focus
      show Ret Try.prog 22 [sl g, .sl false g.length (flat (List.replicate g.length c))] [] _
      rw [show PV.sl false g.length (flat (List.replicate g.length c)) = sl (List.replicate g.length c) by simp]
      exact g_mul g _ hg (fun d hd => by rw [List.mem_replicate] at hd; rw [hd.2]; exact hc)
    refine ⟨[], _, r_norm c, rfl, ?_⟩
    refine ⟨fun f0 => ?_, fun _ => ?_⟩
    rotate_left
    focus
      rfl
    refine ⟨fun _ => ?_, fun i0 => ?_⟩
    focus
      rfl
    have f1 : (tmul g (List.replicate g.length c)).2 = 0 := by simpa using f0
    have i1 : (nrm c).2 = 0 := by simpa using i0
    refine ⟨[], _, g_alike g (tmul g (List.replicate g.length c)).1 hg (fun d hd => ok_of_valid (tmul_valid br f1 d hd)), rfl, ?_⟩
    refine ⟨fun _ => ?_, fun h => absurd h (by first | decide | simp)⟩
    refine ⟨fun j1 => ?_, fun _ => ?_⟩
    rotate_left
    focus
      rfl
    have j2 : (alike g (tmul g (List.replicate g.length c)).1).2 = 0 := by simpa using j1
    have key := alike_times b1 hv hz i1 f1 j2
    show SV.p (.v (.bool ((alike g (tmul g (List.replicate g.length c)).1).1 == eqPL [i64 (nrm c).1.num, i64 (nrm c).1.den] [i64 1, i64 1]))) = SV.p (bl true)
    have ee := eqPL_fr' (nrm c).1 ⟨1, 1⟩
    simp only at ee
    rw [ee, key]; simp
end Go.Pv
