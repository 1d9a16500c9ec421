/- The law BandFlat. -/
import Derived.Test.YtaaijmojlodefaaBo
namespace Go.Pv
open Go.Vc
open Go.Proofs
set_option maxRecDepth 10000

theorem flat_act {g : List Cx} {n : Nat} {l : List Spec} (hg : ck26 g = 0) (h1 : 1 ≤ n) (h2 : n ≤ 16) (hl : all32 l g.length n = 0) (hz : (bact (flatB g n) l).2 = 0) :
    (bact (flatB g n) l).1.length = l.length ∧ ∀ (k : Nat) (hk : k < l.length) (hk' : k < (bact (flatB g n) l).1.length), (bact (flatB g n) l).1[k].v.length = n ∧
      ∀ c, c < n → ∃ (x : Cx), act26 g [l[k].vis c] = ([(l[k].vis c).set x], 0) ∧ gat (bact (flatB g n) l).1[k].v c = x := by
  obtain ⟨k1, k2, k3⟩ := flatB_ck hg h1 h2
  have hl' : all32 l (flatB g n).length (row0 (flatB g n)).length = 0 := by rw [k2, k3]; exact hl
  have hall : ∀ s ∈ l, ∀ c, c < (row0 (flatB g n)).length → (sact (flatB g n) s c).2 = 0 := by
    refine Classical.byContradiction fun q => ?_
    rw [bact, if_neg (by simp [k1]), if_neg (by simp [hl']), if_neg q] at hz
    simp at hz
  rw [bact_ok k1 hl' hall, k3]
  refine ⟨by simp, fun k hk hk' => ?_⟩
  simp only [List.getElem_map]
  refine ⟨by simp [Spec.set], fun c hc => ⟨(sact (flatB g n) l[k] c).1, ?_, ?_⟩⟩
  · have e : sact (flatB g n) l[k] c = act1 g (l[k].vis c) := by unfold sact; rw [flatB_col hc]
    have hz' := hall _ (List.getElem_mem hk) c (by rw [k3]; exact hc)
    rw [e] at hz' ⊢
    have hv : all26 [l[k].vis c] g.length = 0 := by
      have h26 := vis_all (c := c) hl' (by rw [k3]; exact hc)
      rw [flatB_col hc] at h26
      have hgood := (all26_0 h26).2 (l[k].vis c) (List.mem_map.2 ⟨_, List.getElem_mem hk, rfl⟩)
      unfold all26
      rw [if_neg (by simp)]
      simp [hgood]
    rw [act26_of hg hv]
    simp [hz']
  · simp only [Spec.set]
    rw [gat_map _ hc]

set_option maxHeartbeats 4000000 in
theorem bandFlat (g : List Cx) (n : Int) (l : List Spec) (w : Int) (hw : I64 w) (hg : ∀ c ∈ g, Enc.ok c) (hls : ∀ s ∈ l, Enc.ok s) (hv : ∀ s ∈ l, s.v.length ≤ 9223372036854775807) : Ret Try.prog 5 [sl g, i64 n, sl l, i64 w] [] (.p (bl true)) := by
  refine ret (fn := Try.f5) (by kernel_rfl) (by kernel_rfl) rfl ?_
  refine ⟨[], _, w_alive, rfl, ?_⟩
  refine ⟨[], _, r_check26 g, rfl, ?_⟩
  refine ⟨fun h1 => ?_, fun h1 => ?_⟩
  rotate_left
  · rfl
  simp at h1
  refine ⟨fun h2 => ?_, fun h2 => ?_⟩
  rotate_left
  · rfl
  simp at h2
  refine ⟨fun h3 => ?_, fun h3 => ?_⟩
  rotate_left
  · rfl
  simp at h3
  obtain ⟨m, rfl⟩ := Int.eq_ofNat_of_zero_le (show 0 ≤ n by omega)
  refine ⟨[], _, r_all32 l g.length m hv, rfl, ?_⟩
  refine ⟨fun h4 => ?_, fun h4 => ?_⟩
  rotate_left
  · rfl
  simp at h4
  refine ⟨fun h => absurd h (by first | decide | simp), fun _ => ?_⟩
  obtain ⟨k1, k2, k3⟩ := flatB_ck h1 (show 1 ≤ m by omega) (show m ≤ 16 by omega)
  obtain ⟨g1, g2, g3⟩ := ck26_0 h1
  have okb := ck_enc k1
  have eb : bflat g m = (flatB g m, 0) := flatB_of h1 (by omega) (by omega)
  refine ⟨[], _, (show Ret Try.prog 15 [sl g, i64 m] [] (resBs (flatB g m, 0)) by rw [← eb]; exact b_flat g m hg), rfl, ?_⟩
  refine ⟨[], _, b_act (flatB g m) l okb hls hv, rfl, ?_⟩
  refine ⟨fun _ => ?_, fun h => absurd h (by first | decide | simp)⟩
  refine ⟨[], _, r_check32 (flatB g m), rfl, ?_⟩
  rw [k1]
  refine ⟨fun _ => ?_, fun h => absurd h (by first | decide | simp)⟩
  refine ⟨fun _ => ?_, fun h => absurd k2 (by simp at h; omega)⟩
  have h0 : 0 < (flatB g m).length := by omega
  have er := row0_get h0
  refine ⟨0, rfl, h0, by decide, _, idx h0, rfl, ?_⟩
  refine ⟨fun h => absurd k3 (by rw [er]; simp at h; omega), fun _ => ?_⟩
  obtain ⟨l1, l2⟩ := all32_0 h4
  have fa := fun z => flat_act h1 (show 1 ≤ m by omega) (show m ≤ 16 by omega) h4 z
  refine ⟨fun h5 => ?gA, fun h5 => ?gB⟩
  case' gA =>
    simp at h5
    refine ⟨fun h => absurd (fa h5).1 (by simp at h; omega), fun _ => ?gC⟩
  all_goals
    refine ⟨Nat, { inv := fun k => k ≤ l.length, slots := [(14, fun k => i64 k)], mu := fun k => l.length - k }, 0, ⟨⟨rfl, trivial⟩, trivial, (by repeat' first | exact trivial | rfl | apply And.intro), Nat.zero_le _⟩, ?_⟩
    intro k hk
    refine ⟨fun h6 => ?_, fun h6 => ?_⟩
    case' refine_1 =>
      refine ⟨fun h7 => ?_, fun h7 => ?_⟩
      case refine_1 =>
        simp at h6 h7
        obtain ⟨fl, fk⟩ := fa h7
        have hkp : k < (bact (flatB g m) l).1.length := by omega
        obtain ⟨f1, f2⟩ := fk k h6 hkp
        obtain ⟨o1, o2, o3, o4⟩ := hls _ (List.getElem_mem h6)
        have gd := l2 _ (List.getElem_mem h6)
        have lv : l[k].v.length = m := by have := gd.2.2.2.2.1; omega
        refine ⟨Nat, { inv := fun c => c ≤ m, slots := [(15, fun c => i64 c)], mu := fun c => m - c }, 0, ⟨⟨rfl, trivial⟩, trivial, (by repeat' first | exact trivial | rfl | apply And.intro), Nat.zero_le _⟩, ?_⟩
        intro c hc
        refine ⟨fun h8 => ?_, fun h8 => ?_⟩
        · simp at h8
          have hcv : c < l[k].v.length := by omega
          obtain ⟨x, x1, x2⟩ := f2 c h8
          refine ⟨k, rfl, h6, by decide, _, idx h6, rfl, ?_⟩
          refine ⟨k, rfl, h6, by decide, _, idx h6, rfl, ?_⟩
          refine ⟨k, rfl, h6, by decide, _, idx h6, rfl, ?_⟩
          refine ⟨c, rfl, hcv, by decide, _, idx hcv, rfl, ?_⟩
          refine ⟨k, rfl, h6, by decide, _, idx h6, rfl, ?_⟩
          have ev : l[k].vis c = ⟨l[k].i, l[k].j, l[k].v[c], l[k].n⟩ := by unfold Spec.vis; rw [gat_get hcv]
          rw [ev] at x1
          refine ⟨_, (show Ret Try.prog 32 [sl g, sl [(⟨l[k].i, l[k].j, l[k].v[c], l[k].n⟩ : Vis)]] [] (resV ([⟨l[k].i, l[k].j, x, l[k].n⟩], 0)) by have := g_act g [⟨l[k].i, l[k].j, l[k].v[c], l[k].n⟩] hg (by simp; exact ⟨o1, o2, o3.2 _ (List.getElem_mem _), o4⟩); rw [x1] at this; exact this), rfl, ?_⟩
          refine ⟨fun _ => ?_, fun h => absurd h (by first | decide | simp)⟩
          refine ⟨fun _ => ?_, fun h => absurd h (by first | decide | simp)⟩
          refine ⟨k, rfl, hkp, by decide, _, idx hkp, rfl, ?_⟩
          refine ⟨fun h9 => ?_, fun h9 => absurd f1 (by simp at h9; omega)⟩
          refine ⟨0, rfl, Nat.zero_lt_one, by decide, _, rfl, rfl, ?_⟩
          refine ⟨k, rfl, hkp, by decide, _, idx hkp, rfl, ?_⟩
          have hcp : c < (bact (flatB g m) l).1[k].v.length := by omega
          refine ⟨c, rfl, hcp, by decide, _, idx hcp, rfl, ?_⟩
          rw [gat_get hcp] at x2
          refine ⟨fun h10 => ?_, fun h10 => ?_⟩
          · exfalso
            have h10 : (!eqPL (Enc.cs x) (Enc.cs (bact (flatB g m) l).1[k].v[c])) = true := h10
            have := eqPL_cx x (bact (flatB g m) l).1[k].v[c]
            rw [show eqPL (Enc.cs x) (Enc.cs (bact (flatB g m) l).1[k].v[c]) = _ from this] at h10
            simp [x2] at h10
          · refine ⟨c + 1, by show _ < _; simp; omega, ⟨rfl, rfl⟩, ⟨by show PV.v (.int _ _) = _; rw [succ_w (by omega)], trivial⟩, trivial, (by repeat' first | exact trivial | rfl | apply And.intro), h8⟩
        · simp at h8
          have : c = m := by have hc : c ≤ m := hc; omega
          subst this
          refine ⟨k + 1, by show _ < _; simp; omega, ⟨rfl, rfl⟩, ⟨by show PV.v (.int _ _) = _; rw [succ_w (by omega)], trivial⟩, trivial, (by repeat' first | exact trivial | rfl | apply And.intro), h6⟩
    all_goals
      have hm := b_mean (flatB g m) w hw okb
      have fm := flatB_mean h1 (show 1 ≤ m by omega) (show m ≤ 16 by omega) w
      revert hm fm
      generalize bmean (flatB g m) w = r
      intro hm fm
      obtain ⟨mv, me⟩ := r
      rcases fm with e | e | ⟨w1, e⟩
      · simp only at e
        subst e
        refine ⟨[], _, hm, rfl, ?_⟩
        refine ⟨fun _ => ?_, fun h => absurd h (by first | decide | simp)⟩
        refine ⟨fun _ => ?_, fun h => absurd h (by first | decide | simp)⟩
        refine ⟨fun h => absurd h (by first | decide | simp), fun _ => ?_⟩
        rfl
      · simp only at e
        subst e
        refine ⟨[], _, hm, rfl, ?_⟩
        refine ⟨fun _ => ?_, fun h => absurd h (by first | decide | simp)⟩
        refine ⟨fun _ => ?_, fun h => absurd h (by first | decide | simp)⟩
        refine ⟨fun _ => ?_, fun h => absurd h (by first | decide | simp)⟩
        rfl
      · cases e
        have hdm : m / w.toNat ≤ m := Nat.div_le_self m w.toNat
        generalize hd : m / w.toNat = d at hm hdm
        refine ⟨[], _, hm, rfl, ?_⟩
        refine ⟨fun h => absurd h (by first | decide | simp), fun _ => ?_⟩
        refine ⟨fun h => ?_, fun h => ?_⟩
        · exfalso
          simp at h
        clear h
        refine ⟨Nat, { inv := fun i => i ≤ g.length, slots := [(20, fun i => i64 i)], mu := fun i => g.length - i }, 0, ⟨⟨rfl, trivial⟩, trivial, (by repeat' first | exact trivial | rfl | apply And.intro), Nat.zero_le _⟩, ?_⟩
        intro i hi
        refine ⟨fun h11 => ?_, fun h11 => ?_⟩
        · simp at h11
          have hi' : i < (g.map fun x => List.replicate d x).length := by simpa using h11
          have hrow : (g.map fun x => List.replicate d x)[i] = List.replicate d g[i] := by simp
          refine ⟨Nat, { inv := fun c => c ≤ d, slots := [(21, fun c => i64 c)], mu := fun c => d - c }, 0, ⟨⟨rfl, trivial⟩, trivial, (by repeat' first | exact trivial | rfl | apply And.intro), Nat.zero_le _⟩, ?_⟩
          intro c hc
          refine ⟨i, rfl, hi', by decide, _, idx hi', rfl, ?_⟩
          rw [hrow]
          refine ⟨fun h12 => ?_, fun h12 => ?_⟩
          · simp at h12
            have hc' : c < (List.replicate d g[i]).length := by simpa using h12
            have hel : (List.replicate d g[i])[c] = g[i] := List.getElem_replicate _
            refine ⟨i, rfl, hi', by decide, _, idx hi', rfl, ?_⟩
            rw [hrow]
            refine ⟨c, rfl, hc', by decide, _, idx hc', rfl, ?_⟩
            rw [hel]
            refine ⟨i, rfl, h11, by decide, _, idx h11, rfl, ?_⟩
            refine ⟨fun h13 => ?_, fun h13 => ?_⟩
            · exfalso
              have h13 : (!eqPL (Enc.cs g[i]) (Enc.cs g[i])) = true := h13
              have := eqPL_cx g[i] g[i]
              rw [show eqPL (Enc.cs g[i]) (Enc.cs g[i]) = _ from this] at h13
              simp at h13
            · refine ⟨c + 1, by show _ < _; simp; omega, ⟨rfl, rfl⟩, ⟨by show PV.v (.int _ _) = _; rw [succ_w (by omega)], trivial⟩, trivial, (by repeat' first | exact trivial | rfl | apply And.intro), h12⟩
          · simp at h12
            refine ⟨fun h14 => ?_, fun h14 => absurd w1 (by simp at h14; omega)⟩
            refine ⟨i, rfl, hi', by decide, _, idx hi', rfl, ?_⟩
            rw [hrow]
            refine ⟨by omega, ?_⟩
            refine ⟨fun h15 => ?_, fun h15 => ?_⟩
            · exfalso
              obtain ⟨wn, rfl⟩ := Int.eq_ofNat_of_zero_le (show 0 ≤ w by omega)
              have e1 : IntKind.i64.wrap (((m : Nat) : Int).tdiv ((wn : Nat) : Int)) = ((m / wn : Nat) : Int) := by
                rw [← Int.ofNat_tdiv]
                have hq := Nat.div_le_self m wn
                generalize m / wn = q at hq ⊢
                exact wrap_id (by omega) (by omega)
              have h15 : ((((List.replicate d g[i]).length : Nat) : Int) != IntKind.i64.wrap (((m : Nat) : Int).tdiv ((wn : Nat) : Int))) = true := h15
              rw [e1, List.length_replicate, ← hd, Int.toNat_natCast] at h15
              simp at h15
            · refine ⟨i + 1, by show _ < _; simp; omega, ⟨rfl, rfl⟩, ⟨by show PV.v (.int _ _) = _; rw [succ_w (by omega)], trivial⟩, trivial, (by repeat' first | exact trivial | rfl | apply And.intro), h11⟩
        · rfl
end Go.Pv
