/- Contracts of the reference's functions over bandpasses: Act. -/
import Derived.Test.YtaaijmojlodefaaBj
namespace Go.Pv
open Go.Vc
open Go.Proofs
set_option maxRecDepth 10000

theorem r_act32 (b : List (List Cx)) (l : List Spec) (hv : ∀ s ∈ l, s.v.length ≤ 9223372036854775807) : Ret Try.prog 23 [sl b, sl l] [] (resSs (bact b l)) := by
  refine ret (fn := Try.f23) (by kernel_rfl) (by kernel_rfl) rfl ?_
  refine ⟨[], _, r_check32 b, rfl, ?_⟩
  refine ⟨fun h1 => ?_, fun h1 => ?_⟩
  · simp at h1
    refine ⟨[], _, r_check32 b, rfl, ?_⟩
    rw [bact, if_pos h1]; rfl
  simp at h1
  obtain ⟨b1, b2, b3, b4, b5, b6⟩ := ck32_0 h1
  have eb := row0_get b2
  refine ⟨0, rfl, b2, by decide, _, idx b2, rfl, ?_⟩
  refine ⟨[], _, (show Ret Try.prog 31 [sl l, i64 b.length, i64 b[0].length] [] (.p (i64 (all32 l b.length (row0 b).length))) by rw [eb]; exact r_all32 l _ _ hv), rfl, ?_⟩
  refine ⟨fun h2 => ?_, fun h2 => ?_⟩
  · simp at h2
    refine ⟨0, rfl, b2, by decide, _, idx b2, rfl, ?_⟩
    refine ⟨[], _, (show Ret Try.prog 31 [sl l, i64 b.length, i64 b[0].length] [] (.p (i64 (all32 l b.length (row0 b).length))) by rw [eb]; exact r_all32 l _ _ hv), rfl, ?_⟩
    rw [bact, if_neg (by simp [h1]), if_pos h2]; rfl
  simp at h2
  obtain ⟨l1, l2⟩ := all32_0 h2
  refine ⟨Nat, { inv := fun k => k ≤ l.length ∧ ∀ s ∈ l.take k, ∀ c, c < (row0 b).length → (sact b s c).2 = 0, slots := [(7, fun k => i64 k)], rows := [(6, 58, 4, fun k => k, fun k => flat ((l.take k).map fun s => s.set ((List.range (row0 b).length).map fun c => (sact b s c).1)))], mu := fun k => l.length - k }, 0, ⟨⟨rfl, trivial⟩, ⟨⟨rfl, rfl⟩, trivial⟩, trivial, Nat.zero_le _, by simp⟩, ?_⟩
  intro k ⟨hk, hz⟩
  refine ⟨fun h3 => ?_, fun h3 => ?_⟩
  · simp at h3
    obtain ⟨g1, g2, g3, g4, g5, g6⟩ := l2 _ (List.getElem_mem h3)
    obtain ⟨p, ep⟩ := Int.eq_ofNat_of_zero_le g1
    obtain ⟨q, eq⟩ := Int.eq_ofNat_of_zero_le (show 0 ≤ l[k].j by omega)
    have hp : p < b.length := by omega
    have hq : q < b.length := by omega
    have lp := b5 _ (List.getElem_mem hp)
    have lq := b5 _ (List.getElem_mem hq)
    refine ⟨k, rfl, h3, by decide, _, idx h3, rfl, ?_⟩
    refine ⟨k, rfl, h3, by decide, _, idx h3, rfl, ?_⟩
    refine ⟨k, rfl, h3, by decide, _, idx h3, rfl, ?_⟩
    refine ⟨Nat, { inv := fun c => c ≤ (row0 b).length ∧ ∀ c', c' < c → (sact b l[k] c').2 = 0, slots := [(9, fun c => i64 c)], cells := [(1, 2, 60, 3, fun c => c, fun c => flat ((List.range c).map fun c => (sact b l[k] c).1))], mu := fun c => (row0 b).length - c }, 0, ⟨⟨rfl, trivial⟩, ⟨⟨rfl, rfl⟩, trivial⟩, (by repeat' first | exact trivial | rfl | apply And.intro), Nat.zero_le _, fun _ h => by omega⟩, ?_⟩
    intro c ⟨hc, hcz⟩
    refine ⟨0, rfl, b2, by decide, _, idx b2, rfl, ?_⟩
    refine ⟨fun h4 => ?_, fun h4 => ?_⟩
    · simp at h4
      have hcp : c < b[p].length := by rw [lp, eb]; exact h4
      have hcq : c < b[q].length := by rw [lq, eb]; exact h4
      have hcv : c < l[k].v.length := by rw [eb] at g5; omega
      have hc' : c < (row0 b).length := by rw [eb]; exact h4
      have es := sact_of hp hq ep eq hcp hcq hcv
      refine ⟨p, ep, hp, by decide, _, idx hp, rfl, ?_⟩
      refine ⟨c, rfl, hcp, by decide, _, idx hcp, rfl, ?_⟩
      refine ⟨k, rfl, h3, by decide, _, idx h3, rfl, ?_⟩
      refine ⟨c, rfl, hcv, by decide, _, idx hcv, rfl, ?_⟩
      refine ⟨_, r_mul b[p][c] l[k].v[c], rfl, ?_⟩
      refine ⟨fun h5 => ?_, fun h5 => ?_⟩
      · simp only [bne_iff_ne] at h5
        show SV.tup [.p (.sl false 0 []), .p (i64 16)] = resSs _
        rw [bact_bad h1 h2 (List.getElem_mem h3) hc' (by rw [es, if_pos h5]; decide)]; rfl
      have h5 : (mul b[p][c] l[k].v[c]).2 = 0 := by simpa only [bne_eq_false_iff_eq] using h5
      refine ⟨q, eq, hq, by decide, _, idx hq, rfl, ?_⟩
      refine ⟨c, rfl, hcq, by decide, _, idx hcq, rfl, ?_⟩
      refine ⟨_, r_apart b[q][c] (b6 _ (List.getElem_mem hq) _ (List.getElem_mem hcq)).1, rfl, ?_⟩
      refine ⟨_, r_mul (mul b[p][c] l[k].v[c]).1 (conj b[q][c]), rfl, ?_⟩
      refine ⟨fun h6 => ?_, fun h6 => ?_⟩
      · simp only [bne_iff_ne] at h6
        show SV.tup [.p (.sl false 0 []), .p (i64 16)] = resSs _
        rw [bact_bad h1 h2 (List.getElem_mem h3) hc' (by rw [es, if_neg (by simp [h5]), if_pos h6]; decide)]; rfl
      have h6 : (mul (mul b[p][c] l[k].v[c]).1 (conj b[q][c])).2 = 0 := by simpa only [bne_eq_false_iff_eq] using h6
      rw [if_neg (by simp [h5]), if_neg (by simp [h6])] at es
      refine ⟨⟨by show c + 1 ≤ _; omega, by show (c + 1) * 24 ≤ _; omega⟩, ?_⟩
      refine ⟨c + 1, by show _ < _; simp; omega, ⟨rfl, rfl⟩, ⟨by show PV.v (.int _ _) = _; rw [succ_w (by omega)], trivial⟩, ⟨⟨rfl, ?_⟩, trivial⟩, (by repeat' first | exact trivial | rfl | apply And.intro), hc', ?_⟩
      · show _ ++ _ = flat ((List.range (c + 1)).map fun c => (sact b l[k] c).1)
        rw [List.range_succ, List.map_append, List.map_singleton, flat_snoc, es]; rfl
      · intro c' h'
        by_cases e : c' = c
        · subst e; rw [es]; exact h6
        · exact hcz c' (by omega)
    · simp at h4
      have : c = (row0 b).length := by rw [eb] at hc ⊢; omega
      subst this
      refine ⟨false, ?_⟩
      refine ⟨⟨by show k + 1 ≤ _; omega, by show (k + 1) * 48 ≤ _; omega⟩, ?_⟩
      refine ⟨k + 1, by show _ < _; simp; omega, ⟨rfl, rfl⟩, ⟨by show PV.v (.int _ _) = _; rw [succ_w (by omega)], trivial⟩, ⟨⟨rfl, ?_⟩, trivial⟩, (by repeat' first | exact trivial | rfl | apply And.intro), h3, ?_⟩
      · show flat ((l.take k).map fun s => s.set ((List.range (row0 b).length).map fun c => (sact b s c).1)) ++ [i64 l[k].i, i64 l[k].j, PV.sl false (row0 b).length (flat ((List.range (row0 b).length).map fun c => (sact b l[k] c).1)), i64 l[k].n] = flat ((l.take (k + 1)).map fun s => s.set ((List.range (row0 b).length).map fun c => (sact b s c).1))
        rw [List.take_succ_eq_append_getElem h3, List.map_append, List.map_singleton, flat_snoc]
        show _ = _ ++ [i64 l[k].i, i64 l[k].j, PV.sl false ((List.range (row0 b).length).map fun c => (sact b l[k] c).1).length _, i64 l[k].n]
        rw [List.length_map, List.length_range]; rfl
      · intro s hs
        rw [List.take_succ_eq_append_getElem h3, List.mem_append] at hs
        rcases hs with hs | hs
        · exact hz s hs
        · simp at hs; subst hs; exact hcz
  · simp at h3
    have : k = l.length := by omega
    subst this
    rw [List.take_length] at hz
    show SV.tup [.p (.sl false l.length (flat ((l.take l.length).map fun s => s.set ((List.range (row0 b).length).map fun c => (sact b s c).1)))), .p (i64 0)] = resSs _
    rw [bact_ok h1 h2 hz, List.take_length]
    simp
end Go.Pv
