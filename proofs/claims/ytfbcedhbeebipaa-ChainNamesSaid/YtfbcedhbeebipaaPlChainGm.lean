/- Chains: what is large, what is small. -/
import Derived.Test.YtfbcedhbeebipaaPlChainCm
namespace Go.Pv
open Go.Vc

def Stg.big (s : Stg) : Prop := 70 < s.gains.length ∨ 70 < s.band.length ∨ 70 < s.mats.length ∨ 70 < s.turns.length ∨ 70 < s.full.length
instance (s : Stg) : Decidable s.big := by unfold Stg.big; infer_instance
def gr34 (l : List Stg) (cs : List Cube) : Prop := (∃ s ∈ l, s.big) ∨ 70 < l.length ∨ 70 < cs.length
instance (l : List Stg) (cs : List Cube) : Decidable (gr34 l cs) := by unfold gr34; infer_instance

/-- No list of the stage is long. -/
def Stg.small (s : Stg) : Prop := s.gains.length ≤ 1000000 ∧ s.band.length ≤ 1000000 ∧ s.mats.length ≤ 1000000 ∧ s.turns.length ≤ 1000000 ∧ s.full.length ≤ 1000000 ∧ (∀ r ∈ s.band, r.length ≤ 1000000) ∧ ∀ r ∈ s.full, r.length ≤ 1000000

theorem s0_small : s0.small := by
  show [].length ≤ 1000000 ∧ _
  simp [s0]

theorem good_smallS {s : Stg} {n m : Int} (h : s.good n m) (hn : n ≤ 8) (hm : m ≤ 16) : s.small := by
  have hk := h.1
  obtain e | e | e | e | e : s.kind = 1 ∨ s.kind = 2 ∨ s.kind = 3 ∨ s.kind = 4 ∨ s.kind = 5 := by omega
  · obtain ⟨l, a, b, c, d, o⟩ := good_own1 h e
    unfold Stg.small
    rw [a, b, c, d]; refine ⟨by omega, ?_⟩; simp
  · obtain ⟨l, a, b, c, d, o⟩ := good_own2 h e
    unfold Stg.small
    rw [a, b, c, d]; refine ⟨by simp, by omega, by simp, by simp, by simp, fun r hr => ?_, by simp⟩
    have := (o r hr).1; omega
  · obtain ⟨l, a, b, c, d, o⟩ := good_own3 h e
    unfold Stg.small
    rw [a, b, c, d]; refine ⟨by simp, by simp, by omega, ?_⟩; simp
  · obtain ⟨l, a, b, c, d, o⟩ := good_own4 h e
    unfold Stg.small
    rw [a, b, c, d]; refine ⟨by simp, by simp, by simp, by omega, ?_⟩; simp
  · obtain ⟨l, a, b, c, d, o⟩ := good_own5 h e
    unfold Stg.small
    rw [a, b, c, d]; refine ⟨by simp, by simp, by simp, by simp, by omega, by simp, fun r hr => ?_⟩
    have := (o r hr).1; omega

theorem chinv_small {l : List Stg} {n m : Int} : ∀ s ∈ (chinv l n m).1, s.small := by
  intro s hs
  unfold chinv at hs
  split at hs
  · simp at hs
  · rename_i h
    obtain ⟨k1, k2, k3⟩ := ck34_0 (by simpa using h)
    split at hs
    · rename_i h2
      simp at hs
      obtain ⟨x, hx, rfl⟩ := hs
      exact good_smallS (h2 x hx) k1.2.1 k1.2.2.2
    · simp at hs
theorem chinv_len {l : List Stg} {n m : Int} : (chinv l n m).1.length ≤ 8 := by
  unfold chinv
  split
  · simp
  · rename_i h
    obtain ⟨k1, k2, k3⟩ := ck34_0 (by simpa using h)
    split
    · simpa using k2
    · simp

theorem chcomp_small {l : List Stg} {n m : Int} : (chcomp l n m).1.small := by
  unfold chcomp
  split
  · exact s0_small
  · rename_i h
    obtain ⟨k1, k2, k3⟩ := ck34_0 (by simpa using h)
    split
    · refine ⟨by simp, by simp, by simp, by simp, by simp; omega, by simp, fun r hr => ?_⟩
      simp at hr
      obtain ⟨i, _, rfl⟩ := hr
      simp; omega
    · exact s0_small

theorem chact_small {l : List Stg} {n m : Int} {cs : List Cube} : (chact l n m cs).1.length ≤ 64 ∧ ∀ c ∈ (chact l n m cs).1, c.v.length ≤ 16 := by
  unfold chact
  split
  · simp
  · rename_i h
    obtain ⟨k1, k2, k3⟩ := ck34_0 (by simpa using h)
    split
    · simp
    · rename_i h2
      obtain ⟨c1, c2⟩ := cck_0 (by simpa using h2)
      split
      · refine ⟨by simpa using c1, fun c hc => ?_⟩
        simp at hc
        obtain ⟨x, _, rfl⟩ := hc
        simp; omega
      · simp
end Go.Pv

/- Chains: the laws. -/
namespace Go.Pv
open Go.Vc

/-! ### What is composed -/

theorem chcomp_0 {l : List Stg} {n m : Int} (h : (chcomp l n m).2 = 0) : ck34 l n m = 0 ∧ ∀ i, i < n.toNat → ∀ c, c < m.toNat → cerr l i c = 0 := by
  unfold chcomp at h
  split at h
  · rename_i q; exact absurd h q
  · rename_i q
    split at h
    · rename_i q2; exact ⟨by simpa using q, q2⟩
    · simp at h

theorem cerr_0 {l : List Stg} {i c : Nat} (h : cerr l i c = 0) : (comp l i c).2 = 0 ∧ (jinv (comp l i c).1).2 = 0 := by
  unfold cerr at h
  split at h
  · rename_i q; exact absurd h q
  · rename_i q; exact ⟨by simpa using q, h⟩

/-- The composition: a full stage. -/
theorem chcomp_ok {l : List Stg} {n m : Int} (h : (chcomp l n m).2 = 0) : (chcomp l n m).1 = ⟨5, [], [], [], [], tabJ (fun i c => (comp l i c).1) n.toNat m.toNat⟩ := by
  obtain ⟨h1, h2⟩ := chcomp_0 h
  rw [chcomp, if_neg (by simp [h1]), if_pos h2]; rfl

theorem chcomp_good {l : List Stg} {n m : Int} (h : (chcomp l n m).2 = 0) : (chcomp l n m).1.good n m := by
  obtain ⟨h1, h2⟩ := chcomp_0 h
  obtain ⟨k1, k2, k3⟩ := ck34_0 h1
  rw [chcomp_ok h]
  refine ⟨⟨by show (1 : Int) ≤ 5; decide, by show (5 : Int) ≤ 5; decide⟩, ?_, ?_⟩
  · unfold Stg.sizes; simp [tabJ_len]; omega
  · unfold Stg.own
    simp only [show ¬ ((5 : Int) = 1) by decide, show ¬ ((5 : Int) = 2) by decide, show ¬ ((5 : Int) = 3) by decide, show ¬ ((5 : Int) = 4) by decide, if_false]
    intro r hr
    simp only [tabJ, List.mem_map, List.mem_range] at hr
    obtain ⟨i, hi, rfl⟩ := hr
    refine ⟨by simp; omega, fun j hj => ?_⟩
    simp only [List.mem_map, List.mem_range] at hj
    obtain ⟨c, hc, rfl⟩ := hj
    exact (cerr_0 (h2 i hi c hc)).2

theorem chcomp_sat {l : List Stg} {n m : Int} (h : (chcomp l n m).2 = 0) {i c : Nat} (hi : i < n.toNat) (hc : c < m.toNat) : sat (chcomp l n m).1 i c = (comp l i c).1 ∧ (comp l i c).2 = 0 := by
  refine ⟨?_, (cerr_0 ((chcomp_0 h).2 i hi c hc)).1⟩
  rw [chcomp_ok h]
  show el j0 (el [] (tabJ (fun i c => (comp l i c).1) n.toNat m.toNat) i) c = _
  rw [tabJ_get hi hc]

theorem chcomp_err {l : List Stg} {n m : Int} (h : ck34 l n m = 0) : (chcomp l n m).2 = 0 ∨ chcomp l n m = (s0, 16) := by
  unfold chcomp
  rw [if_neg (by simp [h])]
  split
  · exact .inl rfl
  · exact .inr rfl

theorem ck34_one {s : Stg} {n m : Int} (h1 : 1 ≤ n ∧ n ≤ 8 ∧ 1 ≤ m ∧ m ≤ 16) (h : s.good n m) : ck34 [s] n m = 0 := ck34_ok h1 (by simp) (by simpa using h)

/-! ### What is acted upon -/

theorem chact_0 {l : List Stg} {n m : Int} {cs : List Cube} (h : (chact l n m cs).2 = 0) : ck34 l n m = 0 ∧ cck cs n m = 0 ∧ ∀ c ∈ cs, ∀ k, k < m.toNat → (cact l c k).2 = 0 := by
  unfold chact at h
  split at h
  · rename_i q; exact absurd h q
  · rename_i q
    split at h
    · rename_i q2; exact absurd h q2
    · rename_i q2
      split at h
      · rename_i q3; exact ⟨by simpa using q, by simpa using q2, q3⟩
      · simp at h

/-- What a chain makes of a cube. -/
def acu (l : List Stg) (m : Nat) (c : Cube) : Cube := ⟨c.i, c.j, (List.range m).map fun k => (cact l c k).1⟩

theorem chact_ok {l : List Stg} {n m : Int} {cs : List Cube} (h : (chact l n m cs).2 = 0) : (chact l n m cs).1 = cs.map (acu l m.toNat) := by
  obtain ⟨h1, h2, h3⟩ := chact_0 h
  rw [chact, if_neg (by simp [h1]), if_neg (by simp [h2]), if_pos h3]; rfl

theorem chact_err {l : List Stg} {n m : Int} {cs : List Cube} (h1 : ck34 l n m = 0) (h2 : cck cs n m = 0) : (chact l n m cs).2 = 0 ∨ chact l n m cs = ([], 16) := by
  unfold chact
  rw [if_neg (by simp [h1]), if_neg (by simp [h2])]
  split
  · exact .inl rfl
  · exact .inr rfl

theorem chact_eq {l : List Stg} {n m : Int} {cs : List Cube} (h1 : ck34 l n m = 0) (h2 : cck cs n m = 0) : chact l n m cs = if ∀ c ∈ cs, ∀ k, k < m.toNat → (cact l c k).2 = 0 then (cs.map (acu l m.toNat), 0) else ([], 16) := by
  rw [chact, if_neg (by simp [h1]), if_neg (by simp [h2])]; rfl

theorem acu_el {l : List Stg} {m : Nat} {c : Cube} {k : Nat} (h : k < m) : el j0 (acu l m c).v k = (cact l c k).1 := by
  unfold acu
  rw [el_get (by simpa using h)]
  simp

theorem cact_v {l : List Stg} {c : Cube} {k : Nat} (hv : (el j0 c.v k).valid) (h : (cact l c k).2 = 0) : (cact l c k).1.valid ∧ jv (cact l c k).1 = mm (mm (prd l c.i.toNat k) (jv (el j0 c.v k))) (madj (prd l c.j.toNat k)) := vact_v hv l h

theorem cube_v {c : Cube} {n m : Int} (h : c.good n m) {k : Nat} (hk : k < m.toNat) : (el j0 c.v k).valid := by
  have := h.2.2.2.1
  rw [el_get (by omega)]
  exact h.2.2.2.2 _ (List.getElem_mem _)

theorem acu_good {l : List Stg} {n m : Int} {c : Cube} (h : c.good n m) (hz : ∀ k, k < m.toNat → (cact l c k).2 = 0) (hm : 0 ≤ m) : (acu l m.toNat c).good n m := by
  refine ⟨h.1, h.2.1, h.2.2.1, by simp [acu]; omega, fun a ha => ?_⟩
  simp only [acu, List.mem_map, List.mem_range] at ha
  obtain ⟨k, hk, rfl⟩ := ha
  exact (vact_v (cube_v h hk) l (hz k hk)).1

theorem acts_good {l : List Stg} {n m : Int} {cs : List Cube} (h : (chact l n m cs).2 = 0) : cck (chact l n m cs).1 n m = 0 := by
  obtain ⟨h1, h2, h3⟩ := chact_0 h
  obtain ⟨k1, k2, k3⟩ := ck34_0 h1
  obtain ⟨c1, c2⟩ := cck_0 h2
  rw [chact_ok h, cck, if_neg (by simpa using c1), if_pos]
  intro c hc
  simp only [List.mem_map] at hc
  obtain ⟨x, hx, rfl⟩ := hc
  exact acu_good (c2 x hx) (h3 x hx) (by omega)

theorem acu_ext {l r : List Stg} {m : Nat} {c : Cube} (h : ∀ k, k < m → (cact l c k).1 = (cact r c k).1) : acu l m c = acu r m c := by
  unfold acu
  congr 1
  exact List.map_congr_left fun k hk => h k (List.mem_range.1 hk)

/-! ### Acting by the composition -/

theorem one_act {l : List Stg} {n m : Int} {cs : List Cube} (h1 : (chact l n m cs).2 = 0) (h2 : (chcomp l n m).2 = 0) (h3 : (chact [(chcomp l n m).1] n m cs).2 = 0) : (chact l n m cs).1 = (chact [(chcomp l n m).1] n m cs).1 := by
  rw [chact_ok h1, chact_ok h3]
  obtain ⟨_, c0, a1⟩ := chact_0 h1
  obtain ⟨_, _, a3⟩ := chact_0 h3
  obtain ⟨_, cg⟩ := cck_0 c0
  refine List.map_congr_left fun c hc => acu_ext fun k hk => ?_
  have g := cg c hc
  have hv := cube_v g hk
  have hi : c.i.toNat < n.toNat := by have := g.1; have := g.2.1; have := g.2.2.1; omega
  have hj : c.j.toNat < n.toNat := by have := g.1; have := g.2.1; have := g.2.2.1; omega
  obtain ⟨v1, e1⟩ := cact_v hv (a1 c hc k hk)
  obtain ⟨v2, e2⟩ := cact_v hv (a3 c hc k hk)
  obtain ⟨si, zi⟩ := chcomp_sat h2 hi hk
  obtain ⟨sj, zj⟩ := chcomp_sat h2 hj hk
  refine jv_inj v1 v2 ?_
  rw [e1, e2]
  have p : ∀ i, prd [(chcomp l n m).1] i k = mm (jv (sat (chcomp l n m).1 i k)) m1 := fun i => rfl
  rw [p, p, mm_one, mm_one, si, sj, (comp_v l zi).2, (comp_v l zj).2]

/-! ### Chains joined -/

theorem ck34_part {l r : List Stg} {n m : Int} (h : ck34 l n m = 0) (hr : ∀ s ∈ r, s ∈ l) (hl : r.length ≤ l.length) : ck34 r n m = 0 := by
  obtain ⟨k1, k2, k3⟩ := ck34_0 h
  exact ck34_ok k1 (by omega) fun s hs => k3 s (hr s hs)

theorem cact_join {l : List Stg} {t m : Nat} {c : Cube} {k : Nat} (hk : k < m) (h : (cact (l.take t) c k).2 = 0) : cact l c k = cact (l.drop t) (acu (l.take t) m c) k := by
  have e : cact l c k = cact (l.take t ++ l.drop t) c k := by rw [List.take_append_drop]
  rw [e]
  unfold cact
  rw [vact_app]
  show (l.drop t).foldl (vstep c.i.toNat c.j.toNat k) (vact (l.take t) c.i.toNat c.j.toNat k (el j0 c.v k)) = vact (l.drop t) c.i.toNat c.j.toNat k (el j0 (acu (l.take t) m c).v k)
  rw [acu_el hk]
  unfold cact at h ⊢
  unfold vact at h ⊢
  congr 1
  exact Prod.ext rfl h

theorem join_act {l : List Stg} {n m : Int} {cs : List Cube} {t : Nat} (h : ck34 l n m = 0) (hc : cck cs n m = 0) (h1 : (chact (l.take t) n m cs).2 = 0) : chact l n m cs = chact (l.drop t) n m (chact (l.take t) n m cs).1 := by
  have hd := ck34_part (r := l.drop t) h (fun s hs => List.mem_of_mem_drop hs) (by simp)
  rw [chact_eq h hc, chact_eq hd (acts_good h1), chact_ok h1]
  obtain ⟨_, _, a1⟩ := chact_0 h1
  have key : ∀ c ∈ cs, ∀ k, k < m.toNat → cact l c k = cact (l.drop t) (acu (l.take t) m.toNat c) k := fun c hc k hk => cact_join hk (a1 c hc k hk)
  have e1 : (∀ c ∈ cs, ∀ k, k < m.toNat → (cact l c k).2 = 0) ↔ (∀ c ∈ cs.map (acu (l.take t) m.toNat), ∀ k, k < m.toNat → (cact (l.drop t) c k).2 = 0) := by
    constructor
    · intro q c hc k hk
      simp only [List.mem_map] at hc
      obtain ⟨x, hx, rfl⟩ := hc
      rw [← key x hx k hk]; exact q x hx k hk
    · intro q c hc k hk
      rw [key c hc k hk]
      exact q _ (List.mem_map.2 ⟨c, hc, rfl⟩) k hk
  have e2 : cs.map (acu l m.toNat) = (cs.map (acu (l.take t) m.toNat)).map (acu (l.drop t) m.toNat) := by
    rw [List.map_map]
    refine List.map_congr_left fun c hc => ?_
    show acu l m.toNat c = acu (l.drop t) m.toNat (acu (l.take t) m.toNat c)
    show (⟨c.i, c.j, _⟩ : Cube) = ⟨c.i, c.j, _⟩
    congr 1
    exact List.map_congr_left fun k hk => by rw [key c hc k (List.mem_range.1 hk)]
  rw [e2]
  by_cases q : ∀ c ∈ cs, ∀ k, k < m.toNat → (cact l c k).2 = 0
  · rw [if_pos q, if_pos (e1.1 q)]
  · rw [if_neg q, if_neg fun z => q (e1.2 z)]

theorem join_bad {l : List Stg} {n m : Int} {cs : List Cube} {t : Nat} (h : ck34 l n m = 0) (hc : cck cs n m = 0) (h1 : (chact (l.take t) n m cs).2 ≠ 0) : (chact l n m cs).2 = (chact (l.take t) n m cs).2 := by
  have ht := ck34_part (r := l.take t) h (fun s hs => List.mem_of_mem_take hs) (by simp; omega)
  have e : (chact (l.take t) n m cs).2 = 16 := by
    rcases chact_err ht hc with q | q
    · exact absurd q h1
    · rw [q]
  rw [e]
  rcases chact_err h hc with q | q
  · exfalso
    obtain ⟨_, _, a⟩ := chact_0 q
    rw [chact_eq ht hc, if_neg] at e
    rotate_left
    · intro z
      rw [chact_eq ht hc, if_pos z] at h1
      exact h1 rfl
    apply h1
    rw [chact_eq ht hc, if_pos]
    intro c hcm k hk
    refine Classical.byContradiction fun z => vact_bad (t := t) z (a c hcm k hk)
  · rw [q]

theorem join_comp {l : List Stg} {n m : Int} {t : Nat} (h1 : (chcomp (l.take t) n m).2 = 0) (h2 : (chcomp (l.drop t) n m).2 = 0) (h3 : (chcomp l n m).2 = 0) (h4 : (chcomp [(chcomp (l.take t) n m).1, (chcomp (l.drop t) n m).1] n m).2 = 0) : (chcomp l n m).1 = (chcomp [(chcomp (l.take t) n m).1, (chcomp (l.drop t) n m).1] n m).1 := by
  rw [chcomp_ok h3, chcomp_ok h4]
  congr 1
  unfold tabJ
  refine List.map_congr_left fun i hi => List.map_congr_left fun c hc => ?_
  have hi := List.mem_range.1 hi
  have hc := List.mem_range.1 hc
  obtain ⟨s1, z1⟩ := chcomp_sat h1 hi hc
  obtain ⟨s2, z2⟩ := chcomp_sat h2 hi hc
  obtain ⟨s3, z3⟩ := chcomp_sat h3 hi hc
  obtain ⟨s4, z4⟩ := chcomp_sat h4 hi hc
  refine jv_inj (comp_v _ z3).1 (comp_v _ z4).1 ?_
  rw [(comp_v _ z3).2, (comp_v _ z4).2]
  have p : ∀ a b : Stg, prd [a, b] i c = mm (jv (sat b i c)) (mm (jv (sat a i c)) m1) := fun _ _ => rfl
  rw [p, s1, s2, (comp_v _ z1).2, (comp_v _ z2).2, mm_one, ← prd_app, List.take_append_drop]
end Go.Pv
