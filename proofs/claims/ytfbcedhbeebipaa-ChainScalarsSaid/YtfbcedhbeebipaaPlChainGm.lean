/- Chains: what is large, what is small. -/
import Derived.Test.YtfbcedhbeebipaaPlChainCm
namespace Go.Pv
open Go.Vc

def Stg.big (s : Stg) : Prop := 70 < s.gains.length ∨ 70 < s.band.length ∨ 70 < s.mats.length ∨ 70 < s.turns.length ∨ 70 < s.full.length
instance (s : Stg) : Decidable s.big := by unfold Stg.big; infer_instance
def gr34 (l : List Stg) (cs : List Cube) : Prop := (∃ s ∈ l, s.big) ∨ 70 < l.length ∨ 70 < cs.length
instance (l : List Stg) (cs : List Cube) : Decidable (gr34 l cs) := by unfold gr34; infer_instance

/-- No list of the stage is long. -/
def Stg.small (s : Stg) : Prop := s.gains.length ≤ 1000000 ∧ s.band.length ≤ 1000000 ∧ s.mats.length ≤ 1000000 ∧ s.turns.length ≤ 1000000 ∧ s.full.length ≤ 1000000 ∧ (∀ r ∈ s.band, r.length ≤ 1000000) ∧ ∀ r ∈ s.full, r.length ≤ 1000000

theorem s0_small : s0.small := by
  show [].length ≤ 1000000 ∧ _
  simp [s0]

theorem good_smallS {s : Stg} {n m : Int} (h : s.good n m) (hn : n ≤ 8) (hm : m ≤ 16) : s.small := by
  have hk := h.1
  obtain e | e | e | e | e : s.kind = 1 ∨ s.kind = 2 ∨ s.kind = 3 ∨ s.kind = 4 ∨ s.kind = 5 := by omega
  · obtain ⟨l, a, b, c, d, o⟩ := good_own1 h e
    unfold Stg.small
    rw [a, b, c, d]; refine ⟨by omega, ?_⟩; simp
  · obtain ⟨l, a, b, c, d, o⟩ := good_own2 h e
    unfold Stg.small
    rw [a, b, c, d]; refine ⟨by simp, by omega, by simp, by simp, by simp, fun r hr => ?_, by simp⟩
    have := (o r hr).1; omega
  · obtain ⟨l, a, b, c, d, o⟩ := good_own3 h e
    unfold Stg.small
    rw [a, b, c, d]; refine ⟨by simp, by simp, by omega, ?_⟩; simp
  · obtain ⟨l, a, b, c, d, o⟩ := good_own4 h e
    unfold Stg.small
    rw [a, b, c, d]; refine ⟨by simp, by simp, by simp, by omega, ?_⟩; simp
  · obtain ⟨l, a, b, c, d, o⟩ := good_own5 h e
    unfold Stg.small
    rw [a, b, c, d]; refine ⟨by simp, by simp, by simp, by simp, by omega, by simp, fun r hr => ?_⟩
    have := (o r hr).1; omega

theorem chinv_small {l : List Stg} {n m : Int} : ∀ s ∈ (chinv l n m).1, s.small := by
  intro s hs
  unfold chinv at hs
  split at hs
  · simp at hs
  · rename_i h
    obtain ⟨k1, k2, k3⟩ := ck34_0 (by simpa using h)
    split at hs
    · rename_i h2
      simp at hs
      obtain ⟨x, hx, rfl⟩ := hs
      exact good_smallS (h2 x hx) k1.2.1 k1.2.2.2
    · simp at hs
theorem chinv_len {l : List Stg} {n m : Int} : (chinv l n m).1.length ≤ 8 := by
  unfold chinv
  split
  · simp
  · rename_i h
    obtain ⟨k1, k2, k3⟩ := ck34_0 (by simpa using h)
    split
    · simpa using k2
    · simp

theorem chcomp_small {l : List Stg} {n m : Int} : (chcomp l n m).1.small := by
  unfold chcomp
  split
  · exact s0_small
  · rename_i h
    obtain ⟨k1, k2, k3⟩ := ck34_0 (by simpa using h)
    split
    · refine ⟨by simp, by simp, by simp, by simp, by simp; omega, by simp, fun r hr => ?_⟩
      simp at hr
      obtain ⟨i, _, rfl⟩ := hr
      simp; omega
    · exact s0_small

theorem chact_small {l : List Stg} {n m : Int} {cs : List Cube} : (chact l n m cs).1.length ≤ 64 ∧ ∀ c ∈ (chact l n m cs).1, c.v.length ≤ 16 := by
  unfold chact
  split
  · simp
  · rename_i h
    obtain ⟨k1, k2, k3⟩ := ck34_0 (by simpa using h)
    split
    · simp
    · rename_i h2
      obtain ⟨c1, c2⟩ := cck_0 (by simpa using h2)
      split
      · refine ⟨by simpa using c1, fun c hc => ?_⟩
        simp at hc
        obtain ⟨x, _, rfl⟩ := hc
        simp; omega
      · simp
end Go.Pv

/- Chains: the laws. -/
namespace Go.Pv
open Go.Vc

/-! ### What is composed -/

theorem chcomp_0 {l : List Stg} {n m : Int} (h : (chcomp l n m).2 = 0) : ck34 l n m = 0 ∧ ∀ i, i < n.toNat → ∀ c, c < m.toNat → cerr l i c = 0 := by
  unfold chcomp at h
  split at h
  · rename_i q; exact absurd h q
  · rename_i q
    split at h
    · rename_i q2; exact ⟨by simpa using q, q2⟩
    · simp at h

theorem cerr_0 {l : List Stg} {i c : Nat} (h : cerr l i c = 0) : (comp l i c).2 = 0 ∧ (jinv (comp l i c).1).2 = 0 := by
  unfold cerr at h
  split at h
  · rename_i q; exact absurd h q
  · rename_i q; exact ⟨by simpa using q, h⟩

/-- The composition: a full stage. -/
theorem chcomp_ok {l : List Stg} {n m : Int} (h : (chcomp l n m).2 = 0) : (chcomp l n m).1 = ⟨5, [], [], [], [], tabJ (fun i c => (comp l i c).1) n.toNat m.toNat⟩ := by
  obtain ⟨h1, h2⟩ := chcomp_0 h
  rw [chcomp, if_neg (by simp [h1]), if_pos h2]; rfl

theorem chcomp_good {l : List Stg} {n m : Int} (h : (chcomp l n m).2 = 0) : (chcomp l n m).1.good n m := by
  obtain ⟨h1, h2⟩ := chcomp_0 h
  obtain ⟨k1, k2, k3⟩ := ck34_0 h1
  rw [chcomp_ok h]
  refine ⟨⟨by show (1 : Int) ≤ 5; decide, by show (5 : Int) ≤ 5; decide⟩, ?_, ?_⟩
  · unfold Stg.sizes; simp [tabJ_len]; omega
  · unfold Stg.own
    simp only [show ¬ ((5 : Int) = 1) by decide, show ¬ ((5 : Int) = 2) by decide, show ¬ ((5 : Int) = 3) by decide, show ¬ ((5 : Int) = 4) by decide, if_false]
    intro r hr
    simp only [tabJ, List.mem_map, List.mem_range] at hr
    obtain ⟨i, hi, rfl⟩ := hr
    refine ⟨by simp; omega, fun j hj => ?_⟩
    simp only [List.mem_map, List.mem_range] at hj
    obtain ⟨c, hc, rfl⟩ := hj
    exact (cerr_0 (h2 i hi c hc)).2

theorem chcomp_sat {l : List Stg} {n m : Int} (h : (chcomp l n m).2 = 0) {i c : Nat} (hi : i < n.toNat) (hc : c < m.toNat) : sat (chcomp l n m).1 i c = (comp l i c).1 ∧ (comp l i c).2 = 0 := by
  refine ⟨?_, (cerr_0 ((chcomp_0 h).2 i hi c hc)).1⟩
  rw [chcomp_ok h]
  show el j0 (el [] (tabJ (fun i c => (comp l i c).1) n.toNat m.toNat) i) c = _
  rw [tabJ_get hi hc]

theorem chcomp_err {l : List Stg} {n m : Int} (h : ck34 l n m = 0) : (chcomp l n m).2 = 0 ∨ chcomp l n m = (s0, 16) := by
  unfold chcomp
  rw [if_neg (by simp [h])]
  split
  · exact .inl rfl
  · exact .inr rfl

theorem ck34_one {s : Stg} {n m : Int} (h1 : 1 ≤ n ∧ n ≤ 8 ∧ 1 ≤ m ∧ m ≤ 16) (h : s.good n m) : ck34 [s] n m = 0 := ck34_ok h1 (by simp) (by simpa using h)

/-! ### What is acted upon -/

theorem chact_0 {l : List Stg} {n m : Int} {cs : List Cube} (h : (chact l n m cs).2 = 0) : ck34 l n m = 0 ∧ cck cs n m = 0 ∧ ∀ c ∈ cs, ∀ k, k < m.toNat → (cact l c k).2 = 0 := by
  unfold chact at h
  split at h
  · rename_i q; exact absurd h q
  · rename_i q
    split at h
    · rename_i q2; exact absurd h q2
    · rename_i q2
      split at h
      · rename_i q3; exact ⟨by simpa using q, by simpa using q2, q3⟩
      · simp at h

/-- What a chain makes of a cube. -/
def acu (l : List Stg) (m : Nat) (c : Cube) : Cube := ⟨c.i, c.j, (List.range m).map fun k => (cact l c k).1⟩

theorem chact_ok {l : List Stg} {n m : Int} {cs : List Cube} (h : (chact l n m cs).2 = 0) : (chact l n m cs).1 = cs.map (acu l m.toNat) := by
  obtain ⟨h1, h2, h3⟩ := chact_0 h
  rw [chact, if_neg (by simp [h1]), if_neg (by simp [h2]), if_pos h3]; rfl

theorem chact_err {l : List Stg} {n m : Int} {cs : List Cube} (h1 : ck34 l n m = 0) (h2 : cck cs n m = 0) : (chact l n m cs).2 = 0 ∨ chact l n m cs = ([], 16) := by
  unfold chact
  rw [if_neg (by simp [h1]), if_neg (by simp [h2])]
  split
  · exact .inl rfl
  · exact .inr rfl

theorem chact_eq {l : List Stg} {n m : Int} {cs : List Cube} (h1 : ck34 l n m = 0) (h2 : cck cs n m = 0) : chact l n m cs = if ∀ c ∈ cs, ∀ k, k < m.toNat → (cact l c k).2 = 0 then (cs.map (acu l m.toNat), 0) else ([], 16) := by
  rw [chact, if_neg (by simp [h1]), if_neg (by simp [h2])]; rfl

theorem acu_el {l : List Stg} {m : Nat} {c : Cube} {k : Nat} (h : k < m) : el j0 (acu l m c).v k = (cact l c k).1 := by
  unfold acu
  rw [el_get (by simpa using h)]
  simp

theorem cact_v {l : List Stg} {c : Cube} {k : Nat} (hv : (el j0 c.v k).valid) (h : (cact l c k).2 = 0) : (cact l c k).1.valid ∧ jv (cact l c k).1 = mm (mm (prd l c.i.toNat k) (jv (el j0 c.v k))) (madj (prd l c.j.toNat k)) := vact_v hv l h

theorem cube_v {c : Cube} {n m : Int} (h : c.good n m) {k : Nat} (hk : k < m.toNat) : (el j0 c.v k).valid := by
  have := h.2.2.2.1
  rw [el_get (by omega)]
  exact h.2.2.2.2 _ (List.getElem_mem _)

theorem acu_good {l : List Stg} {n m : Int} {c : Cube} (h : c.good n m) (hz : ∀ k, k < m.toNat → (cact l c k).2 = 0) (hm : 0 ≤ m) : (acu l m.toNat c).good n m := by
  refine ⟨h.1, h.2.1, h.2.2.1, by simp [acu]; omega, fun a ha => ?_⟩
  simp only [acu, List.mem_map, List.mem_range] at ha
  obtain ⟨k, hk, rfl⟩ := ha
  exact (vact_v (cube_v h hk) l (hz k hk)).1

theorem acts_good {l : List Stg} {n m : Int} {cs : List Cube} (h : (chact l n m cs).2 = 0) : cck (chact l n m cs).1 n m = 0 := by
  obtain ⟨h1, h2, h3⟩ := chact_0 h
  obtain ⟨k1, k2, k3⟩ := ck34_0 h1
  obtain ⟨c1, c2⟩ := cck_0 h2
  rw [chact_ok h, cck, if_neg (by simpa using c1), if_pos]
  intro c hc
  simp only [List.mem_map] at hc
  obtain ⟨x, hx, rfl⟩ := hc
  exact acu_good (c2 x hx) (h3 x hx) (by omega)

theorem acu_ext {l r : List Stg} {m : Nat} {c : Cube} (h : ∀ k, k < m → (cact l c k).1 = (cact r c k).1) : acu l m c = acu r m c := by
  unfold acu
  congr 1
  exact List.map_congr_left fun k hk => h k (List.mem_range.1 hk)

/-! ### Acting by the composition -/

theorem one_act {l : List Stg} {n m : Int} {cs : List Cube} (h1 : (chact l n m cs).2 = 0) (h2 : (chcomp l n m).2 = 0) (h3 : (chact [(chcomp l n m).1] n m cs).2 = 0) : (chact l n m cs).1 = (chact [(chcomp l n m).1] n m cs).1 := by
  rw [chact_ok h1, chact_ok h3]
  obtain ⟨_, c0, a1⟩ := chact_0 h1
  obtain ⟨_, _, a3⟩ := chact_0 h3
  obtain ⟨_, cg⟩ := cck_0 c0
  refine List.map_congr_left fun c hc => acu_ext fun k hk => ?_
  have g := cg c hc
  have hv := cube_v g hk
  have hi : c.i.toNat < n.toNat := by have := g.1; have := g.2.1; have := g.2.2.1; omega
  have hj : c.j.toNat < n.toNat := by have := g.1; have := g.2.1; have := g.2.2.1; omega
  obtain ⟨v1, e1⟩ := cact_v hv (a1 c hc k hk)
  obtain ⟨v2, e2⟩ := cact_v hv (a3 c hc k hk)
  obtain ⟨si, zi⟩ := chcomp_sat h2 hi hk
  obtain ⟨sj, zj⟩ := chcomp_sat h2 hj hk
  refine jv_inj v1 v2 ?_
  rw [e1, e2]
  have p : ∀ i, prd [(chcomp l n m).1] i k = mm (jv (sat (chcomp l n m).1 i k)) m1 := fun i => rfl
  rw [p, p, mm_one, mm_one, si, sj, (comp_v l zi).2, (comp_v l zj).2]

/-! ### Chains joined -/

theorem ck34_part {l r : List Stg} {n m : Int} (h : ck34 l n m = 0) (hr : ∀ s ∈ r, s ∈ l) (hl : r.length ≤ l.length) : ck34 r n m = 0 := by
  obtain ⟨k1, k2, k3⟩ := ck34_0 h
  exact ck34_ok k1 (by omega) fun s hs => k3 s (hr s hs)

theorem cact_join {l : List Stg} {t m : Nat} {c : Cube} {k : Nat} (hk : k < m) (h : (cact (l.take t) c k).2 = 0) : cact l c k = cact (l.drop t) (acu (l.take t) m c) k := by
  have e : cact l c k = cact (l.take t ++ l.drop t) c k := by rw [List.take_append_drop]
  rw [e]
  unfold cact
  rw [vact_app]
  show (l.drop t).foldl (vstep c.i.toNat c.j.toNat k) (vact (l.take t) c.i.toNat c.j.toNat k (el j0 c.v k)) = vact (l.drop t) c.i.toNat c.j.toNat k (el j0 (acu (l.take t) m c).v k)
  rw [acu_el hk]
  unfold cact at h ⊢
  unfold vact at h ⊢
  congr 1
  exact Prod.ext rfl h

theorem join_act {l : List Stg} {n m : Int} {cs : List Cube} {t : Nat} (h : ck34 l n m = 0) (hc : cck cs n m = 0) (h1 : (chact (l.take t) n m cs).2 = 0) : chact l n m cs = chact (l.drop t) n m (chact (l.take t) n m cs).1 := by
  have hd := ck34_part (r := l.drop t) h (fun s hs => List.mem_of_mem_drop hs) (by simp)
  rw [chact_eq h hc, chact_eq hd (acts_good h1), chact_ok h1]
  obtain ⟨_, _, a1⟩ := chact_0 h1
  have key : ∀ c ∈ cs, ∀ k, k < m.toNat → cact l c k = cact (l.drop t) (acu (l.take t) m.toNat c) k := fun c hc k hk => cact_join hk (a1 c hc k hk)
  have e1 : (∀ c ∈ cs, ∀ k, k < m.toNat → (cact l c k).2 = 0) ↔ (∀ c ∈ cs.map (acu (l.take t) m.toNat), ∀ k, k < m.toNat → (cact (l.drop t) c k).2 = 0) := by
    constructor
    · intro q c hc k hk
      simp only [List.mem_map] at hc
      obtain ⟨x, hx, rfl⟩ := hc
      rw [← key x hx k hk]; exact q x hx k hk
    · intro q c hc k hk
      rw [key c hc k hk]
      exact q _ (List.mem_map.2 ⟨c, hc, rfl⟩) k hk
  have e2 : cs.map (acu l m.toNat) = (cs.map (acu (l.take t) m.toNat)).map (acu (l.drop t) m.toNat) := by
    rw [List.map_map]
    refine List.map_congr_left fun c hc => ?_
    show acu l m.toNat c = acu (l.drop t) m.toNat (acu (l.take t) m.toNat c)
    show (⟨c.i, c.j, _⟩ : Cube) = ⟨c.i, c.j, _⟩
    congr 1
    exact List.map_congr_left fun k hk => by rw [key c hc k (List.mem_range.1 hk)]
  rw [e2]
  by_cases q : ∀ c ∈ cs, ∀ k, k < m.toNat → (cact l c k).2 = 0
  · rw [if_pos q, if_pos (e1.1 q)]
  · rw [if_neg q, if_neg fun z => q (e1.2 z)]

theorem join_bad {l : List Stg} {n m : Int} {cs : List Cube} {t : Nat} (h : ck34 l n m = 0) (hc : cck cs n m = 0) (h1 : (chact (l.take t) n m cs).2 ≠ 0) : (chact l n m cs).2 = (chact (l.take t) n m cs).2 := by
  have ht := ck34_part (r := l.take t) h (fun s hs => List.mem_of_mem_take hs) (by simp; omega)
  have e : (chact (l.take t) n m cs).2 = 16 := by
    rcases chact_err ht hc with q | q
    · exact absurd q h1
    · rw [q]
  rw [e]
  rcases chact_err h hc with q | q
  · exfalso
    obtain ⟨_, _, a⟩ := chact_0 q
    rw [chact_eq ht hc, if_neg] at e
    rotate_left
    · intro z
      rw [chact_eq ht hc, if_pos z] at h1
      exact h1 rfl
    apply h1
    rw [chact_eq ht hc, if_pos]
    intro c hcm k hk
    refine Classical.byContradiction fun z => vact_bad (t := t) z (a c hcm k hk)
  · rw [q]

theorem join_comp {l : List Stg} {n m : Int} {t : Nat} (h1 : (chcomp (l.take t) n m).2 = 0) (h2 : (chcomp (l.drop t) n m).2 = 0) (h3 : (chcomp l n m).2 = 0) (h4 : (chcomp [(chcomp (l.take t) n m).1, (chcomp (l.drop t) n m).1] n m).2 = 0) : (chcomp l n m).1 = (chcomp [(chcomp (l.take t) n m).1, (chcomp (l.drop t) n m).1] n m).1 := by
  rw [chcomp_ok h3, chcomp_ok h4]
  congr 1
  unfold tabJ
  refine List.map_congr_left fun i hi => List.map_congr_left fun c hc => ?_
  have hi := List.mem_range.1 hi
  have hc := List.mem_range.1 hc
  obtain ⟨s1, z1⟩ := chcomp_sat h1 hi hc
  obtain ⟨s2, z2⟩ := chcomp_sat h2 hi hc
  obtain ⟨s3, z3⟩ := chcomp_sat h3 hi hc
  obtain ⟨s4, z4⟩ := chcomp_sat h4 hi hc
  refine jv_inj (comp_v _ z3).1 (comp_v _ z4).1 ?_
  rw [(comp_v _ z3).2, (comp_v _ z4).2]
  have p : ∀ a b : Stg, prd [a, b] i c = mm (jv (sat b i c)) (mm (jv (sat a i c)) m1) := fun _ _ => rfl
  rw [p, s1, s2, (comp_v _ z1).2, (comp_v _ z2).2, mm_one, ← prd_app, List.take_append_drop]
end Go.Pv

/- Chains: a chain and its inverse; scalars. -/
namespace Go.Pv
open Go.Vc

/-! ### A chain and its inverse -/

theorem chinv_0 {l : List Stg} {n m : Int} (h : (chinv l n m).2 = 0) : ck34 l n m = 0 ∧ (∀ s ∈ l, (sinv s).good n m) ∧ (chinv l n m).1 = l.reverse.map sinv := by
  unfold chinv at h ⊢
  split at h
  · rename_i q; exact absurd h q
  · rename_i q
    rw [if_neg q]
    split at h
    · rename_i q2; rw [if_pos q2]; exact ⟨by simpa using q, q2, rfl⟩
    · simp at h

theorem chinv_err {l : List Stg} {n m : Int} (h : ck34 l n m = 0) : (chinv l n m).2 = 0 ∨ chinv l n m = ([], 16) := by
  unfold chinv
  rw [if_neg (by simp [h])]
  split
  · exact .inl rfl
  · exact .inr rfl

theorem back_good {l : List Stg} {n m : Int} (h : (chinv l n m).2 = 0) : ck34 (chinv l n m).1 n m = 0 ∧ (chinv l n m).1.length = l.length := by
  obtain ⟨h1, h2, h3⟩ := chinv_0 h
  obtain ⟨k1, k2, k3⟩ := ck34_0 h1
  rw [h3]
  refine ⟨ck34_ok k1 (by simpa using k2) fun s hs => ?_, by simp⟩
  simp only [List.mem_map, List.mem_reverse] at hs
  obtain ⟨x, hx, rfl⟩ := hs
  exact h2 x hx

theorem back_back {l : List Stg} {n m : Int} (h : (chinv l n m).2 = 0) : chinv (chinv l n m).1 n m = (l, 0) := by
  obtain ⟨g1, g2⟩ := back_good h
  obtain ⟨h1, h2, h3⟩ := chinv_0 h
  obtain ⟨k1, k2, k3⟩ := ck34_0 h1
  have e : ∀ s ∈ l, sinv (sinv s) = s := fun s hs => sinv_sinv (k3 s hs) (h2 s hs)
  rw [chinv, if_neg (by simp [g1]), if_pos]
  · rw [h3, ← List.map_reverse, List.reverse_reverse, List.map_map]
    congr 1
    exact map_same fun s hs => e s hs
  · intro s hs
    rw [h3] at hs
    simp only [List.mem_map, List.mem_reverse] at hs
    obtain ⟨x, hx, rfl⟩ := hs
    rw [e x hx]; exact k3 x hx

theorem cube_mats {c : Cube} {m : Nat} (h : c.v.length = m) : (List.range m).map (el j0 c.v) = c.v := by
  subst h
  have := map_el j0 c.v id
  simpa using this

theorem back_act {l : List Stg} {n m : Int} {cs : List Cube} (h : (chinv l n m).2 = 0) (h1 : (chact l n m cs).2 = 0) (h2 : (chact (chinv l n m).1 n m (chact l n m cs).1).2 = 0) : (chact (chinv l n m).1 n m (chact l n m cs).1).1 = cs := by
  obtain ⟨i1, i2, i3⟩ := chinv_0 h
  obtain ⟨k1, k2, k3⟩ := ck34_0 i1
  obtain ⟨_, c0, a1⟩ := chact_0 h1
  obtain ⟨_, _, a2⟩ := chact_0 h2
  obtain ⟨_, cg⟩ := cck_0 c0
  rw [chact_ok h2, chact_ok h1, List.map_map]
  rw [chact_ok h1] at a2
  refine map_same fun c hc => ?_
  have g := cg c hc
  have hlen : c.v.length = m.toNat := by have := g.2.2.2.1; omega
  show acu (chinv l n m).1 m.toNat (acu l m.toNat c) = c
  have e : (List.range m.toNat).map (fun k => (cact (chinv l n m).1 (acu l m.toNat c) k).1) = c.v := by
    rw [← cube_mats hlen]
    refine List.map_congr_left fun k hk => ?_
    have hk := List.mem_range.1 hk
    have hv := cube_v g hk
    obtain ⟨v1, e1⟩ := cact_v hv (a1 c hc k hk)
    have hv2 : (el j0 (acu l m.toNat c).v k).valid := by rw [acu_el hk]; exact v1
    obtain ⟨v2, e2⟩ := cact_v hv2 (a2 _ (List.mem_map.2 ⟨c, hc, rfl⟩) k hk)
    refine jv_inj v2 hv ?_
    rw [e2, acu_el hk, e1, i3]
    have hi : (c.i.toNat : Int) < n := by have := g.1; have := g.2.1; have := g.2.2.1; omega
    have hj : (c.j.toNat : Int) < n := by have := g.1; have := g.2.1; have := g.2.2.1; omega
    have pi := prd_inv k3 i2 hi (show (k : Int) < m by omega)
    have pj := prd_inv k3 i2 hj (show (k : Int) < m by omega)
    show mm (mm (prd (l.reverse.map sinv) c.i.toNat k) (mm (mm (prd l c.i.toNat k) (jv (el j0 c.v k))) (madj (prd l c.j.toNat k)))) (madj (prd (l.reverse.map sinv) c.j.toNat k)) = _
    rw [← mm_assoc, ← mm_assoc, pi, one_mm, mm_assoc, ← madj_mm, pj, madj_one, mm_one]
  show (⟨c.i, c.j, _⟩ : Cube) = c
  rw [e]

theorem back_comp {l : List Stg} {n m : Int} (h : (chinv l n m).2 = 0) (h1 : (chcomp (l ++ (chinv l n m).1) n m).2 = 0) : ∀ i, i < n.toNat → ∀ c, c < m.toNat → (comp (l ++ (chinv l n m).1) i c).1 = diag one := by
  obtain ⟨i1, i2, i3⟩ := chinv_0 h
  obtain ⟨k1, k2, k3⟩ := ck34_0 i1
  intro i hi c hc
  obtain ⟨_, z⟩ := chcomp_sat h1 hi hc
  obtain ⟨v, e⟩ := comp_v _ z
  refine jv_inj v diag1_valid ?_
  rw [e, prd_app, i3, prd_inv k3 i2 (by omega) (by omega), diag1_v]

/-- Its list is a table of ones. -/
theorem back_full {l : List Stg} {n m : Int} (h : (chinv l n m).2 = 0) (h1 : (chcomp (l ++ (chinv l n m).1) n m).2 = 0) : (chcomp (l ++ (chinv l n m).1) n m).1.full.length = n.toNat ∧ ∀ i (hi : i < (chcomp (l ++ (chinv l n m).1) n m).1.full.length), (chcomp (l ++ (chinv l n m).1) n m).1.full[i].length = m.toNat ∧ ∀ c (hc : c < ((chcomp (l ++ (chinv l n m).1) n m).1.full[i]).length), ((chcomp (l ++ (chinv l n m).1) n m).1.full[i])[c] = diag one := by
  have key := back_comp h h1
  rw [chcomp_ok h1]
  refine ⟨tabJ_len _ _ _, fun i hi => ?_⟩
  have hi' : i < n.toNat := by simpa [tabJ] using hi
  have er : (tabJ (fun i c => (comp (l ++ (chinv l n m).1) i c).1) n.toNat m.toNat)[i]'hi = (List.range m.toNat).map fun c => (comp (l ++ (chinv l n m).1) i c).1 := by simp [tabJ]
  refine ⟨by show ((tabJ _ _ _)[i]).length = _; rw [er]; simp, fun c hc => ?_⟩
  have hc' : c < m.toNat := by
    have hc : c < ((tabJ (fun i c => (comp (l ++ (chinv l n m).1) i c).1) n.toNat m.toNat)[i]'hi).length := hc
    rw [er] at hc; simpa using hc
  show ((tabJ (fun i c => (comp (l ++ (chinv l n m).1) i c).1) n.toNat m.toNat)[i]'hi)[c] = _
  simp only [er, List.getElem_map, List.getElem_range]
  exact key i hi' c hc'

/-! ### Scalars -/

theorem czJ_valid : czJ.valid := by decide

theorem mul_of {a b c : Cx} (ha : a.valid) (hb : b.valid) (hc : c.valid) (h1 : vre a * vre b - vim a * vim b = vre c) (h2 : vre a * vim b + vim a * vre b = vim c) : mul a b = (c, 0) := by
  have da := vden ha
  have db := vden hb
  rw [mul, if_pos ⟨ha, hb⟩]
  refine make_of (mul_pos' ha.1 hb.1) hc ?_ ?_
  · rw [← h1]; unfold vre vim
    simp only [Rat.intCast_mul, Rat.intCast_sub, Rat.intCast_add]
    grind
  · rw [← h2]; unfold vre vim
    simp only [Rat.intCast_mul, Rat.intCast_sub, Rat.intCast_add]
    grind

theorem add_of {a b c : Cx} (ha : a.valid) (hb : b.valid) (hc : c.valid) (h1 : vre a + vre b = vre c) (h2 : vim a + vim b = vim c) : add a b = (c, 0) := by
  have da := vden ha
  have db := vden hb
  rw [add, if_pos ⟨ha, hb⟩]
  refine make_of (mul_pos' ha.1 hb.1) hc ?_ ?_
  · rw [← h1]; unfold vre
    simp only [Rat.intCast_mul, Rat.intCast_sub, Rat.intCast_add]
    grind
  · rw [← h2]; unfold vim
    simp only [Rat.intCast_mul, Rat.intCast_sub, Rat.intCast_add]
    grind

theorem mul_z {a : Cx} (ha : a.valid) : mul a czJ = (czJ, 0) ∧ mul czJ a = (czJ, 0) := by
  obtain ⟨z1, z2⟩ := czJ_v
  exact ⟨mul_of ha czJ_valid czJ_valid (by rw [z1, z2]; grind) (by rw [z1, z2]; grind), mul_of czJ_valid ha czJ_valid (by rw [z1, z2]; grind) (by rw [z1, z2]; grind)⟩
theorem add_z {a : Cx} (ha : a.valid) : add a czJ = (a, 0) ∧ add czJ a = (a, 0) := by
  obtain ⟨z1, z2⟩ := czJ_v
  exact ⟨add_of ha czJ_valid ha (by rw [z1]; grind) (by rw [z2]; grind), add_of czJ_valid ha ha (by rw [z1]; grind) (by rw [z2]; grind)⟩
theorem mul_1 {a : Cx} (ha : a.valid) : mul a one = (a, 0) := by
  obtain ⟨z1, z2⟩ := one_v
  exact mul_of ha oneC_valid ha (by rw [z1, z2]; grind) (by rw [z1, z2]; grind)

theorem jmul_diag {x y : Cx} (hx : x.valid) (hy : y.valid) : jmul (diag x) (diag y) = if (mul x y).2 = 0 then (diag (mul x y).1, 0) else (j0, 16) := by
  have zz := (mul_z czJ_valid).1
  have xz := (mul_z hx).1
  have zy := (mul_z hy).2
  have zx := (mul_z hx).2
  have yz := (mul_z hy).1
  have az := (add_z czJ_valid).1
  rw [jmul, if_pos ⟨diag_valid hx, diag_valid hy⟩]
  have e1 : two add x czJ czJ y = (czJ, 0) := by
    unfold two; rw [xz, zy]; simp [az]
  have e2 : two add czJ y x czJ = (czJ, 0) := by
    unfold two; rw [xz, zy]; simp [az]
  rcases mul_err hx hy with h | h
  · rw [if_pos h]
    obtain ⟨_, _, hv⟩ := mul_v hx hy h
    have e0 : two add x y czJ czJ = ((mul x y).1, 0) := by
      unfold two; rw [if_neg (by simp [h]), zz]; simp [(add_z hv).1]
    have e3 : two add czJ czJ x y = ((mul x y).1, 0) := by
      unfold two; rw [zz]; simp [h, (add_z hv).2]
    unfold seq4
    show (if (two add x y czJ czJ).2 ≠ 0 then _ else if (two add x czJ czJ y).2 ≠ 0 then _ else if (two add czJ y x czJ).2 ≠ 0 then _ else if (two add czJ czJ x y).2 ≠ 0 then _ else ((⟨(two add x y czJ czJ).1, (two add x czJ czJ y).1, (two add czJ y x czJ).1, (two add czJ czJ x y).1⟩ : Jn), (0 : Int))) = _
    rw [e0, e1, e2, e3]; rfl
  · have hn : (mul x y).2 = 16 := by rw [h]
    rw [if_neg (by rw [hn]; decide)]
    have e0 : two add x y czJ czJ = (c0, 16) := by
      unfold two; rw [if_pos (by rw [hn]; decide), hn]
    unfold seq4
    show (if (two add x y czJ czJ).2 ≠ 0 then (j0, (two add x y czJ czJ).2) else _) = _
    rw [e0]; rfl

/-- A stage of gains, bandpasses or turns. -/
def Stg.scal (s : Stg) : Prop := s.kind ≠ 3 ∧ s.kind ≠ 5

theorem sat_scal {s : Stg} {n m : Int} (h : s.good n m) (hs : s.scal) {i c : Nat} (hi : (i : Int) < n) (hc : (c : Int) < m) : ∃ x : Cx, x.valid ∧ sat s i c = diag x := by
  have v := sat_valid h hi hc
  have hk := h.1
  have h3 := hs.1
  have h5 := hs.2
  unfold sat at v ⊢
  obtain e | e | e : s.kind = 1 ∨ s.kind = 2 ∨ s.kind = 4 := by omega
  · rw [if_pos e] at v ⊢; exact ⟨_, v.1, rfl⟩
  · rw [if_neg (by omega), if_pos e] at v ⊢; exact ⟨_, v.1, rfl⟩
  · rw [if_neg (by omega), if_neg (by omega), if_neg (by omega), if_pos e] at v ⊢; exact ⟨_, v.1, rfl⟩

theorem comp_swap {s t : Stg} {n m : Int} (hs : s.good n m) (ht : t.good n m) (as : s.scal) (at' : t.scal) {i c : Nat} (hi : (i : Int) < n) (hc : (c : Int) < m) : comp [s, t] i c = comp [t, s] i c := by
  obtain ⟨x, vx, ex⟩ := sat_scal hs as hi hc
  obtain ⟨y, vy, ey⟩ := sat_scal ht at' hi hc
  have one1 : ∀ {z : Cx}, z.valid → jmul (diag z) (diag one) = (diag z, 0) := fun {z} hz => by
    rw [jmul_diag hz oneC_valid, mul_1 hz]; rfl
  have st : ∀ (a b : Stg) (p q : Cx), p.valid → sat a i c = diag p → sat b i c = diag q → comp [a, b] i c = jmul (diag q) (diag p) := fun a b p q hp ea eb => by
    have a1 : cstep i c (diag one, 0) a = (diag p, 0) := by rw [cstep, if_neg (by simp), ea, one1 hp]
    show cstep i c (cstep i c (diag one, 0) a) b = _
    rw [a1, cstep, if_neg (by simp), eb]
  rw [st s t x y vx ex ey, st t s y x vy ey ex, jmul_diag vy vx, jmul_diag vx vy, mul_comm' y x]

theorem ck34_two {s t : Stg} {n m : Int} (h : ck34 [s, t] n m = 0) : s.good n m ∧ t.good n m ∧ ck34 [t, s] n m = 0 ∧ ck34 [t] n m = 0 ∧ (1 ≤ n ∧ n ≤ 8 ∧ 1 ≤ m ∧ m ≤ 16) := by
  obtain ⟨k1, _, k3⟩ := ck34_0 h
  have h1 := k3 s (by simp)
  have h2 := k3 t (by simp)
  refine ⟨h1, h2, ck34_ok k1 (by simp) (by simpa using ⟨h2, h1⟩), ck34_ok k1 (by simp) (by simpa using h2), k1⟩

theorem scal_comp {s t : Stg} {n m : Int} (h : ck34 [s, t] n m = 0) (as : s.scal) (at' : t.scal) : chcomp [s, t] n m = chcomp [t, s] n m := by
  obtain ⟨g1, g2, h', _, k1⟩ := ck34_two h
  have e : ∀ i, i < n.toNat → ∀ c, c < m.toNat → comp [s, t] i c = comp [t, s] i c := fun i hi c hc => comp_swap g1 g2 as at' (by omega) (by omega)
  unfold chcomp
  rw [if_neg (show ¬ ck34 [s, t] n m ≠ 0 by simp [h]), if_neg (show ¬ ck34 [t, s] n m ≠ 0 by simp [h'])]
  have e2 : (∀ i, i < n.toNat → ∀ c, c < m.toNat → cerr [s, t] i c = 0) ↔ (∀ i, i < n.toNat → ∀ c, c < m.toNat → cerr [t, s] i c = 0) := by
    constructor
    · intro q i hi c hc
      have := q i hi c hc
      unfold cerr at this ⊢
      rw [← e i hi c hc]; exact this
    · intro q i hi c hc
      have := q i hi c hc
      unfold cerr at this ⊢
      rw [e i hi c hc]; exact this
  have e3 : ((List.range n.toNat).map fun i => (List.range m.toNat).map fun c => (comp [s, t] i c).1) = (List.range n.toNat).map fun i => (List.range m.toNat).map fun c => (comp [t, s] i c).1 :=
    List.map_congr_left fun i hi => List.map_congr_left fun c hc => by rw [e i (List.mem_range.1 hi) c (List.mem_range.1 hc)]
  rw [e3]
  by_cases q : ∀ i, i < n.toNat → ∀ c, c < m.toNat → cerr [s, t] i c = 0
  · rw [if_pos q, if_pos (e2.1 q)]
  · rw [if_neg q, if_neg fun z => q (e2.2 z)]

theorem scal_act {s t : Stg} {n m : Int} {cs : List Cube} (h : ck34 [s, t] n m = 0) (as : s.scal) (at' : t.scal) (h1 : (chact [s, t] n m cs).2 = 0) (h2 : (chact [t, s] n m cs).2 = 0) : (chact [s, t] n m cs).1 = (chact [t, s] n m cs).1 := by
  obtain ⟨g1, g2, h', _, k1⟩ := ck34_two h
  rw [chact_ok h1, chact_ok h2]
  obtain ⟨_, c0, a1⟩ := chact_0 h1
  obtain ⟨_, _, a3⟩ := chact_0 h2
  obtain ⟨_, cg⟩ := cck_0 c0
  refine List.map_congr_left fun c hc => acu_ext fun k hk => ?_
  have g := cg c hc
  have hv := cube_v g hk
  obtain ⟨v1, e1⟩ := cact_v hv (a1 c hc k hk)
  obtain ⟨v2, e2⟩ := cact_v hv (a3 c hc k hk)
  refine jv_inj v1 v2 ?_
  rw [e1, e2]
  have comm : ∀ i : Nat, (i : Int) < n → prd [s, t] i k = prd [t, s] i k := fun i hi => by
    obtain ⟨x, vx, ex⟩ := sat_scal g1 as hi (show (k : Int) < m by omega)
    obtain ⟨y, vy, ey⟩ := sat_scal g2 at' hi (show (k : Int) < m by omega)
    show mm (jv (sat t i k)) (mm (jv (sat s i k)) m1) = mm (jv (sat s i k)) (mm (jv (sat t i k)) m1)
    rw [ex, ey, mm_one, mm_one, jv_diag, jv_diag]
    apply Mx.ext' <;> simp only [mm] <;> grind
  rw [comm c.i.toNat (by have := g.1; have := g.2.1; have := g.2.2.1; omega), comm c.j.toNat (by have := g.1; have := g.2.1; have := g.2.2.1; omega)]

/-- The gains of a stage of turns. -/
def tgain (t : Stg) : Stg := ⟨1, t.turns.map fun q => rotN (quart q) one, [], [], [], []⟩

theorem tgain_good {t : Stg} {n m : Int} (h : t.good n m) (e : t.kind = 4) : (tgain t).good n m := by
  obtain ⟨l, _, _, _, _, o⟩ := good_own4 h e
  refine ⟨⟨by show (1 : Int) ≤ 1; decide, by show (1 : Int) ≤ 5; decide⟩, ?_, ?_⟩
  · unfold Stg.sizes tgain; simp; exact l
  · unfold Stg.own
    rw [if_pos (show (tgain t).kind = 1 from rfl)]
    intro c hc
    simp only [tgain, List.mem_map] at hc
    obtain ⟨q, hq, rfl⟩ := hc
    rw [quart3 (o q hq)]
    have := o q hq
    exact rot_valid4 (by omega)

theorem tgain_sat {t : Stg} {n m : Int} (h : t.good n m) (e : t.kind = 4) {i : Nat} (hi : (i : Int) < n) (c : Nat) : sat (tgain t) i c = sat t i c := by
  obtain ⟨l, _, _, _, _, o⟩ := good_own4 h e
  have hl : i < t.turns.length := by omega
  show diag (gat (t.turns.map fun q => rotN (quart q) one) i) = _
  unfold sat
  rw [if_neg (by omega), if_neg (by omega), if_neg (by omega), if_pos e, gat_get (by simpa using hl), List.getElem_map, el_get hl]

theorem tgain_act {t : Stg} {n m : Int} {cs : List Cube} (h : ck34 [t] n m = 0) (e : t.kind = 4) (hc : cck cs n m = 0) : chact [tgain t] n m cs = chact [t] n m cs := by
  obtain ⟨k1, _, k3⟩ := ck34_0 h
  have g := k3 t (by simp)
  have h' := ck34_one k1 (tgain_good g e)
  obtain ⟨_, cg⟩ := cck_0 hc
  rw [chact_eq h' hc, chact_eq h hc]
  have key : ∀ c ∈ cs, ∀ k, cact [tgain t] c k = cact [t] c k := fun c hc k => by
    have gc := cg c hc
    show vstep c.i.toNat c.j.toNat k (el j0 c.v k, 0) (tgain t) = vstep c.i.toNat c.j.toNat k (el j0 c.v k, 0) t
    unfold vstep
    rw [tgain_sat (i := c.i.toNat) g e (by have := gc.1; have := gc.2.1; have := gc.2.2.1; omega), tgain_sat (i := c.j.toNat) g e (by have := gc.1; have := gc.2.1; have := gc.2.2.1; omega)]
  have e2 : cs.map (acu [tgain t] m.toNat) = cs.map (acu [t] m.toNat) := List.map_congr_left fun c hc => acu_ext fun k _ => by rw [key c hc k]
  rw [e2]
  by_cases q : ∀ c ∈ cs, ∀ k, k < m.toNat → (cact [t] c k).2 = 0
  · rw [if_pos q, if_pos fun c hc k hk => by rw [key c hc k]; exact q c hc k hk]
  · rw [if_neg q, if_neg fun z => q fun c hc k hk => by rw [← key c hc k]; exact z c hc k hk]

theorem tgain_mat {t : Stg} {n m : Int} (h : ck34 [t] n m = 0) (e : t.kind = 4) : chmat t n m 0 0 = (sat t 0 0, 0) ∧ chmat (tgain t) n m 0 0 = (sat t 0 0, 0) ∧ (sat t 0 0).valid := by
  obtain ⟨k1, _, k3⟩ := ck34_0 h
  have g := k3 t (by simp)
  have h' := ck34_one k1 (tgain_good g e)
  refine ⟨by rw [chmat, if_neg (by simp [h]), if_neg (by omega)]; rfl, ?_, sat_valid g (by omega) (by omega)⟩
  rw [chmat, if_neg (by simp [h']), if_neg (by omega)]
  show (sat (tgain t) 0 0, (0 : Int)) = _
  rw [tgain_sat g e (by omega)]
end Go.Pv
