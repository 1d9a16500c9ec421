/- Contracts of chains: Compose, Act. -/
import Derived.Test.YtfbcedhbeebipaaNc
namespace Go.Pv
open Go.Vc
open Go.Proofs
set_option maxRecDepth 10000

theorem k_compose (l : List Stg) (n m : Int) (hl : ∀ s ∈ l, Enc.ok s) : Ret Try.prog 12 [sl l, i64 n, i64 m] [] (resSt (chcomp l n m)) := by
  refine ret (fn := Try.f12) (by kernel_rfl) (by kernel_rfl) rfl ?_
  refine ⟨[], _, k_check l n m hl, rfl, ?_⟩
  refine ⟨fun h1 => ?_, fun h1 => ?_⟩
  · simp at h1
    rw [chcomp, if_pos h1]; rfl
  simp at h1
  obtain ⟨k1, k2, k3⟩ := ck34_0 h1
  obtain ⟨n, rfl⟩ := Int.eq_ofNat_of_zero_le (show 0 ≤ n by omega)
  obtain ⟨m, rfl⟩ := Int.eq_ofNat_of_zero_le (show 0 ≤ m by omega)
  refine ⟨n, n, rfl, rfl, Nat.le_refl _, ⟨by show n + 0 ≤ _; omega, by show (n + 0) * 24 ≤ _; omega⟩, ?_⟩
  refine ⟨Nat, { inv := fun i => i ≤ n ∧ ∀ i', i' < i → ∀ c, c < m → cerr l i' c = 0, slots := [(26, fun i => i64 i)], nboxes := [(1, fun i => tabN 26 (fun i c => (comp l i c).1) n m i 0)], mu := fun i => n - i }, 0, ⟨⟨rfl, trivial⟩, trivial, ⟨rfl, ⟨rfl, (tabN_0 _ _ _ _).symm, rfl⟩, rfl, trivial⟩, Nat.zero_le _, fun _ h => absurd h (by omega)⟩, ?_⟩
  intro i ⟨hi, hz⟩
  refine ⟨fun h2 => ?_, fun h2 => ?_⟩
  · simp at h2
    refine ⟨Nat, { inv := fun c => c ≤ m ∧ ∀ c', c' < c → cerr l i c' = 0, slots := [(30, fun c => i64 c)], nboxes := [(1, fun c => tabN 26 (fun i c => (comp l i c).1) n m i c)], mu := fun c => m - c }, 0, ⟨⟨rfl, trivial⟩, trivial, (by repeat' first | exact trivial | rfl | apply And.intro), Nat.zero_le _, fun _ h => absurd h (by omega)⟩, ?_⟩
    intro c ⟨hc, hzc⟩
    refine ⟨fun h3 => ?_, fun h3 => ?_⟩
    · simp at h3
      obtain ⟨a, ra, ea⟩ := k_composed l n m hl k3 k2 (i := i) (c := c) (by omega) (by omega)
      refine ⟨[], _, ra, rfl, ?_⟩
      refine ⟨Nat.le_refl _, ?_⟩
      refine ⟨fun h4 => ?_, fun h4 => ?_⟩
      · simp at h4
        rw [chcomp, if_neg (by simp [h1]), if_neg fun q => h4 (q i (by simpa using h2) c (by simpa using h3))]; rfl
      simp at h4
      have ea := ea h4
      subst ea
      refine ⟨.out 1 i 26 12 c (flat ((List.range c).map fun c => (comp l i c).1)), tabN_get h2, ?_⟩
      refine ⟨i, rfl, h2, ?_⟩
      have hlen := tabN_len 26 (fun i c => (comp l i c).1) n m i c
      refine ⟨[.ob 4], ⟨.inl ⟨(by simp), rfl⟩, trivial⟩, rfl, by show i * 1 + 1 ≤ (tabN 26 (fun i c => (comp l i c).1) n m i c).length; omega, ?_⟩
      refine ⟨_, rfl, rfl, ?_⟩
      refine ⟨rfl, Nat.le_refl _, ⟨by show c + 1 ≤ _; omega, by show (c + 1) * 96 ≤ _; omega⟩, ?_⟩
      refine ⟨i, rfl, h2, ?_⟩
      refine ⟨by show i * 1 + 1 ≤ (tabN 26 (fun i c => (comp l i c).1) n m i c).length; omega, (by show i = i * 1; omega), ?_⟩
      refine ⟨c + 1, by show _ < _; simp; omega, ⟨rfl, rfl⟩, ⟨by show PV.v (.int _ _) = _; rw [succ_w (by omega)], trivial⟩, trivial, ⟨rfl, ⟨rfl, ?_, rfl⟩, rfl, trivial⟩, h3, fun c' hc' => ?_⟩
      · show (tabN 26 (fun i c => (comp l i c).1) n m i c).set (i * 1) (.ow 26 12 (c + 1) (flat ((List.range c).map fun c => (comp l i c).1) ++ Enc.cs (comp l i c).1)) = tabN 26 (fun i c => (comp l i c).1) n m i (c + 1)
        rw [Nat.mul_one, ← tabN_put h2]
      · by_cases e : c' = c
        · subst e; exact h4
        · exact hzc c' (by omega)
    · simp at h3
      have : c = m := by omega
      subst this
      refine ⟨i + 1, by show _ < _; simp; omega, ⟨rfl, rfl⟩, ⟨by show PV.v (.int _ _) = _; rw [succ_w (by omega)], trivial⟩, trivial, ⟨rfl, ⟨rfl, tabN_next, rfl⟩, rfl, trivial⟩, h2, fun i' hi' c' hc' => ?_⟩
      by_cases e : i' = i
      · subst e; exact hzc c' hc'
      · exact hz i' (by omega) c' hc'
  · simp at h2
    have : i = n := by omega
    subst this
    refine ⟨.no, ?_⟩
    show SV.tup [.p (.agg [u8 5, .sl false 0 [], .sl false 0 [], .sl false 0 [], .sl false 0 [], .sl false i ((tabN 26 (fun i c => (comp l i c).1) i m i 0).map ncP)]), .p (i64 0)] = _
    rw [tabN_pv, chcomp, if_neg (by simp [h1]), if_pos (by simpa using hz)]
    simp [sl, tabJ, flat]

def gcu (cs : List Cube) (j : Nat) : Cube := cs.getD j dCu
theorem gcu_get {cs : List Cube} {j : Nat} (h : j < cs.length) : gcu cs j = cs[j] := by simp [gcu, h]

/-- A cube's matrices behind t stages. -/
def mcu (l : List Stg) (cs : List Cube) (m t j : Nat) : List Jn := (List.range m).map fun k => (cact (l.take t) (gcu cs j) k).1
theorem mcu_len (l : List Stg) (cs : List Cube) (m t j : Nat) : (mcu l cs m t j).length = m := by simp [mcu]

theorem mcu_0 {l : List Stg} {cs : List Cube} {m j : Nat} (h : (gcu cs j).v.length = m) : mcu l cs m 0 j = (gcu cs j).v := by
  unfold mcu
  subst h
  show ((List.range _).map fun k => el j0 (gcu cs j).v k) = _
  have := map_el j0 (gcu cs j).v id
  simpa using this

theorem cact_step {l : List Stg} {t : Nat} (h : t < l.length) {c : Cube} {k : Nat} (h0 : (cact (l.take t) c k).2 = 0) : cact (l.take (t + 1)) c k = btw (sat l[t] c.i.toNat k) (cact (l.take t) c k).1 (sat l[t] c.j.toNat k) := by
  unfold cact at h0 ⊢
  rw [List.take_succ_eq_append_getElem h, vact_snoc, vstep, if_neg (by simp [h0])]

theorem cact_valid {l : List Stg} {c : Cube} {k : Nat} (hv : (el j0 c.v k).valid) (h0 : (cact l c k).2 = 0) : (cact l c k).1.valid := (vact_v hv l h0).1

set_option maxHeartbeats 4000000 in
theorem k_act (l : List Stg) (n m : Int) (cs : List Cube) (hl : ∀ s ∈ l, Enc.ok s) (hc : ∀ c ∈ cs, Enc.ok c) : Ret Try.prog 17 [sl l, i64 n, i64 m, sl cs] [] (resCu (chact l n m cs)) := by
  refine ret (fn := Try.f17) (by kernel_rfl) (by kernel_rfl) rfl ?_
  refine ⟨[], _, k_check l n m hl, rfl, ?_⟩
  refine ⟨fun h1 => ?_, fun h1 => ?_⟩
  · simp at h1
    rw [chact, if_pos h1]; rfl
  simp at h1
  obtain ⟨k1, k2, k3⟩ := ck34_0 h1
  refine ⟨fun h2 => ?_, fun h2 => ?_⟩
  · simp at h2
    have : cck cs n m = 4 := by rw [cck, if_pos (by omega)]
    rw [chact, if_neg (by simp [h1]), if_pos (by rw [this]; decide), this]; rfl
  simp at h2
  refine ⟨0, cs.length, rfl, rfl, Nat.zero_le _, ⟨by show cs.length + 0 ≤ _; omega, by show (cs.length + 0) * 40 ≤ _; omega⟩, ?_⟩
  refine ⟨Nat, { inv := fun k => k ≤ cs.length ∧ ∀ c ∈ cs.take k, c.good n m, slots := [(37, fun k => i64 k)], nrows := [(11, 49, 3, fun k => k, fun k => cuNs 26 (gcu cs) (fun j => (gcu cs j).v) k)], mu := fun k => cs.length - k }, 0, ⟨⟨rfl, trivial⟩, ⟨⟨rfl, rfl⟩, trivial⟩, (by repeat' first | exact trivial | rfl | apply And.intro), Nat.zero_le _, by simp⟩, ?_⟩
  intro k ⟨hk, hall⟩
  refine ⟨fun h3 => ?_, fun h3 => ?_⟩
  · simp at h3
    refine ⟨.no, ?_⟩
    refine ⟨k, rfl, h3, by decide, _, idx h3, rfl, ?_⟩
    refine ⟨.no, ?_⟩
    refine ⟨[], _, k_cube cs[k] n m (hc _ (List.getElem_mem h3)), rfl, ?_⟩
    refine ⟨fun h4 => ?_, fun h4 => ?_⟩
    · simp at h4
      have : cck cs n m = 8 := cck_8 (by omega) (List.getElem_mem h3) h4
      show SV.tup [.p (.sl false 0 []), .p (i64 8)] = _
      rw [chact, if_neg (by simp [h1]), if_pos (by rw [this]; decide), this]; rfl
    simp at h4
    refine ⟨.no, ?_⟩
    refine ⟨_, _, _, _, k_clone cs[k].v (by have := h4.2.2.2.1; omega) (by have := h4.2.2.2.1; omega), (by have := h4.2.2.2.1; omega), rfl, ?_⟩
    refine ⟨true, 2, 26, 12, ?_⟩
    refine ⟨⟨by show k + 1 ≤ _; omega, by show (k + 1) * 40 ≤ _; omega⟩, ?_⟩
    refine ⟨k + 1, by show _ < _; simp; omega, ⟨rfl, rfl⟩, ⟨by show PV.v (.int _ _) = _; rw [succ_w (by omega)], trivial⟩, ⟨⟨rfl, ?_⟩, trivial⟩, (by repeat' first | exact trivial | rfl | apply And.intro), h3, ?_⟩
    · show _ = cuNs 26 (gcu cs) (fun j => (gcu cs j).v) (k + 1)
      rw [cuNs_succ, gcu_get h3]
    · intro c hc
      rw [List.take_succ_eq_append_getElem h3, List.mem_append] at hc
      rcases hc with hc | hc
      · exact hall c hc
      · simp at hc; subst hc; exact h4
  simp at h3
  have : k = cs.length := by omega
  subst this
  rw [List.take_length] at hall
  have hk0 : cck cs n m = 0 := by rw [cck, if_neg (by omega), if_pos hall]
  obtain ⟨n, rfl⟩ := Int.eq_ofNat_of_zero_le (show 0 ≤ n by omega)
  obtain ⟨m, rfl⟩ := Int.eq_ofNat_of_zero_le (show 0 ≤ m by omega)
  have hgd : ∀ j, j < cs.length → (gcu cs j).good n m := fun j hj => by rw [gcu_get hj]; exact hall _ (List.getElem_mem hj)
  refine ⟨Nat, { inv := fun t => t ≤ l.length ∧ ∀ j, j < cs.length → ∀ k, k < m → (cact (l.take t) (gcu cs j) k).2 = 0, slots := [(60, fun t => i64 t)], nboxes := [(1, fun t => cuNs 26 (gcu cs) (mcu l cs m t) cs.length)], mu := fun t => l.length - t }, 0, ⟨⟨rfl, trivial⟩, trivial, ⟨trivial, ⟨rfl, ?_, rfl⟩, trivial⟩, Nat.zero_le _, fun _ _ _ _ => rfl⟩, ?_⟩
  · exact cuNs_congr fun j hj => by rw [mcu_0]; have := (hgd j hj).2.2.2.1; omega
  intro t ⟨ht, htz⟩
  refine ⟨fun h4 => ?_, fun h4 => ?_⟩
  · simp at h4
    have hgt := k3 _ (List.getElem_mem h4)
    refine ⟨.no, ?_⟩
    refine ⟨t, rfl, h4, by decide, _, idx h4, rfl, ?_⟩
    refine ⟨.no, ?_⟩
    refine ⟨[], _, k_table l[t] n m (hl _ (List.getElem_mem h4)) hgt (by omega) (by omega), rfl, ?_⟩
    refine ⟨fun h => absurd h (by first | decide | simp), fun _ => ?_⟩
    refine ⟨Nat, { inv := fun q => q ≤ cs.length ∧ ∀ j, j < q → ∀ k, k < m → (cact (l.take (t + 1)) (gcu cs j) k).2 = 0, slots := [(76, fun q => i64 q)], nboxes := [(1, fun q => cuNs 26 (gcu cs) (fun j => mcu l cs m (if j < q then t + 1 else t) j) cs.length)], mu := fun q => cs.length - q }, 0, ⟨⟨rfl, trivial⟩, trivial, ⟨trivial, ⟨rfl, ?_, rfl⟩, rfl, trivial⟩, Nat.zero_le _, fun _ h => absurd h (by omega)⟩, ?_⟩
    · exact cuNs_congr fun j hj => by rw [if_neg (by omega)]
    intro q ⟨hq, hqz⟩
    refine ⟨fun h5 => ?_, fun h5 => ?_⟩
    · simp at h5
      have gq := hgd q h5
      obtain ⟨p, ep⟩ := Int.eq_ofNat_of_zero_le gq.1
      obtain ⟨r, er⟩ := Int.eq_ofNat_of_zero_le (show 0 ≤ (gcu cs q).j by have := gq.2.1; omega)
      have hp : p < (tabJ (sat l[t]) n m).length := by rw [tabJ_len]; have := gq.2.1; have := gq.2.2.1; omega
      have hr : r < (tabJ (sat l[t]) n m).length := by rw [tabJ_len]; have := gq.2.2.1; omega
      have rowp : (tabJ (sat l[t]) n m)[p] = (List.range m).map (sat l[t] p) := by simp [tabJ]
      have rowr : (tabJ (sat l[t]) n m)[r] = (List.range m).map (sat l[t] r) := by simp [tabJ]
      have hvlen : ((gcu cs q).v.length : Int) = m := gq.2.2.2.1
      have at3 := cuNs_at (e := 26) (h := gcu cs) (m := fun j => mcu l cs m (if j < q then t + 1 else t) j) h5
      have hlenN := cuNs_len 26 (gcu cs) (fun j => mcu l cs m (if j < q then t + 1 else t) j) cs.length
      refine ⟨.out 1 (q * 3 + 2) 26 12 (mcu l cs m (if q < q then t + 1 else t) q).length (flat (mcu l cs m (if q < q then t + 1 else t) q)), at3.2.2, ?_⟩
      refine ⟨q, rfl, h5, ?_⟩
      refine ⟨[.p (i64 (gcu cs q).i), .p (i64 (gcu cs q).j), .ob 3], ⟨.inr ⟨by omega, _, rfl, at3.1⟩, .inr ⟨by omega, _, rfl, at3.2.1⟩, .inl ⟨rfl, rfl⟩, trivial⟩, rfl, by show q * 3 + 3 ≤ (cuNs 26 (gcu cs) (fun j => mcu l cs m (if j < q then t + 1 else t) j) cs.length).length; omega, ?_⟩
      refine ⟨.no, ?_⟩
      have mq : mcu l cs m (if q < q then t + 1 else t) q = mcu l cs m t q := by rw [if_neg (Nat.lt_irrefl q)]
      have mid : ∀ k, ((List.range m).map fun k' => if k' < k then (cact (l.take (t + 1)) (gcu cs q) k').1 else (cact (l.take t) (gcu cs q) k').1).length = m := fun k => by simp
      refine ⟨Nat, { inv := fun k => k ≤ m ∧ ∀ k', k' < k → (cact (l.take (t + 1)) (gcu cs q) k').2 = 0, slots := [(83, fun k => i64 k)], boxes := [(3, fun k => flat ((List.range m).map fun k' => if k' < k then (cact (l.take (t + 1)) (gcu cs q) k').1 else (cact (l.take t) (gcu cs q) k').1))], mu := fun k => m - k }, 0, ⟨⟨rfl, trivial⟩, trivial, ⟨trivial, ⟨rfl, rfl, rfl⟩, rfl, ⟨?_, ?_⟩, rfl, trivial⟩, Nat.zero_le _, fun _ h => absurd h (by omega)⟩, ?_⟩
      · rfl
      · rw [mq]; rfl
      intro k ⟨hk, hkz⟩
      obtain ⟨C, hC⟩ : ∃ C, C = (List.range m).map fun k' => if k' < k then (cact (l.take (t + 1)) (gcu cs q) k').1 else (cact (l.take t) (gcu cs q) k').1 := ⟨_, rfl⟩
      have lC : C.length = m := by rw [hC]; simp
      refine ⟨fun h6 => ?_, fun h6 => ?_⟩
      · have h6 : decide ((k : Int) < ((mcu l cs m (if q < q then t + 1 else t) q).length : Int)) = true := h6
        rw [mcu_len] at h6
        simp at h6
        have hkC : k < C.length := by omega
        have gC : C[k] = (cact (l.take t) (gcu cs q) k).1 := by simp [hC]
        have hz0 := htz q h5 k h6
        have hv0 : (el j0 (gcu cs q).v k).valid := by rw [el_get (by omega)]; exact gq.2.2.2.2 _ (List.getElem_mem _)
        have hcv := cact_valid hv0 hz0
        refine ⟨.no, ?_⟩
        refine ⟨k, rfl, by rw [mcu_len]; exact h6, ?_⟩
        refine ⟨Enc.cs (cact (l.take t) (gcu cs q) k).1, by rw [← gC]; subst hC; exact idx hkC, rfl, ?_⟩
        refine ⟨Nat.le_refl _, ?_⟩
        refine ⟨.no, ?_⟩
        have kp : k < ((List.range m).map (sat l[t] p)).length := by simpa using h6
        have kr : k < ((List.range m).map (sat l[t] r)).length := by simpa using h6
        have ekp : ((List.range m).map (sat l[t] p))[k] = sat l[t] p k := by simp
        have ekr : ((List.range m).map (sat l[t] r))[k] = sat l[t] r k := by simp
        have hpn : (p : Int) < n := by have := gq.2.1; have := gq.2.2.1; omega
        have hrn : (r : Int) < n := by have := gq.2.2.1; omega
        have vp := sat_valid hgt hpn (show (k : Int) < m by omega)
        have vr := sat_valid hgt hrn (show (k : Int) < m by omega)
        have step : cact (l.take (t + 1)) (gcu cs q) k = btw (sat l[t] p k) (cact (l.take t) (gcu cs q) k).1 (sat l[t] r k) := by
          rw [cact_step h4 hz0, ep, er, Int.toNat_natCast, Int.toNat_natCast]
        refine ⟨p, ep, hp, by decide, [sl ((List.range m).map (sat l[t] p))], (by rw [← rowp]; exact idx hp), rfl, ?_⟩
        refine ⟨k, rfl, kp, by decide, Enc.cs (sat l[t] p k), (by rw [← ekp]; exact idx kp), rfl, ?_⟩
        refine ⟨_, rfl, rfl, ?_⟩
        refine ⟨r, er, hr, by decide, [sl ((List.range m).map (sat l[t] r))], (by rw [← rowr]; exact idx hr), rfl, ?_⟩
        refine ⟨k, rfl, kr, by decide, Enc.cs (sat l[t] r k), (by rw [← ekr]; exact idx kr), rfl, ?_⟩
        refine ⟨_, k_between (sat l[t] p k) (cact (l.take t) (gcu cs q) k).1 (sat l[t] r k) (jok vp) (jok hcv) (jok vr) vp, rfl, ?_⟩
        refine ⟨k, rfl, by rw [mcu_len]; exact h6, ?_⟩
        have lF : (flat C).length = m * 12 := by rw [flat_length, lC]; rfl
        have hC2 : C.set k (btw (sat l[t] p k) (cact (l.take t) (gcu cs q) k).1 (sat l[t] r k)).1 = (List.range m).map fun k' => if k' < k + 1 then (cact (l.take (t + 1)) (gcu cs q) k').1 else (cact (l.take t) (gcu cs q) k').1 := by
          rw [← step, hC]
          apply List.ext_getElem (by simp)
          intro x hx1 hx2
          rw [List.getElem_set]
          simp only [List.getElem_map, List.getElem_range]
          by_cases e : k = x
          · subst e; rw [if_pos rfl, if_pos (by omega)]
          · rw [if_neg e]
            by_cases e2 : x < k
            · rw [if_pos e2, if_pos (by omega)]
            · rw [if_neg e2, if_neg (by omega)]
        refine ⟨by show k * 12 + 12 ≤ (flat ((List.range m).map fun k' => if k' < k then (cact (l.take (t + 1)) (gcu cs q) k').1 else (cact (l.take t) (gcu cs q) k').1)).length; rw [← hC]; omega, ?_⟩
        refine ⟨fun h7 => ?_, fun h7 => ?_⟩
        · simp at h7
          have h8 : (cact l (gcu cs q) k).2 ≠ 0 := vact_bad (t := t + 1) (by
            have := step; unfold cact at this; rw [this]; exact h7)
          show SV.tup [.p (.sl false 0 []), .p (i64 16)] = _
          rw [chact, if_neg (by simp [h1]), if_neg (by simp [hk0]), if_neg fun z => h8 (z (gcu cs q) (by rw [gcu_get h5]; exact List.getElem_mem _) k (by simpa using h6))]
          rfl
        · simp at h7
          refine ⟨k + 1, by show _ < _; simp; omega, ⟨rfl, rfl⟩, ⟨by show PV.v (.int _ _) = _; rw [succ_w (by omega)], trivial⟩, trivial, ⟨trivial, ⟨rfl, rfl, rfl⟩, rfl, ⟨rfl, ?_⟩, rfl, trivial⟩, h6, fun k' hk' => ?_⟩
          · show spl (flat ((List.range m).map fun k' => if k' < k then (cact (l.take (t + 1)) (gcu cs q) k').1 else (cact (l.take t) (gcu cs q) k').1)) (k * 12) (Enc.cs (btw (sat l[t] p k) (cact (l.take t) (gcu cs q) k).1 (sat l[t] r k)).1) = flat ((List.range m).map fun k' => if k' < k + 1 then (cact (l.take (t + 1)) (gcu cs q) k').1 else (cact (l.take t) (gcu cs q) k').1)
            rw [← hC, ← hC2]
            exact flat_put hkC _
          · by_cases e : k' = k
            · subst e; rw [step]; exact h7
            · exact hkz k' (by omega)
      · have h6 : decide ((k : Int) < ((mcu l cs m (if q < q then t + 1 else t) q).length : Int)) = false := h6
        rw [mcu_len] at h6
        simp at h6
        have : k = m := by omega
        subst this
        refine ⟨q + 1, by show _ < _; simp; omega, ⟨rfl, rfl⟩, ⟨by show PV.v (.int _ _) = _; rw [succ_w (by omega)], trivial⟩, trivial, ⟨trivial, ⟨rfl, ?_, rfl⟩, rfl, trivial⟩, h5, fun j hj k' hk' => ?_⟩
        · show (cuNs 26 (gcu cs) (fun j => mcu l cs k (if j < q then t + 1 else t) j) cs.length).set (q * 3 + 2) (.ow 26 12 (mcu l cs k (if q < q then t + 1 else t) q).length (flat ((List.range k).map fun k' => if k' < k then (cact (l.take (t + 1)) (gcu cs q) k').1 else (cact (l.take t) (gcu cs q) k').1))) = cuNs 26 (gcu cs) (fun j => mcu l cs k (if j < q + 1 then t + 1 else t) j) cs.length
          have e1 : ((List.range k).map fun k' => if k' < k then (cact (l.take (t + 1)) (gcu cs q) k').1 else (cact (l.take t) (gcu cs q) k').1) = mcu l cs k (t + 1) q := by
            unfold mcu
            apply List.map_congr_left
            intro x hx
            rw [if_pos (List.mem_range.1 hx)]
          have e3 : (mcu l cs k (if q < q then t + 1 else t) q).length = (mcu l cs k (t + 1) q).length := by rw [mcu_len, mcu_len]
          rw [e1, e3, cuNs_set h5]
          apply cuNs_congr
          intro j hj
          by_cases e : j = q
          · subst e; rw [if_pos rfl, if_pos (by omega)]
          · rw [if_neg e]
            by_cases e2 : j < q
            · rw [if_pos e2, if_pos (by omega)]
            · rw [if_neg e2, if_neg (by omega)]
        · by_cases e : j = q
          · subst e; exact hkz k' hk'
          · exact hqz j (by omega) k' hk'
    · simp at h5
      have : q = cs.length := by omega
      subst this
      refine ⟨t + 1, by show _ < _; simp; omega, ⟨rfl, rfl⟩, ⟨by show PV.v (.int _ _) = _; rw [succ_w (by omega)], trivial⟩, trivial, ⟨trivial, ⟨rfl, ?_, rfl⟩, trivial⟩, h4, hqz⟩
      exact cuNs_congr fun j hj => by rw [if_pos hj]
  · simp at h4
    have : t = l.length := by omega
    subst this
    show SV.tup [.p (.sl false cs.length ((cuNs 26 (gcu cs) (mcu l cs m l.length) cs.length).map ncP)), .p (i64 0)] = _
    rw [List.take_length] at htz
    have hall0 : ∀ c ∈ cs, ∀ k, k < (m : Int).toNat → (cact l c k).2 = 0 := fun c hc k hk => by
      obtain ⟨j, hj, rfl⟩ := List.getElem_of_mem hc
      have := htz j hj k (by simpa using hk)
      rwa [gcu_get hj] at this
    rw [cuNs_pv, chact, if_neg (by simp [h1]), if_neg (by simp [hk0]), if_pos hall0]
    have e2 : ((List.range cs.length).map fun j => (⟨(gcu cs j).i, (gcu cs j).j, mcu l cs m l.length j⟩ : Cube)) = cs.map fun c => ⟨c.i, c.j, (List.range (m : Int).toNat).map fun k => (cact l c k).1⟩ := by
      apply List.ext_getElem (by simp)
      intro j h1 h2
      have hj : j < cs.length := by simpa using h2
      simp only [List.getElem_map, List.getElem_range, gcu_get hj, mcu, List.take_length, Int.toNat_natCast]
    rw [e2]
    simp [sl]
end Go.Pv
