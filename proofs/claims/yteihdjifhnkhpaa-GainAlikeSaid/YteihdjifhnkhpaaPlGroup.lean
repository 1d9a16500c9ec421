/- Tables act as a group; tables that act alike: in plain Lean. -/
import Derived.Test.YteihdjifhnkhpaaPlRefer
namespace Go.Pv
open Go.Vc

theorem mul_comm' (a b : Cx) : mul a b = mul b a := by
  unfold mul
  by_cases h : a.valid ∧ b.valid
  · rw [if_pos h, if_pos ⟨h.2, h.1⟩]
    congr 1 <;> grind
  · rw [if_neg h, if_neg (fun h' => h ⟨h'.2, h'.1⟩)]

theorem prods_congr {m m' : Cx → Cx → Cx × Int} {u v u' v' : Nat → Cx} {n : Nat} (h : ∀ k, k < n → m (u k) (v k) = m' (u' k) (v' k)) : prods m u v n = prods m' u' v' n := by
  have e : ∀ j, j ≤ n → perr m u v j = perr m' u' v' j := fun j => by
    induction j with
    | zero => intro _; rfl
    | succ j ih => intro hj; rw [perr, perr, ih (by omega), h j (by omega)]
  unfold prods
  rw [e n (Nat.le_refl _)]
  congr 2
  exact List.map_congr_left fun k hk => by rw [h k (List.mem_range.1 hk)]

theorem tmul_comm {g h : List Cx} (e : both26 g h = 0) : tmul g h = tmul h g := by
  obtain ⟨b1, b2, b3⟩ := both26_0 e
  have e' : both26 h g = 0 := by rw [both26, if_neg (by simp [b2]), if_neg (by simp [b1]), if_neg (by simp [b3])]
  rw [tmul, if_neg (by simp [e]), tmul, if_neg (by simp [e']), b3]
  exact prods_congr fun k _ => mul_comm' _ _

theorem tmul_ok {g h : List Cx} (e : both26 g h = 0) (h0 : (tmul g h).2 = 0) : (tmul g h).1.length = g.length ∧ ∀ k, k < g.length → gat (tmul g h).1 k = (mul (gat g k) (gat h k)).1 ∧ (mul (gat g k) (gat h k)).2 = 0 := by
  rw [tmul, if_neg (by simp [e])] at h0 ⊢
  obtain ⟨h1, h2⟩ := prods_ok h0
  rw [h1]
  exact ⟨by simp, fun k hk => ⟨by rw [gat_map _ hk], h2 k hk⟩⟩

theorem tinv_ok {g : List Cx} (e : ck26 g = 0) (h0 : (tinv g).2 = 0) : (tinv g).1.length = g.length ∧ ∀ k, k < g.length → gat (tinv g).1 k = (div one (gat g k)).1 ∧ (div one (gat g k)).2 = 0 := by
  rw [tinv, if_neg (by simp [e])] at h0 ⊢
  obtain ⟨h1, h2⟩ := prods_ok h0
  rw [h1]
  exact ⟨by simp, fun k hk => ⟨by rw [gat_map _ hk], h2 k hk⟩⟩

theorem at_gat (g : List Cx) (i : Int) : at_ g i = gat g i.toNat := rfl

theorem act1_v {g : List Cx} (hg : ck26 g = 0) {v : Vis} (hv : v.good g.length) (h : (act1 g v).2 = 0) :
    vre (act1 g v).1 = (vre (at_ g v.i) * vre v.v - vim (at_ g v.i) * vim v.v) * vre (at_ g v.j) + (vre (at_ g v.i) * vim v.v + vim (at_ g v.i) * vre v.v) * vim (at_ g v.j) ∧
    vim (act1 g v).1 = (vre (at_ g v.i) * vim v.v + vim (at_ g v.i) * vre v.v) * vre (at_ g v.j) - (vre (at_ g v.i) * vre v.v - vim (at_ g v.i) * vim v.v) * vim (at_ g v.j) ∧ (act1 g v).1.valid := by
  obtain ⟨_, _, hc⟩ := ck26_0 hg
  obtain ⟨h1, h2, h3⟩ := act1_ok h
  unfold Vis.good at hv
  have hi := (hc _ (at_mem (g := g) (i := v.i) (by omega) (by omega))).1
  have hj := (hc _ (at_mem (g := g) (i := v.j) (by omega) (by omega))).1
  obtain ⟨p1, p2, p3⟩ := mul_v hi hv.2.2.2.2 h1
  obtain ⟨q1, q2, q3⟩ := mul_v p3 (conj_valid hj) h2
  rw [h3, q1, q2, p1, p2, (conj_v _).1, (conj_v _).2]
  exact ⟨by grind, by grind, q3⟩

theorem good_set {v : Vis} {n : Int} (h : v.good n) {c : Cx} (hc : c.valid) : (v.set c).good n := by
  unfold Vis.good at *
  exact ⟨h.1, h.2.1, h.2.2.1, h.2.2.2.1, hc⟩

theorem one_v : vre one = 1 ∧ vim one = 0 := by
  unfold vre vim one
  constructor <;> simp <;> grind

/-- Acting by two tables is acting by their product. -/
theorem act_mul {g h : List Cx} (e : both26 g h = 0) {l : List Vis} (hl : all26 l g.length = 0) (h1 : (act26 g l).2 = 0) (h2 : (tmul g h).2 = 0) (h3 : (act26 h (act26 g l).1).2 = 0) (h4 : (act26 (tmul g h).1 l).2 = 0) :
    (act26 h (act26 g l).1).1 = (act26 (tmul g h).1 l).1 := by
  obtain ⟨b1, b2, b3⟩ := both26_0 e
  obtain ⟨tl, tk⟩ := tmul_ok e h2
  obtain ⟨_, a1, a2⟩ := act26_ok h1
  obtain ⟨_, c1, c2⟩ := act26_ok h3
  obtain ⟨ckp, d1, d2⟩ := act26_ok h4
  obtain ⟨_, lg⟩ := all26_0 hl
  rw [c1, d1, a1, List.map_map]
  refine List.map_congr_left fun v hv => ?_
  have gv := lg v hv
  obtain ⟨x1, x2, x3⟩ := act1_v b1 gv (a2 v hv)
  have gs := good_set gv x3
  have gs' : (v.set (act1 g v).1).good h.length := by rw [← b3]; exact gs
  have ok2 : (act1 h (v.set (act1 g v).1)).2 = 0 := c2 _ (by rw [a1]; exact List.mem_map.2 ⟨v, hv, rfl⟩)
  obtain ⟨y1, y2, y3⟩ := act1_v b2 gs' ok2
  have gp : v.good (tmul g h).1.length := by rw [tl]; exact gv
  obtain ⟨z1, z2, z3⟩ := act1_v ckp gp (d2 v hv)
  have hval : (act1 h (v.set (act1 g v).1)).1 = (act1 (tmul g h).1 v).1 := by
    have gv' := gv
    unfold Vis.good at gv'
    have hi : v.i.toNat < g.length := by omega
    have hj : v.j.toNat < g.length := by omega
    obtain ⟨i1, i2⟩ := tk _ hi
    obtain ⟨j1, j2⟩ := tk _ hj
    obtain ⟨p1, p2, _⟩ := mul_v (gat_valid b1 hi).1 (gat_valid b2 (by omega)).1 i2
    obtain ⟨q1, q2, _⟩ := mul_v (gat_valid b1 hj).1 (gat_valid b2 (by omega)).1 j2
    rw [← i1] at p1 p2
    rw [← j1] at q1 q2
    simp only [at_gat] at *
    refine v_inj y3 z3 ?_ ?_
    · rw [y1, z1, p1, p2, q1, q2]
      show (vre (gat h v.i.toNat) * vre (act1 g v).1 - vim (gat h v.i.toNat) * vim (act1 g v).1) * vre (gat h v.j.toNat) + (vre (gat h v.i.toNat) * vim (act1 g v).1 + vim (gat h v.i.toNat) * vre (act1 g v).1) * vim (gat h v.j.toNat) = _
      rw [x1, x2]; grind
    · rw [y2, z2, p1, p2, q1, q2]
      show (vre (gat h v.i.toNat) * vim (act1 g v).1 + vim (gat h v.i.toNat) * vre (act1 g v).1) * vre (gat h v.j.toNat) - (vre (gat h v.i.toNat) * vre (act1 g v).1 - vim (gat h v.i.toNat) * vim (act1 g v).1) * vim (gat h v.j.toNat) = _
      rw [x1, x2]; grind
  show (v.set (act1 g v).1).set (act1 h (v.set (act1 g v).1)).1 = _
  rw [hval]; rfl

theorem div_one_nz {a : Cx} (ha : a.valid) (za : ¬ a.zero) (h : (div one a).2 = 0) : ¬ (div one a).1.zero := by
  obtain ⟨h1, h2, h3⟩ := div_v (a := one) (by decide +kernel) ha za h
  rw [zero_v h3]
  rintro ⟨z1, z2⟩
  rw [z1, one_v.1, one_v.2] at h1
  rw [z2, one_v.1, one_v.2] at h2
  have : vre a = 0 ∧ vim a = 0 := ⟨by grind, by grind⟩
  exact za ((zero_v ha).2 this)

theorem tinv_ck {g : List Cx} (e : ck26 g = 0) (h0 : (tinv g).2 = 0) : ck26 (tinv g).1 = 0 := by
  obtain ⟨hl, hk⟩ := tinv_ok e h0
  obtain ⟨c1, c2, _⟩ := ck26_0 e
  refine ck26_ok (by omega) (by omega) fun c hc => ?_
  obtain ⟨k, hk', rfl⟩ := List.getElem_of_mem hc
  obtain ⟨e1, e2⟩ := hk k (by omega)
  rw [gat_get hk'] at e1
  rw [e1]
  obtain ⟨v1, z1⟩ := gat_valid e (i := k) (by omega)
  exact ⟨(div_v (a := one) (by decide +kernel) v1 z1 e2).2.2, div_one_nz v1 z1 e2⟩

theorem inv_cancel {a b u w : Rat} (n : u * u + w * w ≠ 0) (p1 : a * (u * u + w * w) = 1 * u + 0 * w) (p2 : b * (u * u + w * w) = 0 * u - 1 * w) : a * u - b * w = 1 ∧ a * w + b * u = 0 := by
  constructor
  · have : (a * u - b * w) * (u * u + w * w) = 1 * (u * u + w * w) := by grind
    grind
  · have : (a * w + b * u) * (u * u + w * w) = 0 * (u * u + w * w) := by grind
    grind

/-- Acting by the inverse undoes it. -/
theorem act_inv {g : List Cx} (e : ck26 g = 0) {l : List Vis} (hl : all26 l g.length = 0) (h1 : (act26 g l).2 = 0) (h2 : (tinv g).2 = 0) (h3 : (act26 (tinv g).1 (act26 g l).1).2 = 0) : (act26 (tinv g).1 (act26 g l).1).1 = l := by
  obtain ⟨tl, tk⟩ := tinv_ok e h2
  obtain ⟨_, a1, a2⟩ := act26_ok h1
  obtain ⟨cki, c1, c2⟩ := act26_ok h3
  obtain ⟨_, lg⟩ := all26_0 hl
  rw [c1, a1, List.map_map]
  conv => rhs; rw [← List.map_id l]
  refine List.map_congr_left fun v hv => ?_
  have gv := lg v hv
  obtain ⟨x1, x2, x3⟩ := act1_v e gv (a2 v hv)
  have gs : (v.set (act1 g v).1).good (tinv g).1.length := by rw [tl]; exact good_set gv x3
  have ok2 : (act1 (tinv g).1 (v.set (act1 g v).1)).2 = 0 := c2 _ (by rw [a1]; exact List.mem_map.2 ⟨v, hv, rfl⟩)
  obtain ⟨y1, y2, y3⟩ := act1_v cki gs ok2
  have hval : (act1 (tinv g).1 (v.set (act1 g v).1)).1 = v.v := by
    have gv' := gv
    unfold Vis.good at gv'
    have hi : v.i.toNat < g.length := by omega
    have hj : v.j.toNat < g.length := by omega
    obtain ⟨i1, i2⟩ := tk _ hi
    obtain ⟨j1, j2⟩ := tk _ hj
    obtain ⟨vi_, zi⟩ := gat_valid e hi
    obtain ⟨vj_, zj⟩ := gat_valid e hj
    obtain ⟨p1, p2, _⟩ := div_v (a := one) (by decide +kernel) vi_ zi i2
    obtain ⟨q1, q2, _⟩ := div_v (a := one) (by decide +kernel) vj_ zj j2
    have ni := v_nz vi_ zi
    have nj := v_nz vj_ zj
    rw [← i1, one_v.1, one_v.2] at p1 p2
    rw [← j1, one_v.1, one_v.2] at q1 q2
    simp only [at_gat] at *
    refine v_inj y3 gv'.2.2.2.2 ?_ ?_
    · rw [y1]
      show (vre (gat (tinv g).1 v.i.toNat) * vre (act1 g v).1 - vim (gat (tinv g).1 v.i.toNat) * vim (act1 g v).1) * vre (gat (tinv g).1 v.j.toNat) + (vre (gat (tinv g).1 v.i.toNat) * vim (act1 g v).1 + vim (gat (tinv g).1 v.i.toNat) * vre (act1 g v).1) * vim (gat (tinv g).1 v.j.toNat) = _
      rw [x1, x2]
      generalize vre (gat (tinv g).1 v.i.toNat) = a at *
      generalize vim (gat (tinv g).1 v.i.toNat) = b at *
      generalize vre (gat (tinv g).1 v.j.toNat) = c at *
      generalize vim (gat (tinv g).1 v.j.toNat) = d at *
      generalize vre (gat g v.i.toNat) = u at *
      generalize vim (gat g v.i.toNat) = w at *
      generalize vre (gat g v.j.toNat) = s at *
      generalize vim (gat g v.j.toNat) = t at *
      generalize vre v.v = m at *
      generalize vim v.v = n at *
      have ea : a = u / (u * u + w * w) := by grind
      have eb : b = -w / (u * u + w * w) := by grind
      have ec : c = s / (s * s + t * t) := by grind
      have ed : d = -t / (s * s + t * t) := by grind
      subst ea eb ec ed
      generalize hU : u * u + w * w = U at *
      generalize hS : s * s + t * t = S' at *
      have k1 : u / U * u - -w / U * w = 1 := by rw [← hU] at ni ⊢; grind
      grind
    · rw [y2]
      show (vre (gat (tinv g).1 v.i.toNat) * vim (act1 g v).1 + vim (gat (tinv g).1 v.i.toNat) * vre (act1 g v).1) * vre (gat (tinv g).1 v.j.toNat) - (vre (gat (tinv g).1 v.i.toNat) * vre (act1 g v).1 - vim (gat (tinv g).1 v.i.toNat) * vim (act1 g v).1) * vim (gat (tinv g).1 v.j.toNat) = _
      rw [x1, x2]
      generalize vre (gat (tinv g).1 v.i.toNat) = a at *
      generalize vim (gat (tinv g).1 v.i.toNat) = b at *
      generalize vre (gat (tinv g).1 v.j.toNat) = c at *
      generalize vim (gat (tinv g).1 v.j.toNat) = d at *
      generalize vre (gat g v.i.toNat) = u at *
      generalize vim (gat g v.i.toNat) = w at *
      generalize vre (gat g v.j.toNat) = s at *
      generalize vim (gat g v.j.toNat) = t at *
      generalize vre v.v = m at *
      generalize vim v.v = n at *
      obtain ⟨k1, k2⟩ := inv_cancel ni p1 p2
      obtain ⟨k3, k4⟩ := inv_cancel nj q1 q2
      clear p1 p2 q1 q2 ni nj x1 x2 y1 y2
      grind
  show (v.set (act1 g v).1).set (act1 (tinv g).1 (v.set (act1 g v).1)).1 = v
  rw [hval]; rfl

theorem mul_div_one {a : Cx} (ha : a.valid) (za : ¬ a.zero) (h : (div one a).2 = 0) : mul a (div one a).1 = (one, 0) := by
  obtain ⟨h1, h2, h3⟩ := div_v (a := one) (by decide +kernel) ha za h
  rw [one_v.1, one_v.2] at h1 h2
  obtain ⟨k1, k2⟩ := inv_cancel (v_nz ha za) h1 h2
  generalize div one a = d at *
  have da := vden ha
  have dd := vden h3
  have hp : 0 < a.den * d.1.den := mul_pos' ha.1 h3.1
  have e1 : (a.re * d.1.re - a.im * d.1.im) * 1 = 1 * (a.den * d.1.den) := by
    rw [← Rat.intCast_inj]
    simp only [Rat.intCast_mul, Rat.intCast_sub]
    unfold vre vim at k1
    have : ((1 : Int) : Rat) = 1 := rfl
    rw [this]
    grind
  have e2 : (a.re * d.1.im + a.im * d.1.re) * 1 = 0 * (a.den * d.1.den) := by
    rw [← Rat.intCast_inj]
    simp only [Rat.intCast_mul, Rat.intCast_add]
    unfold vre vim at k2
    have : ((0 : Int) : Rat) = 0 := rfl
    rw [this]
    grind
  have hn := norm_eq hp (by decide) (by decide : g3 1 0 1 = 1) e1 e2
  rw [mul, if_pos ⟨ha, h3⟩, make_valid hp, hn, if_pos (by decide +kernel)]
  rfl

theorem tmul_inv {g : List Cx} (e : ck26 g = 0) (h0 : (tinv g).2 = 0) : tmul g (tinv g).1 = (List.replicate g.length one, 0) := by
  obtain ⟨tl, tk⟩ := tinv_ok e h0
  have ck := tinv_ck e h0
  have b : both26 g (tinv g).1 = 0 := by rw [both26, if_neg (by simp [e]), if_neg (by simp [ck]), if_neg (by simp [tl])]
  rw [tmul, if_neg (by simp [b])]
  have hk : ∀ k, k < g.length → mul (gat g k) (gat (tinv g).1 k) = (one, 0) := fun k hk => by
    obtain ⟨e1, e2⟩ := tk k hk
    rw [e1]
    exact mul_div_one (gat_valid e hk).1 (gat_valid e hk).2 e2
  have hp : perr mul (gat g) (gat (tinv g).1) g.length = 0 := perr_0.2 fun k hk' => by rw [hk k hk']
  rw [prods, if_pos hp]
  congr 1
  rw [show (List.range g.length).map (fun k => (mul (gat g k) (gat (tinv g).1 k)).1) = (List.range g.length).map (fun _ => one) from List.map_congr_left fun k hk' => by rw [hk k (List.mem_range.1 hk')]]
  simp [List.map_const']
end Go.Pv
namespace Go.Pv
theorem fits_I64 {x : Int} (h : fits x) : I64 x := by unfold fits at h; exact ⟨by omega, by omega⟩

theorem ok_of_valid {a : Cx} (h : a.valid) : Enc.ok a := by
  obtain ⟨h1, h2, h3, h4, _⟩ := h
  exact ⟨fits_I64 h3, fits_I64 h4, ⟨by omega, by omega⟩⟩

theorem act26_enc {g : List Cx} {l : List Vis} (hg : ck26 g = 0) (hl : all26 l g.length = 0) (h : (act26 g l).2 = 0) (ok : ∀ v ∈ l, Enc.ok v) : ∀ v ∈ (act26 g l).1, Enc.ok v := by
  obtain ⟨_, a1, a2⟩ := act26_ok h
  obtain ⟨_, lg⟩ := all26_0 hl
  intro v hv
  rw [a1, List.mem_map] at hv
  obtain ⟨u, hu, rfl⟩ := hv
  obtain ⟨o1, o2, _, o4⟩ := ok u hu
  exact ⟨o1, o2, ok_of_valid (act1_valid hg (lg u hu) (a2 u hu)), o4⟩

theorem tmul_valid {g h : List Cx} (e : both26 g h = 0) (h0 : (tmul g h).2 = 0) : ∀ c ∈ (tmul g h).1, c.valid := by
  obtain ⟨b1, b2, b3⟩ := both26_0 e
  obtain ⟨tl, tk⟩ := tmul_ok e h0
  intro c hc
  obtain ⟨k, hk', rfl⟩ := List.getElem_of_mem hc
  obtain ⟨e1, e2⟩ := tk k (by omega)
  rw [gat_get hk'] at e1
  rw [e1]
  exact (mul_ok (gat_valid b1 (by omega)).1 (gat_valid b2 (by omega)).1 e2).2

theorem tinv_valid {g : List Cx} (e : ck26 g = 0) (h0 : (tinv g).2 = 0) : ∀ c ∈ (tinv g).1, c.valid := fun c hc => ((ck26_0 (tinv_ck e h0)).2.2 c hc).1
end Go.Pv
