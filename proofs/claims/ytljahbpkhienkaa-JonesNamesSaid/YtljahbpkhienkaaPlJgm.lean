/- Tables of matrices act as a group, in plain Lean. -/
import Derived.Test.YtljahbpkhienkaaPlCxm
namespace Go.Pv
open Go.Vc

theorem jact_ok {t : List Jn} {l : List Pol} (h : (jact t l).2 = 0) : jtab t = 0 ∧ jall l t.length = 0 ∧ (jact t l).1 = (l.map fun p => p.set (jact1 t p).1) ∧ ∀ p ∈ l, (jact1 t p).2 = 0 := by
  unfold jact at h ⊢
  split at h
  · rename_i h'; exact absurd h h'
  rename_i h1; rw [if_neg h1]
  split at h
  · rename_i h'; exact absurd h h'
  rename_i h2; rw [if_neg h2]
  split at h
  · rename_i h3; rw [if_pos h3]
    exact ⟨by simpa using h1, by simpa using h2, rfl, h3⟩
  · simp at h

theorem jact1_ok {t : List Jn} {p : Pol} (h : (jact1 t p).2 = 0) : (jmul (jg t p.i) p.v).2 = 0 ∧ (jmul (jmul (jg t p.i) p.v).1 (jadj (jg t p.j)).1).2 = 0 ∧ jact1 t p = jmul (jmul (jg t p.i) p.v).1 (jadj (jg t p.j)).1 := by
  unfold jact1 at h ⊢
  split at h
  · simp at h
  rename_i h1; rw [if_neg h1]
  split at h
  · simp at h
  rename_i h2; rw [if_neg h2]
  exact ⟨by simpa using h1, by simpa using h2, rfl⟩

theorem jg_mem {t : List Jn} {i : Int} (h0 : 0 ≤ i) (h1 : i < t.length) : jg t i ∈ t := by
  obtain ⟨k, rfl⟩ : ∃ k : Nat, i = k := ⟨i.toNat, by omega⟩
  rw [jg_get (by omega)]; exact List.getElem_mem _

theorem jact1_v {t : List Jn} {p : Pol} (ht : ∀ m ∈ t, m.valid) (hp : p.good t.length) (h : (jact1 t p).2 = 0) :
    (jact1 t p).1.valid ∧ jv (jact1 t p).1 = mm (mm (jv (jg t p.i)) (jv p.v)) (madj (jv (jg t p.j))) := by
  obtain ⟨h1, h2, h3⟩ := jact1_ok h
  have vj := ht _ (jg_mem (t := t) (i := p.j) (by have := hp.1; have := hp.2.1; omega) hp.2.2.1)
  obtain ⟨_, _, v1, e1⟩ := jmul_v h1
  obtain ⟨_, _, v2, e2⟩ := jmul_v h2
  obtain ⟨_, _, e3⟩ := jadj_v vj
  rw [h3]
  exact ⟨v2, by rw [e2, e1, e3]⟩

theorem good_setP {p : Pol} {n : Int} (h : p.good n) {m : Jn} (hm : m.valid) : (p.set m).good n := ⟨h.1, h.2.1, h.2.2.1, h.2.2.2.1, hm⟩

theorem jact_err {t : List Jn} {l : List Pol} (h1 : jtab t = 0) (h2 : jall l t.length = 0) : (jact t l).2 = 0 ∨ jact t l = ([], 16) := by
  rw [jact, if_neg (by simp [h1]), if_neg (by simp [h2])]
  split
  · exact .inl rfl
  · exact .inr rfl

theorem jact_enc {t : List Jn} {l : List Pol} (h : (jact t l).2 = 0) (hl : ∀ p ∈ l, Enc.ok p) : ∀ p ∈ (jact t l).1, Enc.ok p := by
  obtain ⟨h1, h2, h3, h4⟩ := jact_ok h
  obtain ⟨_, _, tv, _⟩ := jtab_0 h1
  obtain ⟨_, lg⟩ := jall_0 h2
  intro p hp
  rw [h3, List.mem_map] at hp
  obtain ⟨q, hq, rfl⟩ := hp
  have := hl q hq
  exact ⟨this.1, this.2.1, jn_ok (jact1_v tv (lg q hq) (h4 q hq)).1, this.2.2.2⟩

/-- Two tables, one after the other: their products. -/
theorem jact_mul {s t u : List Jn} {l : List Pol} (hts : t.length = s.length) (hus : u.length = s.length) (hu : ∀ k : Nat, k < s.length → jv (jg u k) = mm (jv (jg t k)) (jv (jg s k)))
    (h1 : (jact s l).2 = 0) (h2 : (jact t (jact s l).1).2 = 0) (h3 : (jact u l).2 = 0) : (jact t (jact s l).1).1 = (jact u l).1 := by
  obtain ⟨a1, a2, a3, a4⟩ := jact_ok h1
  obtain ⟨b1, b2, b3, b4⟩ := jact_ok h2
  obtain ⟨c1, c2, c3, c4⟩ := jact_ok h3
  obtain ⟨_, _, sv, _⟩ := jtab_0 a1
  obtain ⟨_, _, tv, _⟩ := jtab_0 b1
  obtain ⟨_, _, uv, _⟩ := jtab_0 c1
  obtain ⟨_, lg⟩ := jall_0 a2
  rw [b3, c3, a3, List.map_map]
  refine List.map_congr_left fun p hp => ?_
  have g0 := lg p hp
  obtain ⟨v1, e1⟩ := jact1_v sv g0 (a4 p hp)
  have g1 := good_setP g0 v1
  have ok2 : (jact1 t (p.set (jact1 s p).1)).2 = 0 := b4 _ (by rw [a3]; exact List.mem_map.2 ⟨p, hp, rfl⟩)
  obtain ⟨v2, e2⟩ := jact1_v tv (by rw [hts]; exact g1) ok2
  obtain ⟨v3, e3⟩ := jact1_v uv (by rw [hus]; exact g0) (c4 p hp)
  have key : (jact1 t (p.set (jact1 s p).1)).1 = (jact1 u p).1 := by
    refine jv_inj v2 v3 ?_
    obtain ⟨i, hi⟩ : ∃ i : Nat, p.i = i := ⟨p.i.toNat, by have := g0.1; omega⟩
    obtain ⟨j, hj⟩ : ∃ j : Nat, p.j = j := ⟨p.j.toNat, by have := g0.1; have := g0.2.1; omega⟩
    have hi' : i < s.length := by have := g0.2.1; have := g0.2.2.1; omega
    have hj' : j < s.length := by have := g0.2.2.1; omega
    rw [e2, e3]
    show mm (mm (jv (jg t p.i)) (jv (jact1 s p).1)) (madj (jv (jg t p.j))) = _
    rw [e1, hi, hj, hu i hi', hu j hj', madj_mm]
    simp only [mm_assoc]
  show (p.set (jact1 s p).1).set (jact1 t (p.set (jact1 s p).1)).1 = p.set (jact1 u p).1
  rw [key]; rfl

/-- A table and its inverse: nothing is changed. -/
theorem jact_back {s u : List Jn} {l : List Pol} (hus : u.length = s.length) (hu : ∀ k : Nat, k < s.length → mm (jv (jg u k)) (jv (jg s k)) = m1)
    (h1 : (jact s l).2 = 0) (h2 : (jact u (jact s l).1).2 = 0) : (jact u (jact s l).1).1 = l := by
  obtain ⟨a1, a2, a3, a4⟩ := jact_ok h1
  obtain ⟨b1, b2, b3, b4⟩ := jact_ok h2
  obtain ⟨_, _, sv, _⟩ := jtab_0 a1
  obtain ⟨_, _, uv, _⟩ := jtab_0 b1
  obtain ⟨_, lg⟩ := jall_0 a2
  rw [b3, a3, List.map_map]
  have : ∀ p ∈ l, ((fun p => p.set (jact1 u p).1) ∘ fun p => p.set (jact1 s p).1) p = p := fun p hp => by
    have g0 := lg p hp
    obtain ⟨v1, e1⟩ := jact1_v sv g0 (a4 p hp)
    have g1 := good_setP g0 v1
    have ok2 : (jact1 u (p.set (jact1 s p).1)).2 = 0 := b4 _ (by rw [a3]; exact List.mem_map.2 ⟨p, hp, rfl⟩)
    obtain ⟨v2, e2⟩ := jact1_v uv (by rw [hus]; exact g1) ok2
    have key : (jact1 u (p.set (jact1 s p).1)).1 = p.v := by
      refine jv_inj v2 g0.2.2.2.2 ?_
      obtain ⟨i, hi⟩ : ∃ i : Nat, p.i = i := ⟨p.i.toNat, by have := g0.1; omega⟩
      obtain ⟨j, hj⟩ : ∃ j : Nat, p.j = j := ⟨p.j.toNat, by have := g0.1; have := g0.2.1; omega⟩
      have hi' : i < s.length := by have := g0.2.1; have := g0.2.2.1; omega
      have hj' : j < s.length := by have := g0.2.2.1; omega
      rw [e2]
      show mm (mm (jv (jg u p.i)) (jv (jact1 s p).1)) (madj (jv (jg u p.j))) = _
      rw [e1, hi, hj]
      have q1 : mm (jv (jg u i)) (mm (mm (jv (jg s i)) (jv p.v)) (madj (jv (jg s j)))) = mm (jv p.v) (madj (jv (jg s j))) := by
        rw [← mm_assoc, ← mm_assoc, hu i hi', one_mm]
      rw [q1, mm_assoc, ← madj_mm, hu j hj', madj_one, mm_one]
    show (p.set (jact1 s p).1).set (jact1 u (p.set (jact1 s p).1)).1 = p
    rw [key]; rfl
  rw [List.map_congr_left this, List.map_id']
end Go.Pv

/- Loops of four stations, in plain Lean. -/
namespace Go.Pv
open Go.Vc

def Pol.key (p : Pol) : Int × Int := (p.i, p.j)

def jck (l : List Pol) : Int := if jall l 8 ≠ 0 then jall l 8 else if (l.map Pol.key).Nodup then 0 else 14

/-- The coherency from a station to another one. -/
def jgot (i j : Int) : List Pol → Option Jn
  | [] => none
  | p :: r => if p.i = i ∧ p.j = j then some p.v else if p.i = j ∧ p.j = i then some (jadj p.v).1 else jgot i j r

theorem jgot_drop {l : List Pol} {k : Nat} (hk : k < l.length) (i j : Int) : jgot i j (l.drop k) = if l[k].i = i ∧ l[k].j = j then some l[k].v else if l[k].i = j ∧ l[k].j = i then some (jadj l[k].v).1 else jgot i j (l.drop (k + 1)) := by
  rw [List.drop_eq_getElem_cons hk]; rfl

def gJ (l : List Pol) (i j : Int) : Jn := (jgot i j l).getD j0

def jlerr (l : List Pol) (s : List Int) : Int := if jck l ≠ 0 then jck l else if apart s then 0 else 2

def jm3 (x y z w : Jn) : Jn × Int :=
  if (jmul x y).2 ≠ 0 then (j0, (jmul x y).2) else if (jmul (jmul x y).1 z).2 ≠ 0 then (j0, (jmul (jmul x y).1 z).2) else jmul (jmul (jmul x y).1 z).1 w

def jlp (l : List Pol) (a b c d : Int) : Jn × Int :=
  if (jgot a b l).isNone ∨ (jgot c b l).isNone ∨ (jgot c d l).isNone ∨ (jgot a d l).isNone then (j0, 6) else
  if (jinv (gJ l c b)).2 ≠ 0 then (j0, (jinv (gJ l c b)).2) else if (jinv (gJ l a d)).2 ≠ 0 then (j0, (jinv (gJ l a d)).2) else
  jm3 (gJ l a b) (jinv (gJ l c b)).1 (gJ l c d) (jinv (gJ l a d)).1

def jloop (l : List Pol) (a b c d : Int) : Jn × Int :=
  if jlerr l [a, b, c, d] ≠ 0 then (j0, jlerr l [a, b, c, d]) else jlp l a b c d

theorem jmul_bad {a b : Jn} (h : (jmul a b).2 ≠ 0) : jmul a b = (j0, (jmul a b).2) := by
  unfold jmul at h ⊢
  split
  · rename_i hv
    rw [if_pos hv] at h
    unfold seq4 at h ⊢
    split
    · rfl
    · split
      · rfl
      · split
        · rfl
        · split
          · rfl
          · rename_i h1 h2 h3 h4
            rw [if_neg h1, if_neg h2, if_neg h3, if_neg h4] at h
            exact absurd rfl h
  · rfl

theorem jinv_bad {a : Jn} (h : (jinv a).2 ≠ 0) : jinv a = (j0, (jinv a).2) := by
  unfold jinv at h ⊢
  split
  · rfl
  · rename_i hv
    rw [if_neg hv] at h
    unfold seq4 at h ⊢
    split
    · rfl
    · split
      · rfl
      · split
        · rfl
        · split
          · rfl
          · rename_i h1 h2 h3 h4
            rw [if_neg h1, if_neg h2, if_neg h3, if_neg h4] at h
            exact absurd rfl h

theorem jck_0 {l : List Pol} (h : jck l = 0) : l.length ≤ 64 ∧ (∀ p ∈ l, p.good 8) ∧ (l.map Pol.key).Nodup := by
  unfold jck at h
  split at h
  · rename_i h'; exact absurd h h'
  · rename_i h1
    split at h
    · rename_i h2
      have := jall_0 (by simpa using h1 : jall l 8 = 0)
      exact ⟨this.1, this.2, h2⟩
    · omega

theorem pkeys_succ {l : List Pol} {k : Nat} (hk : k < l.length) : ((l.take (k + 1)).map Pol.key).Nodup ↔ ((l.take k).map Pol.key).Nodup ∧ l[k].key ∉ (l.take k).map Pol.key := by
  rw [List.take_succ_eq_append_getElem hk, List.map_append, List.map_singleton, List.nodup_append]
  constructor
  · rintro ⟨h1, _, h3⟩
    exact ⟨h1, fun h => h3 _ h _ (by simp) rfl⟩
  · rintro ⟨h1, h2⟩
    refine ⟨h1, by simp, ?_⟩
    intro a ha b hb
    simp at hb
    subst hb
    rintro rfl
    exact h2 ha

theorem pkeys_take {l : List Pol} (k : Nat) (h : (l.map Pol.key).Nodup) : ((l.take k).map Pol.key).Nodup := by
  rw [List.map_take]
  exact h.sublist (List.take_sublist ..)

theorem jgot_valid {l : List Pol} (hl : ∀ p ∈ l, p.good 8) {i j : Int} {m : Jn} (h : jgot i j l = some m) : m.valid := by
  induction l with
  | nil => cases h
  | cons p r ih =>
    have g := (hl p (by simp)).2.2.2.2
    unfold jgot at h
    split at h
    · cases h; exact g
    · split at h
      · cases h; exact (jadj_v g).2.1
      · exact ih (fun q hq => hl q (by simp [hq])) h

theorem gJ_valid {l : List Pol} (hl : ∀ p ∈ l, p.good 8) {i j : Int} (h : (jgot i j l).isNone = false) : (gJ l i j).valid := by
  unfold gJ
  cases hg : jgot i j l with
  | none => rw [hg] at h; cases h
  | some m => exact jgot_valid hl hg

/-! ### What no table changes -/

theorem mdet_comm (x y : Mx) : mdet (mm x y) = mdet (mm y x) := by
  apply Prod.ext <;> simp only [mdet, mm] <;> grind

/-- A matrix with an inverse. -/
def Minv (x y : Mx) : Prop := mm x y = m1 ∧ mm y x = m1

theorem minv_of {x : Mx} (h : (mdet x).1 * (mdet x).1 + (mdet x).2 * (mdet x).2 ≠ 0) : ∃ y, Minv x y := by
  obtain ⟨k, hk⟩ : ∃ k : Rat, ((mdet x).1 * (mdet x).1 + (mdet x).2 * (mdet x).2) * k = 1 := ⟨_, Rat.mul_inv_cancel _ h⟩
  generalize hp : (mdet x).1 = p at *
  generalize hq : (mdet x).2 = q at *
  simp only [mdet] at hp hq
  refine ⟨⟨(x.dr * p + x.di * q) * k, (x.di * p - x.dr * q) * k, -(x.br * p + x.bi * q) * k, -(x.bi * p - x.br * q) * k, -(x.cr * p + x.ci * q) * k, -(x.ci * p - x.cr * q) * k, (x.ar * p + x.ai * q) * k, (x.ai * p - x.ar * q) * k⟩, ?_, ?_⟩ <;> apply Mx.ext' <;> simp only [mm, m1] <;> grind

theorem minv_madj {x y : Mx} (h : Minv x y) : Minv (madj x) (madj y) := by
  constructor
  · rw [← madj_mm, h.2, madj_one]
  · rw [← madj_mm, h.1, madj_one]

theorem minv_uniq {x y z : Mx} (h : mm z x = m1) (h' : mm x y = m1) : z = y := by
  rw [← mm_one z, ← h', ← mm_assoc, h, one_mm]

theorem cancel {x y : Mx} (h : mm x y = m1) (z : Mx) : mm x (mm y z) = z := by rw [← mm_assoc, h, one_mm]

/-- The loop of a table's action. -/
theorem loop_key {ta tb tc td ta' tb' tc' td' vab vcb vcd vad wcb wad zcb zad : Mx} (hb : Minv tb tb') (hc : Minv tc tc') (hd : Minv td td') (ha : Minv ta ta')
    (h1 : mm vcb wcb = m1) (h2 : mm vad wad = m1) (h3 : mm zcb (mm (mm tc vcb) (madj tb)) = m1) (h4 : mm zad (mm (mm ta vad) (madj td)) = m1) :
    mm (mm (mm (mm (mm ta vab) (madj tb)) zcb) (mm (mm tc vcd) (madj td))) zad = mm (mm ta (mm (mm (mm vab wcb) vcd) wad)) ta' := by
  have eb := minv_madj hb
  have ed := minv_madj hd
  have e1 : zcb = mm (madj tb') (mm wcb tc') := by
    refine minv_uniq h3 ?_
    simp only [mm_assoc]
    rw [cancel eb.1, cancel h1, hc.1]
  have e2 : zad = mm (madj td') (mm wad ta') := by
    refine minv_uniq h4 ?_
    simp only [mm_assoc]
    rw [cancel ed.1, cancel h2, ha.1]
  rw [e1, e2]
  simp only [mm_assoc]
  rw [cancel eb.1, cancel hc.2, cancel ed.1]

theorem loop_tr {t t' x : Mx} (h : Minv t t') : mtr (mm (mm t x) t') = mtr x ∧ mdet (mm (mm t x) t') = mdet x ∧ mm (mm (mm t x) t') t = mm t x := by
  refine ⟨?_, ?_, ?_⟩
  · rw [mtr_mm, cancel h.2]
  · rw [mdet_comm, cancel h.2]
  · rw [mm_assoc, h.2, mm_one]

section
variable {t : List Jn} {l : List Pol}

/-- How the coherency of two stations changes. -/
structure Cj (t : List Jn) (i j : Int) (c c' : Jn) : Prop where
  v : c.valid
  v' : c'.valid
  e : jv c' = mm (mm (jv (jg t i)) (jv c)) (madj (jv (jg t j)))

theorem got_jact (ht : ∀ m ∈ t, m.valid) (h8 : t.length = 8) (hl : ∀ p ∈ l, p.good 8) (h : ∀ p ∈ l, (jact1 t p).2 = 0) (i j : Int) :
    (jgot i j l = none ∧ jgot i j (l.map fun p => p.set (jact1 t p).1) = none) ∨ ∃ c c', jgot i j l = some c ∧ jgot i j (l.map fun p => p.set (jact1 t p).1) = some c' ∧ Cj t i j c c' := by
  induction l with
  | nil => exact .inl ⟨rfl, rfl⟩
  | cons p r ih =>
    have g := hl p (by simp)
    obtain ⟨v1, e1⟩ := jact1_v (t := t) ht (by rw [h8]; exact g) (h p (by simp))
    have e : jgot i j ((p :: r).map fun p => p.set (jact1 t p).1) = if p.i = i ∧ p.j = j then some (jact1 t p).1 else if p.i = j ∧ p.j = i then some (jadj (jact1 t p).1).1 else jgot i j (r.map fun p => p.set (jact1 t p).1) := rfl
    rw [e, show jgot i j (p :: r) = if p.i = i ∧ p.j = j then some p.v else if p.i = j ∧ p.j = i then some (jadj p.v).1 else jgot i j r from rfl]
    by_cases h1 : p.i = i ∧ p.j = j
    · rw [if_pos h1, if_pos h1]
      refine .inr ⟨_, _, rfl, rfl, g.2.2.2.2, v1, ?_⟩
      rw [e1, h1.1, h1.2]
    · rw [if_neg h1, if_neg h1]
      by_cases h2 : p.i = j ∧ p.j = i
      · rw [if_pos h2, if_pos h2]
        obtain ⟨_, a2, a3⟩ := jadj_v g.2.2.2.2
        obtain ⟨_, b2, b3⟩ := jadj_v v1
        refine .inr ⟨_, _, rfl, rfl, a2, b2, ?_⟩
        rw [b3, a3, e1, h2.1, h2.2, madj_mm, madj_mm, madj_madj, mm_assoc]
      · rw [if_neg h2, if_neg h2]
        exact ih (fun q hq => hl q (by simp [hq])) fun q hq => h q (by simp [hq])

theorem jreg_nz {a : Jn} (va : a.valid) (h : (jreg a).2 = 0) : ∃ y, Minv (jv a) y := by
  obtain ⟨d0, dz, _⟩ := jreg_okM h
  obtain ⟨_, dv, dd⟩ := jdet_v d0
  have nz := v_nz dv dz
  have e1 := congrArg Prod.fst dd
  have e2 := congrArg Prod.snd dd
  simp only at e1 e2
  exact minv_of (by rw [← e1, ← e2]; exact nz)

/-- The inverse of a valid matrix: out of range, or there is none, or it is there. -/
theorem jinv_err {a : Jn} (va : a.valid) (hy : ∃ y, Minv (jv a) y) : (jinv a).2 = 0 ∨ (jinv a).2 = 16 := by
  unfold jinv
  have hd : (jdet a).2 = 0 ∨ jdet a = (c0, 16) := by
    rw [jdet, if_pos va]
    obtain ⟨a1, a2, a3, a4⟩ := va
    unfold two
    rcases mul_err a1 a4 with h1 | h1
    · rw [if_neg (by simp [h1])]
      rcases mul_err a2 a3 with h2 | h2
      · rw [if_neg (by simp [h2])]
        exact sub_err (mul_ok a1 a4 h1).2 (mul_ok a2 a3 h2).2
      · rw [if_pos (by simp [h2]), h2]; exact .inr rfl
    · rw [if_pos (by simp [h1]), h1]; exact .inr rfl
  rcases hd with hd | hd
  · obtain ⟨_, dv, dd⟩ := jdet_v hd
    have hz : ¬ (jdet a).1.zero := fun hz => by
      obtain ⟨z1, z2⟩ := (zero_v dv).1 hz
      obtain ⟨y, hy⟩ := hy
      have k := congrArg mdet hy.1
      rw [mdet_mm, ← dd, z1, z2] at k
      have := congrArg Prod.fst k
      simp only [mdet, m1] at this
      grind
    have hr : jreg a = ((jdet a).1, 0) := by rw [jreg, if_neg (by simp [hd]), if_neg hz]
    rw [hr]
    simp only [ne_eq, not_true_eq_false, if_false]
    obtain ⟨a1, a2, a3, a4⟩ := va
    have q : ∀ k, (jient a (jdet a).1 k).2 = 0 ∨ (jient a (jdet a).1 k).2 = 16 := by
      intro k
      have f : ∀ x : Cx, x.valid → (div x (jdet a).1).2 = 0 ∨ (div x (jdet a).1).2 = 16 := fun x hx => (div_errJ hx dv hz).imp id fun h => by rw [h]
      match k with
      | 0 => exact f _ a4
      | 1 => exact f _ (neg_validM a2)
      | 2 => exact f _ (neg_validM a3)
      | k + 3 => exact f _ a1
    unfold seq4
    split
    · exact (q 0)
    · split
      · exact (q 1)
      · split
        · exact (q 2)
        · split
          · exact (q 3)
          · exact .inl rfl
  · have hr : (jreg a).2 = 16 := by rw [jreg, hd, if_pos (by simp)]
    rw [if_pos (by simp [hr])]
    exact .inr hr

theorem jmul_errL {a b : Jn} (va : a.valid) (vb : b.valid) : (jmul a b).2 = 0 ∨ (jmul a b).2 = 16 := by
  rw [jmul, if_pos ⟨va, vb⟩]
  have f : ∀ {p q r s : Cx}, p.valid → q.valid → r.valid → s.valid → (two add p q r s).2 = 0 ∨ (two add p q r s).2 = 16 := by
    intro p q r s hp hq hr hs
    unfold two
    rcases mul_err hp hq with h1 | h1
    · rw [if_neg (by simp [h1])]
      rcases mul_err hr hs with h2 | h2
      · rw [if_neg (by simp [h2])]
        exact (add_errJ (mul_ok hp hq h1).2 (mul_ok hr hs h2).2).imp id fun h => by rw [h]
      · rw [if_pos (by simp [h2]), h2]; exact .inr rfl
    · rw [if_pos (by simp [h1]), h1]; exact .inr rfl
  obtain ⟨a1, a2, a3, a4⟩ := va
  obtain ⟨b1, b2, b3, b4⟩ := vb
  unfold seq4
  split
  · exact f a1 b1 a2 b3
  · split
    · exact f a1 b2 a2 b4
    · split
      · exact f a3 b1 a4 b3
      · split
        · exact f a3 b2 a4 b4
        · exact .inl rfl

theorem jm3_ok {x y z w : Jn} (h : (jm3 x y z w).2 = 0) : (jm3 x y z w).1.valid ∧ jv (jm3 x y z w).1 = mm (mm (mm (jv x) (jv y)) (jv z)) (jv w) := by
  unfold jm3 at h ⊢
  split at h
  · rename_i h'; exact absurd h h'
  rename_i h1; rw [if_neg h1]
  split at h
  · rename_i h'; exact absurd h h'
  rename_i h2; rw [if_neg h2]
  obtain ⟨_, _, _, e1⟩ := jmul_v (by simpa using h1 : (jmul x y).2 = 0)
  obtain ⟨_, _, _, e2⟩ := jmul_v (by simpa using h2 : (jmul (jmul x y).1 z).2 = 0)
  obtain ⟨_, _, v3, e3⟩ := jmul_v h
  exact ⟨v3, by rw [e3, e2, e1]⟩

theorem jm3_err {x y z w : Jn} (hx : x.valid) (hy : y.valid) (hz : z.valid) (hw : w.valid) : (jm3 x y z w).2 = 0 ∨ (jm3 x y z w).2 = 16 := by
  unfold jm3
  split
  · exact jmul_errL hx hy
  · rename_i h1
    have h1 : (jmul x y).2 = 0 := by simpa using h1
    split
    · exact jmul_errL (jmul_v h1).2.2.1 hz
    · rename_i h2
      have h2 : (jmul (jmul x y).1 z).2 = 0 := by simpa using h2
      exact jmul_errL (jmul_v h2).2.2.1 hw

/-- A loop that is there. -/
theorem jloop_ok {a b c d : Int} (h : (jloop l a b c d).2 = 0) : jck l = 0 ∧ apart [a, b, c, d] ∧ ((jgot a b l).isNone = false ∧ (jgot c b l).isNone = false ∧ (jgot c d l).isNone = false ∧ (jgot a d l).isNone = false) ∧ (jinv (gJ l c b)).2 = 0 ∧ (jinv (gJ l a d)).2 = 0 ∧
    jloop l a b c d = jm3 (gJ l a b) (jinv (gJ l c b)).1 (gJ l c d) (jinv (gJ l a d)).1 := by
  unfold jloop at h ⊢
  split at h
  · rename_i h'; exact absurd h h'
  rename_i h1; rw [if_neg h1]
  have h1 : jlerr l [a, b, c, d] = 0 := by simpa using h1
  unfold jlerr at h1
  split at h1
  · rename_i h'; exact absurd h1 h'
  rename_i k1
  split at h1
  case isFalse => simp at h1
  rename_i k2
  unfold jlp at h ⊢
  split at h
  · simp at h
  rename_i h2; rw [if_neg h2]
  split at h
  · rename_i h'; exact absurd h h'
  rename_i h3; rw [if_neg h3]
  split at h
  · rename_i h'; exact absurd h h'
  rename_i h4; rw [if_neg h4]
  simp only [not_or, Bool.not_eq_true] at h2
  exact ⟨by simpa using k1, k2, h2, by simpa using h3, by simpa using h4, rfl⟩

/-- A table's action, of loops. -/
theorem loop_act (htab : jtab t = 0) (h8 : t.length = 8) {a b c d : Int} (hact : (jact t l).2 = 0) (h : (jloop l a b c d).2 = 0) :
    ((jloop (jact t l).1 a b c d).2 = 0 ∨ (jloop (jact t l).1 a b c d).2 = 16) ∧ ((jloop (jact t l).1 a b c d).2 = 0 →
      (jloop l a b c d).1.valid ∧ (jloop (jact t l).1 a b c d).1.valid ∧ mtr (jv (jloop (jact t l).1 a b c d).1) = mtr (jv (jloop l a b c d).1) ∧ mdet (jv (jloop (jact t l).1 a b c d).1) = mdet (jv (jloop l a b c d).1) ∧
      mm (jv (jloop (jact t l).1 a b c d).1) (jv (jg t a)) = mm (jv (jg t a)) (jv (jloop l a b c d).1)) := by
  obtain ⟨k1, k2, ⟨n1, n2, n3, n4⟩, i1, i2, e⟩ := jloop_ok h
  obtain ⟨_, tl0, tv, treg⟩ := jtab_0 htab
  obtain ⟨_, _, hm, hok⟩ := jact_ok hact
  obtain ⟨q1, q2, q3⟩ := jck_0 k1
  have st : ∀ i j, (jgot i j l).isNone = false → (jgot i j (jact t l).1).isNone = false ∧ Cj t i j (gJ l i j) (gJ (jact t l).1 i j) := by
    intro i j hn
    rw [hm]
    rcases got_jact tv h8 q2 hok i j with ⟨h1, _⟩ | ⟨x, y, h1, h2, h3⟩
    · rw [h1] at hn; cases hn
    · refine ⟨by rw [h2]; rfl, ?_⟩
      unfold gJ
      rw [h1, h2]; exact h3
  obtain ⟨m1', c1⟩ := st a b n1
  obtain ⟨m2', c2⟩ := st c b n2
  obtain ⟨m3', c3⟩ := st c d n3
  obtain ⟨m4', c4⟩ := st a d n4
  have hck : jck (jact t l).1 = 0 := by
    have hkey : (jact t l).1.map Pol.key = l.map Pol.key := by rw [hm, List.map_map]; rfl
    have hall : jall (jact t l).1 8 = 0 := by
      rw [jall, if_neg (by rw [hm, List.length_map]; omega), if_pos]
      intro p hp
      rw [hm, List.mem_map] at hp
      obtain ⟨p0, hp0, rfl⟩ := hp
      exact good_setP (q2 _ hp0) (jact1_v tv (by rw [h8]; exact q2 _ hp0) (hok _ hp0)).1
    rw [jck, if_neg (by simp [hall]), if_pos]
    rw [hkey]; exact q3
  have hmem : ∀ i ∈ [a, b, c, d], ∃ y, Minv (jv (jg t i)) y := fun i hi => by
    have hb := k2.1 i hi
    have hmm := jg_mem (t := t) (i := i) hb.1 (by omega)
    exact jreg_nz (tv _ hmm) (treg _ hmm)
  obtain ⟨ta', ha⟩ := hmem a (by simp)
  obtain ⟨tb', hb⟩ := hmem b (by simp)
  obtain ⟨tc', hc⟩ := hmem c (by simp)
  obtain ⟨td', hd⟩ := hmem d (by simp)
  obtain ⟨_, w1, u1, u2, _⟩ := jinv_v i1
  obtain ⟨_, w2, u3, u4, _⟩ := jinv_v i2
  have inv_of : ∀ {x y : Mx} {x' y' : Mx} {v w : Mx}, Minv x x' → Minv y y' → mm v w = m1 → mm w v = m1 → ∃ z, Minv (mm (mm x v) (madj y)) z := by
    intro x y x' y' v w hx hy h1 h2
    have ey := minv_madj hy
    refine ⟨mm (madj y') (mm w x'), ?_, ?_⟩
    · simp only [mm_assoc]; rw [cancel ey.1, cancel h1, hx.1]
    · simp only [mm_assoc]; rw [cancel hx.2, cancel h2, ey.2]
  have lo : jloop (jact t l).1 a b c d = jlp (jact t l).1 a b c d := by
    have : jlerr (jact t l).1 [a, b, c, d] = 0 := by rw [jlerr, if_neg (by simp [hck]), if_pos k2]
    rw [jloop, if_neg (by simp [this])]
  have ie1 := jinv_err c2.v' (by rw [c2.e]; exact inv_of hc hb u1 u2)
  have ie2 := jinv_err c4.v' (by rw [c4.e]; exact inv_of ha hd u3 u4)
  have lo2 : jlp (jact t l).1 a b c d = if (jinv (gJ (jact t l).1 c b)).2 ≠ 0 then (j0, (jinv (gJ (jact t l).1 c b)).2) else if (jinv (gJ (jact t l).1 a d)).2 ≠ 0 then (j0, (jinv (gJ (jact t l).1 a d)).2) else
      jm3 (gJ (jact t l).1 a b) (jinv (gJ (jact t l).1 c b)).1 (gJ (jact t l).1 c d) (jinv (gJ (jact t l).1 a d)).1 := by
    rw [jlp, if_neg (by rw [m1', m2', m3', m4']; simp)]
  rw [lo, lo2]
  constructor
  · split
    · exact ie1
    · rename_i h1
      have h1 : (jinv (gJ (jact t l).1 c b)).2 = 0 := by simpa using h1
      split
      · exact ie2
      · rename_i h2
        have h2 : (jinv (gJ (jact t l).1 a d)).2 = 0 := by simpa using h2
        exact jm3_err c1.v' (jinv_v h1).2.1 c3.v' (jinv_v h2).2.1
  · intro hz
    split at hz
    · rename_i h'; exact absurd hz h'
    rename_i h1; rw [if_neg h1]
    have h1 : (jinv (gJ (jact t l).1 c b)).2 = 0 := by simpa using h1
    split at hz
    · rename_i h'; exact absurd hz h'
    rename_i h2; rw [if_neg h2]
    have h2 : (jinv (gJ (jact t l).1 a d)).2 = 0 := by simpa using h2
    obtain ⟨v1, f1⟩ := jm3_ok hz
    rw [e] at h
    obtain ⟨v2, f2⟩ := jm3_ok h
    obtain ⟨_, _, z1, z2, _⟩ := jinv_v h1
    obtain ⟨_, _, z3, z4, _⟩ := jinv_v h2
    rw [c2.e] at z2
    rw [c4.e] at z4
    have key := loop_key (vab := jv (gJ l a b)) (vcd := jv (gJ l c d)) hb hc hd ha u1 u3 z2 z4
    rw [← c1.e, ← c3.e, ← f1, ← f2] at key
    rw [e, key]
    obtain ⟨r1, r2, r3⟩ := loop_tr (x := jv (jm3 (gJ l a b) (jinv (gJ l c b)).1 (gJ l c d) (jinv (gJ l a d)).1).1) ha
    exact ⟨v2, v1, r1, r2, r3⟩
end
end Go.Pv
