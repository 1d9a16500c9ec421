/- Chains of tables: the laws. -/
import Derived.Test.YtfbcedhbeebipaaPlCxm
namespace Go.Pv
open Go.Vc

theorem good_own1 {s : Stg} {n m : Int} (h : s.good n m) (e : s.kind = 1) : (s.gains.length : Int) = n ∧ s.band = [] ∧ s.mats = [] ∧ s.turns = [] ∧ s.full = [] ∧ ∀ c ∈ s.gains, okG c := by
  obtain ⟨_, ⟨z1, z2, z3, z4, z5⟩, ho⟩ := h
  unfold Stg.own at ho
  simp only [e] at z1 z2 z3 z4 z5 ho
  exact ⟨by simpa using z1, List.eq_nil_of_length_eq_zero (by simpa using z2), List.eq_nil_of_length_eq_zero (by simpa using z3), List.eq_nil_of_length_eq_zero (by simpa using z4), List.eq_nil_of_length_eq_zero (by simpa using z5), by simpa using ho⟩

theorem good_own2 {s : Stg} {n m : Int} (h : s.good n m) (e : s.kind = 2) : (s.band.length : Int) = n ∧ s.gains = [] ∧ s.mats = [] ∧ s.turns = [] ∧ s.full = [] ∧ ∀ r ∈ s.band, gainsOk r m := by
  obtain ⟨_, ⟨z1, z2, z3, z4, z5⟩, ho⟩ := h
  unfold Stg.own at ho
  simp only [e] at z1 z2 z3 z4 z5 ho
  exact ⟨by simpa using z2, List.eq_nil_of_length_eq_zero (by simpa using z1), List.eq_nil_of_length_eq_zero (by simpa using z3), List.eq_nil_of_length_eq_zero (by simpa using z4), List.eq_nil_of_length_eq_zero (by simpa using z5), by simpa using ho⟩

theorem good_own3 {s : Stg} {n m : Int} (h : s.good n m) (e : s.kind = 3) : (s.mats.length : Int) = n ∧ s.gains = [] ∧ s.band = [] ∧ s.turns = [] ∧ s.full = [] ∧ regs s.mats := by
  obtain ⟨_, ⟨z1, z2, z3, z4, z5⟩, ho⟩ := h
  unfold Stg.own at ho
  simp only [e] at z1 z2 z3 z4 z5 ho
  exact ⟨by simpa using z3, List.eq_nil_of_length_eq_zero (by simpa using z1), List.eq_nil_of_length_eq_zero (by simpa using z2), List.eq_nil_of_length_eq_zero (by simpa using z4), List.eq_nil_of_length_eq_zero (by simpa using z5), by simpa using ho⟩

theorem good_own4 {s : Stg} {n m : Int} (h : s.good n m) (e : s.kind = 4) : (s.turns.length : Int) = n ∧ s.gains = [] ∧ s.band = [] ∧ s.mats = [] ∧ s.full = [] ∧ ∀ t ∈ s.turns, 0 ≤ t ∧ t ≤ 3 := by
  obtain ⟨_, ⟨z1, z2, z3, z4, z5⟩, ho⟩ := h
  unfold Stg.own at ho
  simp only [e] at z1 z2 z3 z4 z5 ho
  exact ⟨by simpa using z4, List.eq_nil_of_length_eq_zero (by simpa using z1), List.eq_nil_of_length_eq_zero (by simpa using z2), List.eq_nil_of_length_eq_zero (by simpa using z3), List.eq_nil_of_length_eq_zero (by simpa using z5), by simpa using ho⟩

theorem good_own5 {s : Stg} {n m : Int} (h : s.good n m) (e : s.kind = 5) : (s.full.length : Int) = n ∧ s.gains = [] ∧ s.band = [] ∧ s.mats = [] ∧ s.turns = [] ∧ ∀ r ∈ s.full, (r.length : Int) = m ∧ regs r := by
  obtain ⟨_, ⟨z1, z2, z3, z4, z5⟩, ho⟩ := h
  unfold Stg.own at ho
  simp only [e] at z1 z2 z3 z4 z5 ho
  exact ⟨by simpa using z5, List.eq_nil_of_length_eq_zero (by simpa using z1), List.eq_nil_of_length_eq_zero (by simpa using z2), List.eq_nil_of_length_eq_zero (by simpa using z3), List.eq_nil_of_length_eq_zero (by simpa using z4), by simpa using ho⟩

theorem div_c0 {g : Cx} (hg : okG g) (h : (div one g).2 ≠ 0) : (div one g).1 = c0 := by
  rcases div_err oneC_valid hg.1 hg.2 with q | q
  · exact absurd q h
  · rw [q]

theorem c0_bad : ¬ okG c0 := by decide

theorem div_of_ok {g : Cx} (hg : okG g) (h : okG (div one g).1) : (div one g).2 = 0 := by
  refine Classical.byContradiction fun q => c0_bad ?_
  rw [← div_c0 hg q]; exact h

theorem inv_turn {t : Int} (h : 0 ≤ t ∧ t ≤ 3) : (4 - (4 - t).tmod 4).tmod 4 = t ∧ 0 ≤ (4 - t).tmod 4 ∧ (4 - t).tmod 4 ≤ 3 := by
  obtain rfl | rfl | rfl | rfl : t = 0 ∨ t = 1 ∨ t = 2 ∨ t = 3 := by omega
  all_goals decide

theorem jinv_inv {a : Jn} (h1 : (jinv a).2 = 0) (h2 : (jinv (jinv a).1).2 = 0) : (jinv (jinv a).1).1 = a := by
  obtain ⟨a1, a2, a3, a4, _, _⟩ := jinv_v h1
  obtain ⟨b1, b2, b3, b4, _, _⟩ := jinv_v h2
  refine jv_inj b2 a1 ?_
  have : mm (mm (jv a) (jv (jinv a).1)) (jv (jinv (jinv a).1).1) = mm (jv a) (mm (jv (jinv a).1) (jv (jinv (jinv a).1).1)) := mm_assoc _ _ _
  rw [a3, b3, one_mm, mm_one] at this
  exact this

theorem map_same {α : Type} {f : α → α} : ∀ {l : List α}, (∀ x ∈ l, f x = x) → l.map f = l
  | [], _ => rfl
  | a :: r, h => by rw [List.map_cons, h a List.mem_cons_self, map_same fun x hx => h x (List.mem_cons_of_mem _ hx)]

/-- The inverse of the inverse. -/
theorem sinv_sinv {s : Stg} {n m : Int} (h : s.good n m) (h' : (sinv s).good n m) : sinv (sinv s) = s := by
  have hk := h.1
  have dd : ∀ g, okG g → okG (div one g).1 → (div one (div one g).1).1 = g := fun g hg hq => by rw [div_div hg (div_of_ok hg hq)]
  obtain e | e | e | e | e : s.kind = 1 ∨ s.kind = 2 ∨ s.kind = 3 ∨ s.kind = 4 ∨ s.kind = 5 := by omega
  · obtain ⟨_, e2, e3, e4, e5, ho⟩ := good_own1 h e
    obtain ⟨_, _, _, _, _, ho'⟩ := good_own1 h' e
    obtain ⟨k, g, b, ms, t, f⟩ := s
    simp only at e2 e3 e4 e5 ho ho' e
    subst e2 e3 e4 e5
    simp only [sinv, List.map_nil, List.map_map]
    congr 1
    exact map_same fun x hx => dd x (ho x hx) (ho' _ (List.mem_map.2 ⟨x, hx, rfl⟩))
  · obtain ⟨_, e2, e3, e4, e5, ho⟩ := good_own2 h e
    obtain ⟨_, _, _, _, _, ho'⟩ := good_own2 h' e
    obtain ⟨k, g, b, ms, t, f⟩ := s
    simp only at e2 e3 e4 e5 ho ho' e
    subst e2 e3 e4 e5
    simp only [sinv, List.map_nil, List.map_map]
    congr 1
    refine map_same fun r hr => ?_
    simp only [Function.comp, List.map_map]
    exact map_same fun x hx => dd x ((ho r hr).2 x hx) ((ho' _ (List.mem_map.2 ⟨r, hr, rfl⟩)).2 _ (List.mem_map.2 ⟨x, hx, rfl⟩))
  · obtain ⟨_, e2, e3, e4, e5, ho⟩ := good_own3 h e
    obtain ⟨_, _, _, _, _, ho'⟩ := good_own3 h' e
    obtain ⟨k, g, b, ms, t, f⟩ := s
    simp only at e2 e3 e4 e5 ho ho' e
    subst e2 e3 e4 e5
    simp only [sinv, List.map_nil, List.map_map]
    congr 1
    exact map_same fun x hx => jinv_inv (ho x hx) (ho' _ (List.mem_map.2 ⟨x, hx, rfl⟩))
  · obtain ⟨_, e2, e3, e4, e5, ho⟩ := good_own4 h e
    obtain ⟨k, g, b, ms, t, f⟩ := s
    simp only at e2 e3 e4 e5 ho e
    subst e2 e3 e4 e5
    simp only [sinv, List.map_nil, List.map_map]
    congr 1
    exact map_same fun x hx => (inv_turn (ho x hx)).1
  · obtain ⟨_, e2, e3, e4, e5, ho⟩ := good_own5 h e
    obtain ⟨_, _, _, _, _, ho'⟩ := good_own5 h' e
    obtain ⟨k, g, b, ms, t, f⟩ := s
    simp only at e2 e3 e4 e5 ho ho' e
    subst e2 e3 e4 e5
    simp only [sinv, List.map_nil, List.map_map]
    congr 1
    refine map_same fun r hr => ?_
    simp only [Function.comp, List.map_map]
    exact map_same fun x hx => jinv_inv ((ho r hr).2 x hx) ((ho' _ (List.mem_map.2 ⟨r, hr, rfl⟩)).2 _ (List.mem_map.2 ⟨x, hx, rfl⟩))

theorem jv_diag (a : Cx) : jv (diag a) = ⟨vre a, vim a, 0, 0, 0, 0, vre a, vim a⟩ := by
  apply Mx.ext' <;> simp only [jv, diag, czJ_v.1, czJ_v.2]

theorem diag_inv {x y : Cx} (h1 : vre x * vre y - vim x * vim y = 1) (h2 : vre x * vim y + vim x * vre y = 0) : mm (jv (diag x)) (jv (diag y)) = m1 := by
  rw [jv_diag, jv_diag]
  apply Mx.ext' <;> simp only [mm, m1] <;> grind

theorem div_one_v {g : Cx} (hg : okG g) (h : (div one g).2 = 0) : vre (div one g).1 * vre g - vim (div one g).1 * vim g = 1 ∧ vre (div one g).1 * vim g + vim (div one g).1 * vre g = 0 := by
  obtain ⟨h1, h2, h3⟩ := div_back oneC_valid hg.1 hg.2 h
  rw [one_v.1] at h1
  rw [one_v.2] at h2
  exact ⟨h1, h2⟩

theorem el_map {α β : Type} {f : α → β} {d : α} {d' : β} {l : List α} {k : Nat} (h : k < l.length) : el d' (l.map f) k = f (el d l k) := by
  rw [el_get (by simpa using h), el_get h, List.getElem_map]
theorem gat_mapC {f : Cx → Cx} {l : List Cx} {k : Nat} (h : k < l.length) : gat (l.map f) k = f (gat l k) := by
  rw [gat_get (by simpa using h), gat_get h, List.getElem_map]

theorem rot_inv {t : Int} (h : 0 ≤ t ∧ t ≤ 3) : mm (jv (diag (rotN (quart ((4 - t).tmod 4)) one))) (jv (diag (rotN (quart t) one))) = m1 := by
  have o := one_v
  have key : ∀ c : Cx, vre (rot c) = - vim c ∧ vim (rot c) = vre c := fun c => by
    unfold vre vim rot
    simp only [Rat.intCast_neg]
    exact ⟨by grind, trivial⟩
  obtain rfl | rfl | rfl | rfl : t = 0 ∨ t = 1 ∨ t = 2 ∨ t = 3 := by omega
  · exact diag_inv (by show vre one * vre one - vim one * vim one = 1; rw [o.1, o.2]; grind) (by show vre one * vim one + vim one * vre one = 0; rw [o.1, o.2]; grind)
  · exact diag_inv (x := rot (rot (rot one))) (y := rot one) (by simp only [(key _).1, (key _).2, o.1, o.2]; grind) (by simp only [(key _).1, (key _).2, o.1, o.2]; grind)
  · exact diag_inv (x := rot (rot one)) (y := rot (rot one)) (by simp only [(key _).1, (key _).2, o.1, o.2]; grind) (by simp only [(key _).1, (key _).2, o.1, o.2]; grind)
  · exact diag_inv (x := rot one) (y := rot (rot (rot one))) (by simp only [(key _).1, (key _).2, o.1, o.2]; grind) (by simp only [(key _).1, (key _).2, o.1, o.2]; grind)

/-- The matrices of the inverse. -/
theorem sat_inv {s : Stg} {n m : Int} (h : s.good n m) (h' : (sinv s).good n m) {i c : Nat} (hi : (i : Int) < n) (hc : (c : Int) < m) : mm (jv (sat (sinv s) i c)) (jv (sat s i c)) = m1 := by
  have hk := h.1
  obtain e | e | e | e | e : s.kind = 1 ∨ s.kind = 2 ∨ s.kind = 3 ∨ s.kind = 4 ∨ s.kind = 5 := by omega
  · obtain ⟨l, _, _, _, _, ho⟩ := good_own1 h e
    obtain ⟨_, _, _, _, _, ho'⟩ := good_own1 h' e
    have hl : i < s.gains.length := by omega
    unfold sat
    rw [if_pos (show (sinv s).kind = 1 from e), if_pos e]
    show mm (jv (diag (gat (s.gains.map fun g => (div one g).1) i))) _ = _
    rw [gat_mapC hl]
    have hg : okG (gat s.gains i) := by rw [gat_get hl]; exact ho _ (List.getElem_mem hl)
    have hq : okG (div one (gat s.gains i)).1 := ho' _ (by rw [gat_get hl]; exact List.mem_map.2 ⟨_, List.getElem_mem hl, rfl⟩)
    obtain ⟨d1, d2⟩ := div_one_v hg (div_of_ok hg hq)
    exact diag_inv d1 d2
  · obtain ⟨l, _, _, _, _, ho⟩ := good_own2 h e
    obtain ⟨_, _, _, _, _, ho'⟩ := good_own2 h' e
    have hl : i < s.band.length := by omega
    have n1 : ¬ s.kind = 1 := by omega
    unfold sat
    rw [if_neg (show ¬ (sinv s).kind = 1 from n1), if_pos (show (sinv s).kind = 2 from e), if_neg n1, if_pos e]
    show mm (jv (diag (gat (el [] (s.band.map fun r => r.map fun g => (div one g).1) i) c))) _ = _
    rw [el_map (d := []) hl]
    have hr := ho _ (List.getElem_mem hl)
    have hlc : c < (el [] s.band i).length := by rw [el_get hl]; have := hr.1; omega
    rw [gat_mapC hlc]
    have hg : okG (gat (el [] s.band i) c) := by rw [gat_get hlc]; refine hr.2 _ ?_; simp only [el_get hl]; exact List.getElem_mem _
    have hq : okG (div one (gat (el [] s.band i) c)).1 := by
      refine (ho' (s.band[i].map fun g => (div one g).1) (List.mem_map.2 ⟨_, List.getElem_mem hl, rfl⟩)).2 _ ?_
      rw [gat_get hlc]
      refine List.mem_map.2 ⟨_, ?_, rfl⟩
      simp only [el_get hl]; exact List.getElem_mem _
    obtain ⟨d1, d2⟩ := div_one_v hg (div_of_ok hg hq)
    exact diag_inv d1 d2
  · obtain ⟨l, _, _, _, _, ho⟩ := good_own3 h e
    have hl : i < s.mats.length := by omega
    have n1 : ¬ s.kind = 1 := by omega
    have n2 : ¬ s.kind = 2 := by omega
    unfold sat
    rw [if_neg (show ¬ (sinv s).kind = 1 from n1), if_neg (show ¬ (sinv s).kind = 2 from n2), if_pos (show (sinv s).kind = 3 from e), if_neg n1, if_neg n2, if_pos e]
    show mm (jv (el j0 (s.mats.map fun a => (jinv a).1) i)) _ = _
    rw [el_map (d := j0) hl, el_get hl]
    exact (jinv_v (ho _ (List.getElem_mem hl))).2.2.2.1
  · obtain ⟨l, _, _, _, _, ho⟩ := good_own4 h e
    have hl : i < s.turns.length := by omega
    have n1 : ¬ s.kind = 1 := by omega
    have n2 : ¬ s.kind = 2 := by omega
    have n3 : ¬ s.kind = 3 := by omega
    unfold sat
    rw [if_neg (show ¬ (sinv s).kind = 1 from n1), if_neg (show ¬ (sinv s).kind = 2 from n2), if_neg (show ¬ (sinv s).kind = 3 from n3), if_pos (show (sinv s).kind = 4 from e), if_neg n1, if_neg n2, if_neg n3, if_pos e]
    show mm (jv (diag (rotN (quart (el 0 (s.turns.map fun t => (4 - t).tmod 4) i)) one))) _ = _
    rw [el_map (d := 0) hl, el_get hl]
    exact rot_inv (ho _ (List.getElem_mem hl))
  · obtain ⟨l, _, _, _, _, ho⟩ := good_own5 h e
    have hl : i < s.full.length := by omega
    have n1 : ¬ s.kind = 1 := by omega
    have n2 : ¬ s.kind = 2 := by omega
    have n3 : ¬ s.kind = 3 := by omega
    have n4 : ¬ s.kind = 4 := by omega
    unfold sat
    rw [if_neg (show ¬ (sinv s).kind = 1 from n1), if_neg (show ¬ (sinv s).kind = 2 from n2), if_neg (show ¬ (sinv s).kind = 3 from n3), if_neg (show ¬ (sinv s).kind = 4 from n4), if_neg n1, if_neg n2, if_neg n3, if_neg n4]
    show mm (jv (el j0 (el [] (s.full.map fun r => r.map fun a => (jinv a).1) i) c)) _ = _
    rw [el_map (d := []) hl]
    have hr := ho _ (List.getElem_mem hl)
    have hlc : c < (el [] s.full i).length := by rw [el_get hl]; have := hr.1; omega
    rw [el_map (d := j0) hlc]
    refine (jinv_v (hr.2 _ ?_)).2.2.2.1
    rw [el_get hlc]
    simp only [el_get hl]; exact List.getElem_mem _

/-- A chain and its inverse. -/
theorem prd_inv {l : List Stg} {n m : Int} (h : ∀ s ∈ l, s.good n m) (h' : ∀ s ∈ l, (sinv s).good n m) {i c : Nat} (hi : (i : Int) < n) (hc : (c : Int) < m) : mm (prd (l.reverse.map sinv) i c) (prd l i c) = m1 := by
  induction l with
  | nil => exact one_mm m1
  | cons s r ih =>
    have e1 : prd (s :: r) i c = mm (prd r i c) (jv (sat s i c)) := by
      have := prd_app [s] i c r
      rw [List.singleton_append] at this
      rw [this]
      show mm _ (mm (jv (sat s i c)) m1) = _
      rw [mm_one]
    have e2 : prd ((s :: r).reverse.map sinv) i c = mm (jv (sat (sinv s) i c)) (prd (r.reverse.map sinv) i c) := by
      rw [List.reverse_cons, List.map_append, List.map_singleton, prd_snoc]
    rw [e1, e2, mm_assoc, ← mm_assoc (prd (r.reverse.map sinv) i c), ih (fun s hs => h s (List.mem_cons_of_mem _ hs)) (fun s hs => h' s (List.mem_cons_of_mem _ hs)), one_mm]
    exact sat_inv (h s List.mem_cons_self) (h' s List.mem_cons_self) hi hc
end Go.Pv

/- Chains of tables: undoing a stage, as the program does it. -/
namespace Go.Pv
open Go.Vc

theorem succ_w3 {k : Nat} (h : k < 9223372036854775807) : IntKind.i64.wrap ((k : Int) + 1) = ((k + 1 : Nat) : Int) := by
  rw [wrap_id (by omega) (by omega)]; omega

/-- The first error. -/
def cferr {α : Type} (f : Nat → α × Int) : Nat → Int
  | 0 => 0
  | n + 1 => if cferr f n ≠ 0 then cferr f n else (f n).2

theorem cferr_bad {α : Type} {f : Nat → α × Int} {c m : Nat} (hc : c < m) (h0 : cferr f c = 0) (h : (f c).2 ≠ 0) : cferr f m = (f c).2 := by
  induction m with
  | zero => omega
  | succ m ih =>
    by_cases hm : c = m
    · subst hm; rw [cferr, if_neg (by simp [h0])]
    · rw [cferr, ih (by omega), if_pos h]

theorem cferr_0 {α : Type} {f : Nat → α × Int} {m : Nat} : cferr f m = 0 ↔ ∀ c, c < m → (f c).2 = 0 := by
  induction m with
  | zero => exact ⟨fun _ c hc => by omega, fun _ => rfl⟩
  | succ m ih =>
    rw [cferr]
    constructor
    · intro h c hc
      split at h
      · rename_i h1; exact absurd h h1
      · rename_i h1
        by_cases hm : c = m
        · subst hm; exact h
        · exact ih.1 (by simpa using h1) c (by omega)
    · intro h
      rw [if_neg (by rw [ih.2 fun c hc => h c (by omega)]; simp)]
      exact h m (by omega)

def cgath {α : Type} (f : Nat → α × Int) (n : Nat) : List α × Int := if cferr f n = 0 then ((List.range n).map fun i => (f i).1, 0) else ([], cferr f n)

theorem cgath_0 {α : Type} {f : Nat → α × Int} {n : Nat} : (cgath f n).2 = 0 ↔ ∀ c, c < n → (f c).2 = 0 := by
  rw [← cferr_0]
  unfold cgath
  split
  · rename_i h; simp [h]
  · rfl

theorem cgath_ok {α : Type} {f : Nat → α × Int} {n : Nat} (h : ∀ c, c < n → (f c).2 = 0) : cgath f n = ((List.range n).map fun i => (f i).1, 0) := by
  rw [cgath, if_pos (cferr_0.2 h)]

def quo (l : List Cx) : List Cx × Int := cgath (fun k => div one (gat l k)) l.length
def invs (l : List Jn) : List Jn × Int := cgath (fun k => jinv (el j0 l k)) l.length

theorem map_el {α β : Type} (d : α) (l : List α) (f : α → β) : ((List.range l.length).map fun i => f (el d l i)) = l.map f := by
  apply List.ext_getElem (by simp)
  intro i h1 h2
  have h3 : i < l.length := by simpa using h2
  simp only [List.getElem_map, List.getElem_range, el_get h3]
theorem map_gat {β : Type} (l : List Cx) (f : Cx → β) : ((List.range l.length).map fun i => f (gat l i)) = l.map f := by
  apply List.ext_getElem (by simp)
  intro i h1 h2
  have h3 : i < l.length := by simpa using h2
  simp only [List.getElem_map, List.getElem_range, gat_get h3]

theorem quo_ok {l : List Cx} (h : ∀ c ∈ l, (div one c).2 = 0) : quo l = (l.map fun g => (div one g).1, 0) := by
  rw [quo, cgath_ok fun k hk => by rw [gat_get hk]; exact h _ (List.getElem_mem hk)]
  congr 1
  exact map_gat l fun c => (div one c).1
theorem quo_bad {l : List Cx} (h : (quo l).2 ≠ 0) : ∃ c ∈ l, (div one c).2 ≠ 0 := by
  refine Classical.byContradiction fun q => h ?_
  rw [quo_ok fun c hc => Classical.byContradiction fun r => q ⟨c, hc, r⟩]
theorem quo_0 {l : List Cx} (h : (quo l).2 = 0) : ∀ c ∈ l, (div one c).2 = 0 := fun c hc => by
  obtain ⟨k, hk, rfl⟩ := List.getElem_of_mem hc
  have := cgath_0.1 h k hk
  rwa [gat_get hk] at this

theorem invs_ok {l : List Jn} (h : ∀ c ∈ l, (jinv c).2 = 0) : invs l = (l.map fun g => (jinv g).1, 0) := by
  rw [invs, cgath_ok fun k hk => by rw [el_get hk]; exact h _ (List.getElem_mem hk)]
  congr 1
  exact map_el j0 l fun c => (jinv c).1

/-- What the program makes of a stage. -/
def undo (s : Stg) : Stg × Int :=
  if s.kind = 1 then (⟨s.kind, (quo s.gains).1, [], [], [], []⟩, (quo s.gains).2)
  else if s.kind = 2 then (if (cgath (fun k => quo (el [] s.band k)) s.band.length).2 = 0 then (⟨s.kind, [], (cgath (fun k => quo (el [] s.band k)) s.band.length).1, [], [], []⟩, 0) else (s0, (cgath (fun k => quo (el [] s.band k)) s.band.length).2))
  else if s.kind = 3 then (⟨s.kind, [], [], (invs s.mats).1, [], []⟩, (invs s.mats).2)
  else if s.kind = 4 then (⟨s.kind, [], [], [], s.turns.map fun t => (4 - t).tmod 4, []⟩, 0)
  else (if (cgath (fun k => invs (el [] s.full k)) s.full.length).2 = 0 then (⟨s.kind, [], [], [], [], (cgath (fun k => invs (el [] s.full k)) s.full.length).1⟩, 0) else (s0, (cgath (fun k => invs (el [] s.full k)) s.full.length).2))

theorem sinv_bad1 {s : Stg} {n m : Int} (h : s.good n m) {g : Cx} (hg : okG g) (hb : (div one g).2 ≠ 0) (hm : (s.kind = 1 ∧ g ∈ s.gains) ∨ (s.kind = 2 ∧ ∃ r ∈ s.band, g ∈ r)) : ¬ (sinv s).good n m := by
  intro q
  have e := div_c0 hg hb
  rcases hm with ⟨hk, hm⟩ | ⟨hk, r, hr, hm⟩
  · obtain ⟨_, _, _, _, _, ho⟩ := good_own1 q hk
    exact c0_bad (by rw [← e]; exact ho _ (List.mem_map.2 ⟨g, hm, rfl⟩))
  · obtain ⟨_, _, _, _, _, ho⟩ := good_own2 q hk
    exact c0_bad (by rw [← e]; exact (ho _ (List.mem_map.2 ⟨r, hr, rfl⟩)).2 _ (List.mem_map.2 ⟨g, hm, rfl⟩))

/-- The program's inverse of a valid stage is the reference's, if either is valid. -/
theorem undo_sinv {s : Stg} {n m : Int} (h : s.good n m) : ((undo s).2 = 0 ∧ undo s = (sinv s, 0)) ∨ ((undo s).2 ≠ 0 ∧ ¬ (sinv s).good n m) := by
  have hk := h.1
  unfold undo
  obtain e | e | e | e | e : s.kind = 1 ∨ s.kind = 2 ∨ s.kind = 3 ∨ s.kind = 4 ∨ s.kind = 5 := by omega
  · rw [if_pos e]
    obtain ⟨_, e2, e3, e4, e5, ho⟩ := good_own1 h e
    by_cases hz : (quo s.gains).2 = 0
    · left
      refine ⟨hz, ?_⟩
      rw [quo_ok (quo_0 hz)]
      simp only [sinv, e2, e3, e4, e5, List.map_nil]
    · right
      refine ⟨hz, ?_⟩
      obtain ⟨c, hc, hb⟩ := quo_bad hz
      exact sinv_bad1 h (ho c hc) hb (.inl ⟨e, hc⟩)
  · have n1 : ¬ s.kind = 1 := by omega
    rw [if_neg n1, if_pos e]
    obtain ⟨_, e2, e3, e4, e5, ho⟩ := good_own2 h e
    by_cases hz : (cgath (fun k => quo (el [] s.band k)) s.band.length).2 = 0
    · left
      rw [if_pos hz]
      refine ⟨rfl, ?_⟩
      have h0 := cgath_0.1 hz
      rw [cgath_ok h0]
      have : ((List.range s.band.length).map fun i => (quo (el [] s.band i)).1) = s.band.map fun r => r.map fun g => (div one g).1 := by
        rw [← map_el [] s.band fun r => r.map fun g => (div one g).1]
        apply List.map_congr_left
        intro i hi
        have := h0 i (List.mem_range.1 hi)
        rw [quo_ok (quo_0 this)]
      rw [this]
      simp only [sinv, e2, e3, e4, e5, List.map_nil]
    · right
      rw [if_neg hz]
      refine ⟨hz, ?_⟩
      have : ¬ ∀ c, c < s.band.length → (quo (el [] s.band c)).2 = 0 := fun q => hz (cgath_0.2 q)
      obtain ⟨i, hi⟩ := Classical.not_forall.1 this
      obtain ⟨hi, hq⟩ := Classical.not_imp.1 hi
      rw [el_get hi] at hq
      obtain ⟨c, hc, hb⟩ := quo_bad hq
      exact sinv_bad1 h ((ho _ (List.getElem_mem hi)).2 c hc) hb (.inr ⟨e, _, List.getElem_mem hi, hc⟩)
  · have n1 : ¬ s.kind = 1 := by omega
    have n2 : ¬ s.kind = 2 := by omega
    rw [if_neg n1, if_neg n2, if_pos e]
    obtain ⟨_, e2, e3, e4, e5, ho⟩ := good_own3 h e
    left
    rw [invs_ok ho]
    refine ⟨rfl, ?_⟩
    simp only [sinv, e2, e3, e4, e5, List.map_nil]
  · have n1 : ¬ s.kind = 1 := by omega
    have n2 : ¬ s.kind = 2 := by omega
    have n3 : ¬ s.kind = 3 := by omega
    rw [if_neg n1, if_neg n2, if_neg n3, if_pos e]
    obtain ⟨_, e2, e3, e4, e5, ho⟩ := good_own4 h e
    left
    refine ⟨rfl, ?_⟩
    simp only [sinv, e2, e3, e4, e5, List.map_nil]
  · have n1 : ¬ s.kind = 1 := by omega
    have n2 : ¬ s.kind = 2 := by omega
    have n3 : ¬ s.kind = 3 := by omega
    have n4 : ¬ s.kind = 4 := by omega
    rw [if_neg n1, if_neg n2, if_neg n3, if_neg n4]
    obtain ⟨_, e2, e3, e4, e5, ho⟩ := good_own5 h e
    left
    have h0 : ∀ c, c < s.full.length → (invs (el [] s.full c)).2 = 0 := fun c hc => by
      rw [el_get hc, invs_ok (ho _ (List.getElem_mem hc)).2]
    rw [if_pos (cgath_0.2 h0), cgath_ok h0]
    refine ⟨rfl, ?_⟩
    have : ((List.range s.full.length).map fun i => (invs (el [] s.full i)).1) = s.full.map fun r => r.map fun g => (jinv g).1 := by
      rw [← map_el [] s.full fun r => r.map fun g => (jinv g).1]
      apply List.map_congr_left
      intro i hi
      have hi := List.mem_range.1 hi
      have hr : ∀ c ∈ el [] s.full i, (jinv c).2 = 0 := by rw [el_get hi]; exact (ho _ (List.getElem_mem hi)).2
      rw [invs_ok hr]
    rw [this]
    simp only [sinv, e2, e3, e4, e5, List.map_nil]
end Go.Pv

/- Chains of tables: tables while they are built, cubes while they are turned. -/
namespace Go.Pv
open Go.Vc

/-- A table of n rows of m, while row i is laid out, c of its elements being done. -/
def tabL (m i c j : Nat) : Nat := if j < i then m else if j = i then c else 0
def tabN (e : TypeId) (f : Nat → Nat → Jn) (n m i c : Nat) : List NC := (List.range n).map fun j => .ow e 12 (tabL m i c j) (flat ((List.range (tabL m i c j)).map (f j)))

theorem tabN_len (e : TypeId) (f : Nat → Nat → Jn) (n m i c : Nat) : (tabN e f n m i c).length = n := by simp [tabN]

theorem tabN_0 (e : TypeId) (f : Nat → Nat → Jn) (n m : Nat) : tabN e f n m 0 0 = List.replicate n (.ow e 12 0 []) := by
  rw [List.eq_replicate_iff]
  refine ⟨by simp [tabN], fun x hx => ?_⟩
  simp only [tabN, List.mem_map] at hx
  obtain ⟨j, hj, rfl⟩ := hx
  have : tabL m 0 0 j = 0 := by unfold tabL; split; omega; split <;> rfl
  rw [this]; rfl

theorem tabN_get {e : TypeId} {f : Nat → Nat → Jn} {n m i c : Nat} (h : i < n) : (tabN e f n m i c)[i]? = some (.ow e 12 c (flat ((List.range c).map (f i)))) := by
  have : tabL m i c i = c := by unfold tabL; rw [if_neg (by omega), if_pos rfl]
  simp only [tabN, List.getElem?_map, List.getElem?_range h, Option.map_some, this]

theorem tabN_put {e : TypeId} {f : Nat → Nat → Jn} {n m i c : Nat} (h : i < n) : (tabN e f n m i c).set i (.ow e 12 (c + 1) (flat ((List.range c).map (f i)) ++ Enc.cs (f i c))) = tabN e f n m i (c + 1) := by
  apply List.ext_getElem (by simp [tabN])
  intro j h1 h2
  have hj : j < n := by simpa [tabN] using h2
  rw [List.getElem_set]
  simp only [tabN, List.getElem_map, List.getElem_range]
  by_cases e1 : i = j
  · subst e1
    have : tabL m i (c + 1) i = c + 1 := by unfold tabL; rw [if_neg (by omega), if_pos rfl]
    rw [if_pos rfl, this, List.range_succ, List.map_append, List.map_singleton, flat_snoc]
  · have : tabL m i (c + 1) j = tabL m i c j := by unfold tabL; split; rfl; rw [if_neg (fun h => e1 h.symm), if_neg (fun h => e1 h.symm)]
    rw [if_neg e1, this]

theorem tabN_next {e : TypeId} {f : Nat → Nat → Jn} {n m i : Nat} : tabN e f n m i m = tabN e f n m (i + 1) 0 := by
  unfold tabN
  apply List.map_congr_left
  intro j _
  have : tabL m i m j = tabL m (i + 1) 0 j := by
    unfold tabL
    by_cases h1 : j < i
    · rw [if_pos h1, if_pos (by omega)]
    · rw [if_neg h1]
      by_cases h2 : j = i
      · rw [if_pos h2, if_pos (by omega)]
      · rw [if_neg h2, if_neg (by omega)]
        split <;> rfl
  rw [this]

def tabJ (f : Nat → Nat → Jn) (n m : Nat) : List (List Jn) := (List.range n).map fun j => (List.range m).map (f j)

theorem tabN_pv {e : TypeId} {f : Nat → Nat → Jn} {n m : Nat} : (tabN e f n m n 0).map ncP = flat (tabJ f n m) := by
  unfold tabN tabJ
  rw [List.map_map]
  have key : ∀ j, j < n → (ncP ∘ fun j => NC.ow e 12 (tabL m n 0 j) (flat ((List.range (tabL m n 0 j)).map (f j)))) j = sl ((List.range m).map (f j)) := fun j hj => by
    have : tabL m n 0 j = m := by unfold tabL; rw [if_pos hj]
    simp only [Function.comp, this, ncP, sl]
    rw [List.length_map, List.length_range]
  rw [List.map_congr_left (g := fun j => sl ((List.range m).map (f j))) fun j hj => key j (List.mem_range.1 hj)]
  clear key
  induction n with
  | zero => rfl
  | succ n ih => rw [List.range_succ, List.map_append, List.map_append, flat_append, ih]; rfl

theorem tabJ_len (f : Nat → Nat → Jn) (n m : Nat) : (tabJ f n m).length = n := by simp [tabJ]
theorem tabJ_get {f : Nat → Nat → Jn} {n m i c : Nat} (hi : i < n) (hc : c < m) : el j0 (el [] (tabJ f n m) i) c = f i c := by
  have e1 : el [] (tabJ f n m) i = (List.range m).map (f i) := by
    rw [el_get (by rw [tabJ_len]; exact hi)]; simp [tabJ]
  rw [e1, el_get (by simpa using hc)]
  simp

/-! ### Cubes while they are turned -/

/-- Cubes: their heads, and their matrices. -/
def cuNs (e : TypeId) (h : Nat → Cube) (m : Nat → List Jn) (n : Nat) : List NC := (List.range n).flatMap fun j => [.pu (i64 (h j).i), .pu (i64 (h j).j), .ow e 12 (m j).length (flat (m j))]

theorem cuNs_succ (e : TypeId) (h : Nat → Cube) (m : Nat → List Jn) (n : Nat) : cuNs e h m (n + 1) = cuNs e h m n ++ [.pu (i64 (h n).i), .pu (i64 (h n).j), .ow e 12 (m n).length (flat (m n))] := by
  simp [cuNs, List.range_succ]

theorem cuNs_len (e : TypeId) (h : Nat → Cube) (m : Nat → List Jn) : ∀ n : Nat, (cuNs e h m n).length = n * 3
  | 0 => rfl
  | n + 1 => by rw [cuNs_succ, List.length_append, cuNs_len e h m n]; simp; omega

theorem cuNs_at {e : TypeId} {h : Nat → Cube} {m : Nat → List Jn} {k : Nat} : ∀ {n : Nat}, k < n → (cuNs e h m n)[k * 3]? = some (.pu (i64 (h k).i)) ∧ (cuNs e h m n)[k * 3 + 1]? = some (.pu (i64 (h k).j)) ∧ (cuNs e h m n)[k * 3 + 2]? = some (.ow e 12 (m k).length (flat (m k)))
  | 0, hk => by omega
  | n + 1, hk => by
    have hl := cuNs_len e h m n
    rw [cuNs_succ]
    by_cases q : k = n
    · subst q
      rw [List.getElem?_append_right (by omega), List.getElem?_append_right (by omega), List.getElem?_append_right (by omega), hl, Nat.sub_self, Nat.add_sub_cancel_left, Nat.add_sub_cancel_left]
      exact ⟨rfl, rfl, rfl⟩
    · obtain ⟨h1, h2, h3⟩ := cuNs_at (n := n) (e := e) (h := h) (m := m) (k := k) (by omega)
      rw [List.getElem?_append_left (by omega), List.getElem?_append_left (by omega), List.getElem?_append_left (by omega)]
      exact ⟨h1, h2, h3⟩

theorem cuNs_congr {e : TypeId} {h : Nat → Cube} {m m' : Nat → List Jn} : ∀ {n : Nat}, (∀ j, j < n → m j = m' j) → cuNs e h m n = cuNs e h m' n
  | 0, _ => rfl
  | n + 1, hm => by rw [cuNs_succ, cuNs_succ, cuNs_congr (fun j hj => hm j (by omega)), hm n (by omega)]

theorem cuNs_set {e : TypeId} {h : Nat → Cube} {m : Nat → List Jn} {k : Nat} {r : List Jn} : ∀ {n : Nat}, k < n → (cuNs e h m n).set (k * 3 + 2) (.ow e 12 r.length (flat r)) = cuNs e h (fun j => if j = k then r else m j) n
  | 0, hk => by omega
  | n + 1, hk => by
    have hl := cuNs_len e h m n
    rw [cuNs_succ, cuNs_succ]
    by_cases q : k = n
    · subst q
      rw [List.set_append_right _ _ (by omega), hl, Nat.add_sub_cancel_left]
      congr 1
      · exact cuNs_congr fun j hj => by rw [if_neg (by omega)]
      · rw [if_pos rfl]; rfl
    · rw [List.set_append_left _ _ (by omega), cuNs_set (n := n) (by omega)]
      congr 1
      rw [if_neg (fun h => q h.symm)]

theorem cuNs_pv {e : TypeId} {h : Nat → Cube} {m : Nat → List Jn} : ∀ {n : Nat}, (cuNs e h m n).map ncP = flat ((List.range n).map fun j => (⟨(h j).i, (h j).j, m j⟩ : Cube))
  | 0 => rfl
  | n + 1 => by rw [cuNs_succ, List.map_append, cuNs_pv (n := n), List.range_succ, List.map_append, List.map_singleton, flat_snoc]; rfl

theorem jok {m : Jn} (h : m.valid) : Enc.ok m := ⟨jn_of_valid h.1, jn_of_valid h.2.1, jn_of_valid h.2.2.1, jn_of_valid h.2.2.2⟩

def dCu : Cube := ⟨0, 0, []⟩
end Go.Pv

/- Chains of tables: what is made is bounded. -/
namespace Go.Pv
open Go.Vc

theorem c0_enc : Enc.ok c0 := by show I64 _ ∧ I64 _ ∧ I64 _; unfold I64; decide
theorem j0_enc : Enc.ok j0 := ⟨c0_enc, c0_enc, c0_enc, c0_enc⟩

theorem div_encC {g : Cx} (hg : okG g) : Enc.ok (div one g).1 := by
  rcases div_err oneC_valid hg.1 hg.2 with h | h
  · exact jn_of_valid (div_okJ oneC_valid hg.1 h)
  · rw [h]; exact c0_enc

theorem jinv_encC {a : Jn} (h : (jinv a).2 = 0) : Enc.ok (jinv a).1 := jok (jinv_v h).2.1

theorem map_enc {α β : Type} [Enc α] [Enc β] {f : α → β} {l : List α} (hl : l.length ≤ maxLen) (h : ∀ x ∈ l, Enc.ok (f x)) : Enc.ok (l.map f) := by
  refine ⟨by rw [List.length_map]; exact hl, fun y hy => ?_⟩
  rw [List.mem_map] at hy
  obtain ⟨x, hx, rfl⟩ := hy
  exact h x hx

theorem nil_enc {α : Type} [Enc α] : Enc.ok ([] : List α) := ⟨Nat.zero_le _, fun _ h => by cases h⟩

theorem turn_enc {t : Int} (h : 0 ≤ t ∧ t ≤ 3) : I64 ((4 - t).tmod 4) := by
  obtain rfl | rfl | rfl | rfl : t = 0 ∨ t = 1 ∨ t = 2 ∨ t = 3 := by omega
  all_goals (unfold I64; decide)

/-- The inverse of a valid stage is bounded. -/
theorem sinv_enc {s : Stg} {n m : Int} (hs : Enc.ok s) (h : s.good n m) : Enc.ok (sinv s) := by
  have hk := h.1
  obtain ⟨o1, o2, o3, o4, o5, o6⟩ := hs
  obtain e | e | e | e | e : s.kind = 1 ∨ s.kind = 2 ∨ s.kind = 3 ∨ s.kind = 4 ∨ s.kind = 5 := by omega
  · obtain ⟨_, e2, e3, e4, e5, ho⟩ := good_own1 h e
    refine ⟨o1, map_enc o2.1 fun x hx => div_encC (ho x hx), ?_, ?_, ?_, ?_⟩
    · show Enc.ok (s.band.map _); rw [e2]; exact nil_enc
    · show Enc.ok (s.mats.map _); rw [e3]; exact nil_enc
    · show Enc.ok (s.turns.map _); rw [e4]; exact nil_enc
    · show Enc.ok (s.full.map _); rw [e5]; exact nil_enc
  · obtain ⟨_, e2, e3, e4, e5, ho⟩ := good_own2 h e
    refine ⟨o1, ?_, map_enc o3.1 fun r hr => map_enc (o3.2 r hr).1 fun x hx => div_encC ((ho r hr).2 x hx), ?_, ?_, ?_⟩
    · show Enc.ok (s.gains.map _); rw [e2]; exact nil_enc
    · show Enc.ok (s.mats.map _); rw [e3]; exact nil_enc
    · show Enc.ok (s.turns.map _); rw [e4]; exact nil_enc
    · show Enc.ok (s.full.map _); rw [e5]; exact nil_enc
  · obtain ⟨_, e2, e3, e4, e5, ho⟩ := good_own3 h e
    refine ⟨o1, ?_, ?_, map_enc o4.1 fun x hx => jinv_encC (ho x hx), ?_, ?_⟩
    · show Enc.ok (s.gains.map _); rw [e2]; exact nil_enc
    · show Enc.ok (s.band.map _); rw [e3]; exact nil_enc
    · show Enc.ok (s.turns.map _); rw [e4]; exact nil_enc
    · show Enc.ok (s.full.map _); rw [e5]; exact nil_enc
  · obtain ⟨_, e2, e3, e4, e5, ho⟩ := good_own4 h e
    refine ⟨o1, ?_, ?_, ?_, map_enc o5.1 fun x hx => turn_enc (ho x hx), ?_⟩
    · show Enc.ok (s.gains.map _); rw [e2]; exact nil_enc
    · show Enc.ok (s.band.map _); rw [e3]; exact nil_enc
    · show Enc.ok (s.mats.map _); rw [e4]; exact nil_enc
    · show Enc.ok (s.full.map _); rw [e5]; exact nil_enc
  · obtain ⟨_, e2, e3, e4, e5, ho⟩ := good_own5 h e
    refine ⟨o1, ?_, ?_, ?_, ?_, map_enc o6.1 fun r hr => map_enc (o6.2 r hr).1 fun x hx => jinv_encC ((ho r hr).2 x hx)⟩
    · show Enc.ok (s.gains.map _); rw [e2]; exact nil_enc
    · show Enc.ok (s.band.map _); rw [e3]; exact nil_enc
    · show Enc.ok (s.mats.map _); rw [e4]; exact nil_enc
    · show Enc.ok (s.turns.map _); rw [e5]; exact nil_enc
end Go.Pv
