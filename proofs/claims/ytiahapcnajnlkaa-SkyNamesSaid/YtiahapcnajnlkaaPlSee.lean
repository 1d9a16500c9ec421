/- What skies look like: visibilities and dirty images, in plain Lean. -/
import Derived.Test.YtiahapcnajnlkaaPlSky
import Derived.Test.YtiahapcnajnlkaaPlVis
namespace Go.Pv
open Go.Vc

def okP (a : Place) : Bool := decide (-100 ≤ a.x ∧ a.x ≤ 100 ∧ -100 ≤ a.y ∧ a.y ≤ 100)
def places (p : List Place) : Int := if p.length > 8 then 4 else if p.length < 2 then 8 else if p.all okP then 0 else 8

theorem places_0 {p : List Place} (h : places p = 0) : p.length ≤ 8 ∧ 2 ≤ p.length ∧ ∀ a ∈ p, -100 ≤ a.x ∧ a.x ≤ 100 ∧ -100 ≤ a.y ∧ a.y ≤ 100 := by
  unfold places at h
  split at h
  · cases h
  split at h
  · cases h
  split at h
  · rename_i h1 h2 h3
    refine ⟨by omega, by omega, fun s hs => ?_⟩
    simpa [okP] using List.all_eq_true.1 h3 s hs
  · cases h

theorem places_of {p : List Place} (h1 : p.length ≤ 8) (h2 : 2 ≤ p.length) (h : ∀ a ∈ p, -100 ≤ a.x ∧ a.x ≤ 100 ∧ -100 ≤ a.y ∧ a.y ≤ 100) : places p = 0 := by
  rw [places, if_neg (by omega), if_neg (by omega), if_pos]
  rw [List.all_eq_true]
  intro a ha
  simpa [okP] using h a ha

theorem places_bad {p : List Place} (h1 : p.length ≤ 8) (h2 : 2 ≤ p.length) {k : Nat} (hk : k < p.length) (hb : ¬ (-100 ≤ p[k].x ∧ p[k].x ≤ 100 ∧ -100 ≤ p[k].y ∧ p[k].y ≤ 100)) : places p = 8 := by
  rw [places, if_neg (by omega), if_neg (by omega), if_neg]
  intro ha
  exact hb (by simpa [okP] using List.all_eq_true.1 ha _ (List.getElem_mem hk))

theorem check_of {ls : List Lamp} (h1 : ls.length ≤ 16) (h : ∀ s ∈ ls, 0 ≤ s.x ∧ s.x < 8 ∧ 0 ≤ s.y ∧ s.y < 8 ∧ 0 ≤ s.f ∧ s.f ≤ 1000) : check ls = 0 := by
  rw [check, if_neg (by omega), if_pos]
  rw [List.all_eq_true]
  intro a ha
  simpa [okL] using h a ha

def both41 (p : List Place) (l : List Lamp) : Int := if places p ≠ 0 then places p else check l

/-- A pair turned by quarters. -/
def gt (q : Int) (a : Int × Int) : Int × Int := if q % 4 = 0 then a else if q % 4 = 1 then (-a.2, a.1) else if q % 4 = 2 then (-a.1, -a.2) else (a.2, -a.1)

theorem gt_add (q : Int) (a b : Int × Int) : gt q (a.1 + b.1, a.2 + b.2) = ((gt q a).1 + (gt q b).1, (gt q a).2 + (gt q b).2) := by
  unfold gt
  split
  · rfl
  split
  · ext <;> simp <;> omega
  split
  · ext <;> simp <;> omega
  · ext <;> simp; omega

theorem gt_gt (q r : Int) (a : Int × Int) : gt q (gt r a) = gt (q + r) a := by
  obtain ⟨x, y⟩ := a
  have h1 : q % 4 = 0 ∨ q % 4 = 1 ∨ q % 4 = 2 ∨ q % 4 = 3 := by omega
  have h2 : r % 4 = 0 ∨ r % 4 = 1 ∨ r % 4 = 2 ∨ r % 4 = 3 := by omega
  have h3 : (q + r) % 4 = (q % 4 + r % 4) % 4 := by omega
  rcases h1 with h1 | h1 | h1 | h1 <;> rcases h2 with h2 | h2 | h2 | h2 <;> (rw [h1, h2] at h3; simp [gt, h1, h2, h3])

theorem gt_mod {q r : Int} (h : q % 4 = r % 4) (a : Int × Int) : gt q a = gt r a := by simp [gt, h]

theorem gt_0 (a : Int × Int) : gt 0 a = a := by simp [gt]

theorem gt_bound {q : Int} {a : Int × Int} {b : Int} (h1 : -b ≤ a.1 ∧ a.1 ≤ b) (h2 : -b ≤ a.2 ∧ a.2 ≤ b) : (-b ≤ (gt q a).1 ∧ (gt q a).1 ≤ b) ∧ (-b ≤ (gt q a).2 ∧ (gt q a).2 ≤ b) := by
  unfold gt
  split
  · exact ⟨h1, h2⟩
  split
  · simp only; omega
  split
  · simp only; omega
  · simp only; omega

def gtc (q : Int) (a : Cx) : Cx := ⟨(gt q (a.re, a.im)).1, (gt q (a.re, a.im)).2, a.den⟩

theorem quart_mod (q : Int) : (quart q : Int) = q % 4 := by
  unfold quart
  have e := Int.tmod_eq_emod (a := q) (b := 4)
  have h1 : -4 < q.tmod 4 ∧ q.tmod 4 < 4 := by split at e <;> omega
  have h2 : (q.tmod 4 + 4).tmod 4 = (q.tmod 4 + 4) % 4 := Int.tmod_eq_emod_of_nonneg (by omega)
  rw [h2]
  split at e <;> omega

theorem rotN_gtc (q : Int) (a : Cx) : rotN (quart q) a = gtc q a := by
  have h := quart_mod q
  have h1 : q % 4 = 0 ∨ q % 4 = 1 ∨ q % 4 = 2 ∨ q % 4 = 3 := by omega
  rcases h1 with h1 | h1 | h1 | h1
  · rw [show quart q = 0 by omega]; simp [rotN, gtc, gt, h1]
  · rw [show quart q = 1 by omega]; simp [rotN, rot, gtc, gt, h1]
  · rw [show quart q = 2 by omega]; simp [rotN, rot, gtc, gt, h1]
  · rw [show quart q = 3 by omega]; simp [rotN, rot, gtc, gt, h1]

theorem turn_gtc {a : Cx} (h : a.valid) (q : Int) : turn a q = (gtc q a, 0) := by rw [turn, if_pos h, rotN_gtc]

def plc (p : List Place) (i : Nat) : Place := p.getD i ⟨0, 0⟩

/-- The quarters of a cell for a baseline. -/
def qs (p : List Place) (i j : Nat) (x y : Int) : Int := x * ((plc p j).x - (plc p i).x) + y * ((plc p j).y - (plc p i).y)

theorem plc_get {p : List Place} {i : Nat} (h : i < p.length) : plc p i = p[i] := by simp [plc, h]

/-- The visibility of a baseline. -/
def seen1 (p : List Place) (i j : Nat) (s : Lamp) : Int × Int := gt (qs p i j s.x s.y) (s.f, 0)
def sre (p : List Place) (i j : Nat) (l : List Lamp) : Int := (l.map fun s => (seen1 p i j s).1).sum
def sim (p : List Place) (i j : Nat) (l : List Lamp) : Int := (l.map fun s => (seen1 p i j s).2).sum

theorem sre_snoc (p : List Place) (i j : Nat) (l : List Lamp) (s : Lamp) : sre p i j (l ++ [s]) = sre p i j l + (seen1 p i j s).1 := by simp [sre]
theorem sim_snoc (p : List Place) (i j : Nat) (l : List Lamp) (s : Lamp) : sim p i j (l ++ [s]) = sim p i j l + (seen1 p i j s).2 := by simp [sim]

theorem seen1_bound (p : List Place) (i j : Nat) {s : Lamp} (h : 0 ≤ s.f ∧ s.f ≤ 1000) : (-1000 ≤ (seen1 p i j s).1 ∧ (seen1 p i j s).1 ≤ 1000) ∧ (-1000 ≤ (seen1 p i j s).2 ∧ (seen1 p i j s).2 ≤ 1000) :=
  gt_bound (b := 1000) (by simp only; omega) (by simp only; omega)

theorem sre_bound (p : List Place) (i j : Nat) : ∀ (l : List Lamp), (∀ s ∈ l, 0 ≤ s.f ∧ s.f ≤ 1000) → (-(1000 * (l.length : Int)) ≤ sre p i j l ∧ sre p i j l ≤ 1000 * (l.length : Int)) ∧ (-(1000 * (l.length : Int)) ≤ sim p i j l ∧ sim p i j l ≤ 1000 * (l.length : Int))
  | [], _ => by simp [sre, sim]
  | s :: r, h => by
    have ih := sre_bound p i j r fun t ht => h t (by simp [ht])
    have hb := seen1_bound p i j (h s (by simp))
    simp only [sre, sim, List.map_cons, List.sum_cons, List.length_cons] at ih ⊢
    omega

/-- The baselines of n stations, those of the stations before i. -/
def rowTo (i j : Nat) : List (Nat × Nat) := (List.range (j - (i + 1))).map fun d => (i, i + 1 + d)
def prsTo (n i : Nat) : List (Nat × Nat) := (List.range i).flatMap fun i => rowTo i n
def prs (n : Nat) : List (Nat × Nat) := prsTo n n

theorem rowTo_0 (i : Nat) : rowTo i (i + 1) = [] := by simp [rowTo]
theorem rowTo_succ {i j : Nat} (h : i < j) : rowTo i (j + 1) = rowTo i j ++ [(i, j)] := by
  unfold rowTo
  rw [show j + 1 - (i + 1) = (j - (i + 1)) + 1 by omega, List.range_succ, List.map_append, List.map_singleton, show i + 1 + (j - (i + 1)) = j by omega]
theorem prsTo_succ (n i : Nat) : prsTo n (i + 1) = prsTo n i ++ rowTo i n := by
  unfold prsTo
  rw [List.range_succ, List.flatMap_append]; simp

theorem mem_prs {n : Nat} {q : Nat × Nat} (h : q ∈ prs n) : q.1 < q.2 ∧ q.2 < n := by
  unfold prs prsTo at h
  rw [List.mem_flatMap] at h
  obtain ⟨i, hi, h⟩ := h
  unfold rowTo at h
  rw [List.mem_map] at h
  obtain ⟨d, hd, rfl⟩ := h
  simp at hi hd ⊢
  omega

theorem rowTo_length (i j : Nat) : (rowTo i j).length = j - (i + 1) := by simp [rowTo]

theorem prsTo_length (n : Nat) : ∀ i, i ≤ n → 2 * (prsTo n i).length + i * (i + 1) = 2 * i * n
  | 0, _ => by simp [prsTo]
  | i + 1, h => by
    have ih := prsTo_length n i (by omega)
    rw [prsTo_succ, List.length_append, rowTo_length]
    obtain ⟨d, rfl⟩ : ∃ d, n = i + 1 + d := ⟨n - (i + 1), by omega⟩
    rw [show i + 1 + d - (i + 1) = d by omega]
    generalize (prsTo (i + 1 + d) i).length = z at *
    grind

theorem prsTo_le {n i : Nat} (h : i ≤ n) (hn : n ≤ 8) : (prsTo n i).length ≤ 28 := by
  have h2 := prsTo_length n i h
  have : i = 0 ∨ i = 1 ∨ i = 2 ∨ i = 3 ∨ i = 4 ∨ i = 5 ∨ i = 6 ∨ i = 7 ∨ i = 8 := by omega
  rcases this with rfl | rfl | rfl | rfl | rfl | rfl | rfl | rfl | rfl <;> omega

theorem prs_length (n : Nat) : 2 * (prs n).length = n * (n - 1) := by
  have h := prsTo_length n n (Nat.le_refl _)
  show 2 * (prsTo n n).length = _
  cases n with
  | zero => simp at h ⊢; omega
  | succ m =>
    rw [Nat.add_sub_cancel]
    generalize (prsTo (m + 1) (m + 1)).length = z at *
    grind

/-- The visibility of a baseline, turned by the quarters of a cell. -/
def vis1 (p : List Place) (l : List Lamp) (x y : Int) (q : Nat × Nat) : Vis :=
  ⟨q.1, q.2, ⟨(gt (qs p q.1 q.2 x y) (sre p q.1 q.2 l, sim p q.1 q.2 l)).1, (gt (qs p q.1 q.2 x y) (sre p q.1 q.2 l, sim p q.1 q.2 l)).2, 1⟩, 1⟩

def turned (p : List Place) (l : List Lamp) (x y : Int) : List Vis := (prs p.length).map (vis1 p l x y)
def see (p : List Place) (l : List Lamp) : List Vis × Int := if both41 p l ≠ 0 then ([], both41 p l) else (turned p l 0 0, 0)
def turnd (p : List Place) (l : List Lamp) (x y : Int) : List Vis × Int :=
  if both41 p l ≠ 0 then ([], both41 p l) else if -8 ≤ x ∧ x ≤ 8 ∧ -8 ≤ y ∧ y ≤ 8 then (turned p l x y, 0) else ([], 2)

theorem qs_0 (p : List Place) (i j : Nat) : qs p i j 0 0 = 0 := by simp [qs]

theorem vis1_0 (p : List Place) (l : List Lamp) (q : Nat × Nat) : vis1 p l 0 0 q = ⟨q.1, q.2, ⟨sre p q.1 q.2 l, sim p q.1 q.2 l, 1⟩, 1⟩ := by
  rw [vis1, qs_0, gt_0]

theorem qs_bound {p : List Place} (hp : ∀ a ∈ p, -100 ≤ a.x ∧ a.x ≤ 100 ∧ -100 ≤ a.y ∧ a.y ≤ 100) {i j : Nat} {x y : Int} (hx : -8 ≤ x ∧ x ≤ 8) (hy : -8 ≤ y ∧ y ≤ 8) :
    (-200 ≤ (plc p j).x - (plc p i).x ∧ (plc p j).x - (plc p i).x ≤ 200) ∧ (-200 ≤ (plc p j).y - (plc p i).y ∧ (plc p j).y - (plc p i).y ≤ 200) ∧
    (-1600 ≤ x * ((plc p j).x - (plc p i).x) ∧ x * ((plc p j).x - (plc p i).x) ≤ 1600) ∧ (-1600 ≤ y * ((plc p j).y - (plc p i).y) ∧ y * ((plc p j).y - (plc p i).y) ≤ 1600) ∧ -3200 ≤ qs p i j x y ∧ qs p i j x y ≤ 3200 := by
  have hb : ∀ i, -100 ≤ (plc p i).x ∧ (plc p i).x ≤ 100 ∧ -100 ≤ (plc p i).y ∧ (plc p i).y ≤ 100 := fun i => by
    by_cases h : i < p.length
    · rw [plc_get h]; exact hp _ (List.getElem_mem h)
    · simp [plc, h]
  have hi := hb i
  have hj := hb j
  have hm : ∀ a b : Int, -8 ≤ a ∧ a ≤ 8 → -200 ≤ b ∧ b ≤ 200 → -1600 ≤ a * b ∧ a * b ≤ 1600 := fun a b ha hb => by
    have : a = -8 ∨ a = -7 ∨ a = -6 ∨ a = -5 ∨ a = -4 ∨ a = -3 ∨ a = -2 ∨ a = -1 ∨ a = 0 ∨ a = 1 ∨ a = 2 ∨ a = 3 ∨ a = 4 ∨ a = 5 ∨ a = 6 ∨ a = 7 ∨ a = 8 := by omega
    rcases this with rfl | rfl | rfl | rfl | rfl | rfl | rfl | rfl | rfl | rfl | rfl | rfl | rfl | rfl | rfl | rfl | rfl <;> omega
  have h1 := hm x ((plc p j).x - (plc p i).x) hx (by omega)
  have h2 := hm y ((plc p j).y - (plc p i).y) hy (by omega)
  unfold qs
  omega

theorem turned_length (p : List Place) (l : List Lamp) (x y : Int) : (turned p l x y).length = (prs p.length).length := by simp [turned]

theorem prs_le {n : Nat} (h : n ≤ 8) : (prs n).length ≤ 28 := prsTo_le (Nat.le_refl _) h

theorem both_0 {p : List Place} {l : List Lamp} (h : both41 p l = 0) : places p = 0 ∧ check l = 0 := by
  unfold both41 at h
  split at h
  · rename_i h1; exact absurd h h1
  · rename_i h1; exact ⟨by omega, h⟩

theorem eqPL_vi (a b : Vis) : eqPL (Enc.cs a) (Enc.cs b) = decide (a = b) := by
  obtain ⟨a1, a2, ⟨a3, a4, a5⟩, a6⟩ := a
  obtain ⟨b1, b2, ⟨b3, b4, b5⟩, b6⟩ := b
  rw [Bool.eq_iff_iff]
  simp [eqPL, eqP, Enc.cs]
  grind

/-- The brightness of a cell. -/
def bright (p : List Place) (l : List Lamp) (x y : Int) : Int := ((turned p l (-x) (-y)).map fun v => v.v.re).sum
def image (p : List Place) (l : List Lamp) (n : Nat) : List (List Int) := (List.range n).map fun (y : Nat) => (List.range n).map fun (x : Nat) => bright p l x y
def dirty (p : List Place) (l : List Lamp) (n : Int) : List (List Int) × Int :=
  if both41 p l ≠ 0 then ([], both41 p l) else if 1 ≤ n ∧ n ≤ 8 then (image p l n.toNat, 0) else ([], 2)
end Go.Pv
namespace Go.Pv
open Go.Vc

/-- The first k elements changed. -/
def mixT {α : Type} (f : α → α) (a : List α) (k : Nat) : List α := (a.take k).map f ++ a.drop k

theorem mixT_0 {α : Type} (f : α → α) (a : List α) : mixT f a 0 = a := by simp [mixT]
theorem mixT_end {α : Type} (f : α → α) (a : List α) : mixT f a a.length = a.map f := by simp [mixT]
theorem mixT_length {α : Type} (f : α → α) (a : List α) (k : Nat) : (mixT f a k).length = a.length := by simp [mixT]; omega
theorem mixT_get {α : Type} (f : α → α) {a : List α} {k : Nat} (h : k < a.length) : (mixT f a k)[k]? = some a[k] := by
  unfold mixT
  rw [List.getElem?_append_right (by simp; omega), List.length_map, List.length_take, show k - min k a.length = 0 by omega, List.getElem?_drop]
  simp [h]
theorem mixT_get' {α : Type} (f : α → α) {a : List α} {k : Nat} (h : k < a.length) (h' : k < (mixT f a k).length) : (mixT f a k)[k] = a[k] := by
  have := mixT_get f h
  rw [List.getElem?_eq_getElem h'] at this
  exact Option.some.inj this
theorem mixT_set {α : Type} (f : α → α) {a : List α} {k : Nat} (h : k < a.length) : (mixT f a k).set k (f a[k]) = mixT f a (k + 1) := by
  unfold mixT
  rw [List.set_append_right _ _ (by simp; omega), List.take_succ_eq_append_getElem h, List.drop_eq_getElem_cons h, List.length_map, List.length_take, show k - min k a.length = 0 by omega, List.set_cons_zero, List.map_append, List.append_assoc]
  rfl

def turnV (p : List Place) (x y : Int) (v : Vis) : Vis := ⟨v.i, v.j, gtc (qs p v.i.toNat v.j.toNat x y) v.v, v.n⟩

theorem turnV_vis1 (p : List Place) (l : List Lamp) (x y : Int) (q : Nat × Nat) : turnV p x y (vis1 p l 0 0 q) = vis1 p l x y q := by
  rw [vis1_0]
  rfl

theorem turned_turnV (p : List Place) (l : List Lamp) (x y : Int) : (turned p l 0 0).map (turnV p x y) = turned p l x y := by
  unfold turned
  rw [List.map_map]
  exact List.map_congr_left fun q _ => turnV_vis1 p l x y q

theorem qs_neg (p : List Place) (i j : Nat) (x y : Int) : qs p i j (-x) (-y) = -qs p i j x y := by
  unfold qs; grind

theorem sum_take_succ {l : List Int} {k : Nat} (h : k < l.length) : (l.take (k + 1)).sum = (l.take k).sum + l[k] := by
  rw [List.take_succ_eq_append_getElem h, List.sum_append]
  simp only [List.sum_cons, List.sum_nil, Int.add_zero]

theorem sum_bound {B : Int} (hB : 0 ≤ B) : ∀ (l : List Int), (∀ x ∈ l, -B ≤ x ∧ x ≤ B) → -(B * l.length) ≤ l.sum ∧ l.sum ≤ B * l.length
  | [], _ => by simp
  | x :: r, h => by
    have ih := sum_bound hB r fun y hy => h y (by simp [hy])
    have := h x (by simp)
    simp only [List.sum_cons, List.length_cons]
    rw [show B * ((r.length + 1 : Nat) : Int) = B * r.length + B by simp [Int.mul_add]]
    omega

theorem sum_take_bound {B : Int} (hB : 0 ≤ B) {l : List Int} (h : ∀ x ∈ l, -B ≤ x ∧ x ≤ B) (n : Nat) (hn : l.length ≤ n) (k : Nat) : -(B * n) ≤ (l.take k).sum ∧ (l.take k).sum ≤ B * n := by
  have := sum_bound hB (l.take k) fun x hx => h x (List.mem_of_mem_take hx)
  have h2 : B * ((l.take k).length : Int) ≤ B * (n : Int) := Int.mul_le_mul_of_nonneg_left (by rw [List.length_take]; omega) hB
  omega

theorem vis1_bound {p : List Place} {l : List Lamp} (h : check l = 0) (x y : Int) (q : Nat × Nat) : (-16000 ≤ (vis1 p l x y q).v.re ∧ (vis1 p l x y q).v.re ≤ 16000) ∧ (-16000 ≤ (vis1 p l x y q).v.im ∧ (vis1 p l x y q).v.im ≤ 16000) := by
  obtain ⟨hlen, hrng⟩ := check_0 h
  have hb := sre_bound p q.1 q.2 l fun s hs => (hrng s hs).2.2.2.2
  exact gt_bound (b := 16000) (by simp only; omega) (by simp only; omega)

theorem turned_bound {p : List Place} {l : List Lamp} (h : check l = 0) (x y : Int) : ∀ v ∈ turned p l x y, (-16000 ≤ v.v.re ∧ v.v.re ≤ 16000) ∧ (-16000 ≤ v.v.im ∧ v.v.im ≤ 16000) := by
  intro v hv
  unfold turned at hv
  rw [List.mem_map] at hv
  obtain ⟨q, _, rfl⟩ := hv
  exact vis1_bound h x y q

/-- The real parts. -/
def res_ (l : List Vis) : List Int := l.map fun v => v.v.re
theorem bright_eq (p : List Place) (l : List Lamp) (x y : Int) : bright p l x y = (res_ (turned p l (-x) (-y))).sum := rfl

/-- A row of an image, as far as it is made. -/
def irow (p : List Place) (l : List Lamp) (n y : Nat) : List Int := (List.range n).map fun (x : Nat) => bright p l x y

theorem image_rows (p : List Place) (l : List Lamp) (n : Nat) : image p l n = (List.range n).map fun y => irow p l n y := rfl

/-- The cells of an image, as far as it is made. -/
def ims (e : TypeId) (p : List Place) (l : List Lamp) (n y : Nat) : List NC := (List.range n).map fun k => if k < y then .ow e 1 n (flat (irow p l n k)) else .pu (.sl false 0 [])

theorem ims_length (e : TypeId) (p : List Place) (l : List Lamp) (n y : Nat) : (ims e p l n y).length = n := by simp [ims]

theorem ims_0 (e : TypeId) (p : List Place) (l : List Lamp) (n : Nat) : (reps n [PV.sl false 0 []]).map NC.pu = ims e p l n 0 := by
  unfold ims reps
  rw [show ((List.range n).map fun k => if k < 0 then NC.ow e 1 n (flat (irow p l n k)) else .pu (.sl false 0 [])) = (List.range n).map fun _ => NC.pu (.sl false 0 []) from List.map_congr_left fun k _ => by simp]
  rw [List.map_const', List.length_range]
  induction n with
  | zero => rfl
  | succ n ih => rw [List.replicate_succ, List.flatten_cons, List.map_append, ih, List.replicate_succ]; rfl

theorem ims_set (e : TypeId) (p : List Place) (l : List Lamp) {n y : Nat} (h : y < n) : (ims e p l n y).set y (.ow e 1 n (flat (irow p l n y))) = ims e p l n (y + 1) := by
  apply List.ext_getElem?
  intro j
  by_cases hj : j = y
  · subst hj
    rw [List.getElem?_set_self (by rw [ims_length]; exact h)]
    simp [ims, h]
  · rw [List.getElem?_set_ne (Ne.symm hj)]
    simp only [ims, List.getElem?_map]
    cases hr : (List.range n)[j]? with
    | none => rfl
    | some c =>
      have : c = j := by
        have hlt := (List.getElem?_eq_some_iff.1 hr).1
        simp at hlt
        rw [List.getElem?_range hlt] at hr; simpa using hr.symm
      subst this
      simp only [Option.map_some, Option.some.injEq]
      by_cases h1 : c < y
      · rw [if_pos h1, if_pos (by omega)]
      · rw [if_neg h1, if_neg (by omega)]

theorem ims_end (e : TypeId) (p : List Place) (l : List Lamp) (n : Nat) : (ims e p l n n).map ncP = flat (image p l n) := by
  unfold ims
  rw [List.map_map, image_rows, flat, List.map_map]
  rw [show ((List.range n).map (Enc.cs ∘ fun y => irow p l n y)).flatten = (List.range n).map fun y => sl (irow p l n y) from by
    induction (List.range n) with
    | nil => rfl
    | cons a r ih => rw [List.map_cons, List.flatten_cons, ih]; rfl]
  refine List.map_congr_left fun k hk => ?_
  rw [List.mem_range] at hk
  simp [hk, ncP, irow]

/-- A row of numbers, as far as it is made. -/
def fillTo (g : Nat → Int) (n k : Nat) : List Int := (List.range n).map fun j => if j < k then g j else 0

theorem fillTo_0 (g : Nat → Int) (n : Nat) : reps n [i64 0] = flat (fillTo g n 0) := by
  have : fillTo g n 0 = List.replicate n 0 := by simp [fillTo, List.map_const']
  rw [this]
  exact reps_flat (0 : Int) n

theorem fillTo_set (g : Nat → Int) {n k : Nat} (h : k < n) : (fillTo g n k).set k (g k) = fillTo g n (k + 1) := by
  apply List.ext_getElem?
  intro j
  by_cases hj : j = k
  · subst hj
    rw [List.getElem?_set_self (by simp [fillTo, h])]
    simp [fillTo, h]
  · rw [List.getElem?_set_ne (Ne.symm hj)]
    simp only [fillTo, List.getElem?_map]
    cases hr : (List.range n)[j]? with
    | none => rfl
    | some c =>
      have : c = j := by
        have hlt := (List.getElem?_eq_some_iff.1 hr).1
        simp at hlt
        rw [List.getElem?_range hlt] at hr; simpa using hr.symm
      subst this
      simp only [Option.map_some, Option.some.injEq]
      by_cases h1 : c < k
      · rw [if_pos h1, if_pos (by omega)]
      · rw [if_neg h1, if_neg (by omega)]

theorem fillTo_end (g : Nat → Int) (n : Nat) : fillTo g n n = (List.range n).map g := by
  unfold fillTo
  exact List.map_congr_left fun j hj => by rw [List.mem_range] at hj; simp [hj]

theorem fillTo_length (g : Nat → Int) (n k : Nat) : (fillTo g n k).length = n := by simp [fillTo]
end Go.Pv
