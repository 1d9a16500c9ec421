/- Visibilities, in plain Lean. -/
import Derived.Test.YtilmadidjihfkaaPlCx
namespace Go.Pv
open Go.Vc

structure Vis where
  i : Int
  j : Int
  v : Cx
  n : Int
deriving DecidableEq

instance : Enc Vis where
  sz := 6
  cs l := [i64 l.i, i64 l.j, i64 l.v.re, i64 l.v.im, i64 l.v.den, i64 l.n]
  ok l := I64 l.i ∧ I64 l.j ∧ Enc.ok l.v ∧ I64 l.n
  len _ := rfl
  pos := by decide

abbrev vi (l : Vis) : PV := .agg [i64 l.i, i64 l.j, i64 l.v.re, i64 l.v.im, i64 l.v.den, i64 l.n]

/-- Valid for n stations. -/
def Vis.good (v : Vis) (n : Int) : Prop := 0 ≤ v.i ∧ v.i < v.j ∧ v.j < n ∧ 0 ≤ v.n ∧ v.v.valid
instance (v : Vis) (n : Int) : Decidable (v.good n) := by unfold Vis.good; infer_instance

def all26 (l : List Vis) (n : Int) : Int := if 64 < l.length then 4 else if l.all (fun v => decide (v.good n)) then 0 else 8

def Vis.key (v : Vis) : Int × Int := (v.i, v.j)

def ck27 (l : List Vis) : Int := if all26 l 8 ≠ 0 then all26 l 8 else if (l.map Vis.key).Nodup then 0 else 14

theorem all26_0 {l : List Vis} {n : Int} (h : all26 l n = 0) : l.length ≤ 64 ∧ ∀ v ∈ l, v.good n := by
  unfold all26 at h
  split at h
  · omega
  · split at h
    · rename_i h1 h2
      rw [List.all_eq_true] at h2
      exact ⟨by omega, fun v hv => by simpa using h2 v hv⟩
    · omega

theorem all26_8 {l : List Vis} {n : Int} (h : l.length ≤ 64) {k : Nat} (hk : k < l.length) (hb : ¬ l[k].good n) : all26 l n = 8 := by
  unfold all26
  rw [if_neg (by omega), if_neg]
  rw [List.all_eq_true]
  intro h'
  have := h' l[k] (List.getElem_mem hk)
  exact hb (by simpa using this)

theorem ck27_0 {l : List Vis} (h : ck27 l = 0) : l.length ≤ 64 ∧ (∀ v ∈ l, v.good 8) ∧ (l.map Vis.key).Nodup := by
  unfold ck27 at h
  split at h
  · omega
  · split at h
    · rename_i h1 h2
      have := all26_0 (by omega : all26 l 8 = 0)
      exact ⟨this.1, this.2, h2⟩
    · omega

theorem keys_succ {l : List Vis} {k : Nat} (hk : k < l.length) : ((l.take (k + 1)).map Vis.key).Nodup ↔ ((l.take k).map Vis.key).Nodup ∧ ∀ m, (hm : m < k) → (l[m]'(by omega)).key ≠ l[k].key := by
  rw [List.take_succ_eq_append_getElem hk, List.map_append, List.map_singleton, List.nodup_append]
  constructor
  · rintro ⟨h1, _, h3⟩
    refine ⟨h1, fun m hm => ?_⟩
    refine h3 _ ?_ _ (by simp)
    rw [List.mem_map]
    exact ⟨l[m], by rw [List.mem_take_iff_getElem]; exact ⟨m, by omega, rfl⟩, rfl⟩
  · rintro ⟨h1, h2⟩
    refine ⟨h1, by simp, ?_⟩
    intro a ha b hb
    simp at hb
    subst hb
    rw [List.mem_map] at ha
    obtain ⟨v, hv, rfl⟩ := ha
    rw [List.mem_take_iff_getElem] at hv
    obtain ⟨m, hm, rfl⟩ := hv
    exact h2 m (by omega)

theorem keys_take {l : List Vis} (k : Nat) (h : (l.map Vis.key).Nodup) : ((l.take k).map Vis.key).Nodup := by
  rw [List.map_take]
  exact h.sublist (List.take_sublist ..)

/-- Whether a pair of stations is there. -/
def hit (l : List Vis) (c : Nat) : Bool := l.any fun v => v.i * 8 + v.j == c

theorem hit_snoc (l : List Vis) (v : Vis) (c : Nat) : hit (l ++ [v]) c = (hit l c || (v.i * 8 + v.j == c)) := by
  simp [hit]

def seenAt (l : List Vis) : List PV := (List.range 64).map fun c => bl (hit l c)

theorem seenAt_nil : List.replicate 64 (bl false) = seenAt [] := rfl

theorem part_map {α : Type} (g : Nat → α) (n i m : Nat) (h : i + m ≤ n) : (((List.range n).map g).drop i).take m = (List.range m).map fun j => g (i + j) := by
  apply List.ext_getElem?
  intro j
  rw [List.getElem?_take]
  split
  · rename_i hj
    rw [List.getElem?_drop, List.getElem?_map, List.getElem?_map, List.getElem?_range (by omega), List.getElem?_range (by omega)]
    rfl
  · rename_i hj
    rw [List.getElem?_eq_none]
    simp; omega

theorem spl_map {α : Type} (g g' : Nat → α) (n i : Nat) (v : α) (h : i < n) (hv : g' i = v) (hg : ∀ j, j ≠ i → g' j = g j) : spl ((List.range n).map g) i [v] = (List.range n).map g' := by
  apply List.ext_getElem?
  intro j
  unfold spl
  have hl : (((List.range n).map g).take i).length = i := by simp; omega
  rw [List.append_assoc, List.getElem?_append, hl]
  split
  · rename_i hj
    rw [List.getElem?_take, if_pos hj, List.getElem?_map, List.getElem?_map, List.getElem?_range (by omega)]
    simp [hg j (by omega)]
  · rename_i hj
    rw [List.getElem?_append]
    split
    · rename_i hj2
      simp at hj2
      have : j = i := by omega
      subst this
      simp [h, hv]
    · rename_i hj2
      simp at hj2
      rw [List.getElem?_drop, List.getElem?_map, List.getElem?_map]
      simp only [List.length_singleton]
      rw [show i + 1 + (j - i - 1) = j by omega]
      by_cases hjn : j < n
      · rw [List.getElem?_range hjn]; simp [hg j (by omega)]
      · rw [List.getElem?_eq_none (by simp; omega)]; simp

theorem hit_iff {l : List Vis} (hl : ∀ v ∈ l, v.good 8) {v : Vis} (hv : v.good 8) {c : Nat} (hc : v.i * 8 + v.j = c) : hit l c = true ↔ ∃ u ∈ l, u.key = v.key := by
  unfold hit
  rw [List.any_eq_true]
  constructor
  · rintro ⟨u, hu, h⟩
    have g := hl u hu
    simp at h
    refine ⟨u, hu, ?_⟩
    unfold Vis.good at g hv
    unfold Vis.key
    have : u.i = v.i := by omega
    have : u.j = v.j := by omega
    simp [*]
  · rintro ⟨u, hu, h⟩
    refine ⟨u, hu, ?_⟩
    unfold Vis.key at h
    simp at h
    simp [h.1, h.2, hc]

/-- The visibility from a station to another one. -/
def got (i j : Int) : List Vis → Option Cx
  | [] => none
  | v :: r => if v.i = i ∧ v.j = j then some v.v else if v.i = j ∧ v.j = i then some (conj v.v) else got i j r

theorem got_drop {l : List Vis} {k : Nat} (hk : k < l.length) (i j : Int) : got i j (l.drop k) = if l[k].i = i ∧ l[k].j = j then some l[k].v else if l[k].i = j ∧ l[k].j = i then some (conj l[k].v) else got i j (l.drop (k + 1)) := by
  rw [List.drop_eq_getElem_cons hk]; rfl

/-- All are stations, and different. -/
def apart (l : List Int) : Prop := (∀ s ∈ l, 0 ≤ s ∧ s < 8) ∧ l.Nodup
instance (l : List Int) : Decidable (apart l) := by unfold apart; infer_instance

theorem apart_succ {l : List Int} {k : Nat} (hk : k < l.length) : apart (l.take (k + 1)) ↔ apart (l.take k) ∧ (0 ≤ l[k] ∧ l[k] < 8) ∧ l[k] ∉ l.take k := by
  unfold apart
  rw [List.take_succ_eq_append_getElem hk, List.nodup_append]
  constructor
  · rintro ⟨h1, h2, _, h3⟩
    exact ⟨⟨fun s hs => h1 s (List.mem_append_left _ hs), h2⟩, h1 _ (List.mem_append_right _ (List.mem_singleton.2 rfl)), fun hm => h3 _ hm _ (List.mem_singleton.2 rfl) rfl⟩
  · rintro ⟨⟨h1, h2⟩, h3, h4⟩
    refine ⟨fun s hs => ?_, h2, by simp, fun a ha b hb => ?_⟩
    · rw [List.mem_append] at hs
      rcases hs with hs | hs
      · exact h1 s hs
      · simp at hs; rw [hs]; exact h3
    · simp at hb; rintro rfl; exact h4 (hb ▸ ha)

theorem apart_take {l : List Int} (k : Nat) (h : apart l) : apart (l.take k) :=
  ⟨fun s hs => h.1 s (List.mem_of_mem_take hs), h.2.sublist (List.take_sublist ..)⟩

def inAt (l : List Int) : List PV := (List.range 8).map fun (c : Nat) => bl (decide ((c : Int) ∈ l))

def get27 (l : List Vis) (i j : Int) : Cx × Int :=
  if ck27 l ≠ 0 then (c0, ck27 l) else if ¬ apart [i, j] then (c0, 2) else match got i j l with | some c => (c, 0) | none => (c0, 6)

/-! Triples -/

structure Tri where
  a : Int
  b : Int
  c : Int
deriving DecidableEq

instance : Enc Tri where
  sz := 3
  cs l := [i64 l.a, i64 l.b, i64 l.c]
  ok l := I64 l.a ∧ I64 l.b ∧ I64 l.c
  len _ := rfl
  pos := by decide

def isTri (l : List Vis) (n : Nat) : Bool := decide (n / 64 < n / 8 % 8) && decide (n / 8 % 8 < n % 8) && hit l (n / 64 * 8 + n / 8 % 8) && hit l (n / 8 % 8 * 8 + n % 8) && hit l (n / 64 * 8 + n % 8)

def tris (l : List Vis) : Nat → List Tri
  | 0 => []
  | n + 1 => tris l n ++ if isTri l n then [⟨(n / 64 : Nat), (n / 8 % 8 : Nat), (n % 8 : Nat)⟩] else []

theorem tris_skip (l : List Vis) (x : Nat) : ∀ d : Nat, (∀ m, x ≤ m → m < x + d → isTri l m = false) → tris l (x + d) = tris l x
  | 0, _ => rfl
  | d + 1, h => by
    rw [show x + (d + 1) = (x + d) + 1 from rfl, tris, h (x + d) (by omega) (by omega), tris_skip l x d fun m h1 h2 => h m h1 (by omega)]
    simp

theorem tris_length (l : List Vis) : ∀ n, (tris l n).length ≤ n
  | 0 => Nat.le_refl _
  | n + 1 => by
    have := tris_length l n
    rw [tris, List.length_append]
    split <;> simp <;> omega

def triples (l : List Vis) : List Tri × Int := if ck27 l ≠ 0 then ([], ck27 l) else (tris l 512, 0)

theorem got_some {l : List Vis} (hl : ∀ v ∈ l, v.good 8) {a b : Nat} (hab : a < b) (hb : b < 8) : (got a b l).isSome = hit l (a * 8 + b) := by
  induction l with
  | nil => rfl
  | cons v r ih =>
    have g := hl v (by simp)
    unfold Vis.good at g
    have ih := ih fun u hu => hl u (by simp [hu])
    unfold got hit
    rw [List.any_cons]
    by_cases h : v.i = a ∧ v.j = b
    · rw [if_pos h]
      simp [h.1, h.2]
    · rw [if_neg h, if_neg (by omega), ih]
      have : ¬ (v.i * 8 + v.j = ((a * 8 + b : Nat) : Int)) := by omega
      rw [show (v.i * 8 + v.j == ((a * 8 + b : Nat) : Int)) = false by simp; omega]
      rfl

end Go.Pv
