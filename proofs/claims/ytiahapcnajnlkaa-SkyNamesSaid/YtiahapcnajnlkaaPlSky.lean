/- Skies, in plain Lean. -/
import Derived.Test.YtiahapcnajnlkaaPvL
namespace Go.Pv
open Go.Vc

structure Lamp where
  x : Int
  y : Int
  f : Int
deriving DecidableEq

instance : Enc Lamp where
  sz := 3
  cs l := [i64 l.x, i64 l.y, i64 l.f]
  ok l := I64 l.x ∧ I64 l.y ∧ I64 l.f
  len _ := rfl
  pos := by decide

structure Place where
  x : Int
  y : Int
deriving DecidableEq

instance : Enc Place where
  sz := 2
  cs l := [i64 l.x, i64 l.y]
  ok l := I64 l.x ∧ I64 l.y
  len _ := rfl
  pos := by decide

def okL (l : Lamp) : Bool := decide (0 ≤ l.x ∧ l.x < 8 ∧ 0 ≤ l.y ∧ l.y < 8 ∧ 0 ≤ l.f ∧ l.f ≤ 1000)
def check (ls : List Lamp) : Int := if ls.length > 16 then 4 else if ls.all okL then 0 else 8

theorem check_bad {ls : List Lamp} (h : ls.length ≤ 16) {k : Nat} (hk : k < ls.length) (hb : ¬ (0 ≤ ls[k].x ∧ ls[k].x < 8 ∧ 0 ≤ ls[k].y ∧ ls[k].y < 8 ∧ 0 ≤ ls[k].f ∧ ls[k].f ≤ 1000)) : check ls = 8 := by
  rw [check, if_neg (by omega), if_neg]
  intro ha
  exact hb (by simpa [okL] using List.all_eq_true.1 ha _ (List.getElem_mem hk))

def inB (dx dy : Int) (s : Lamp) : Bool := decide (-s.x ≤ dx ∧ dx < 8 - s.x ∧ -s.y ≤ dy ∧ dy < 8 - s.y)
def mv (dx dy : Int) (s : Lamp) : Lamp := ⟨s.x + dx, s.y + dy, s.f⟩
def shift (ls : List Lamp) (dx dy : Int) : List Lamp × Int :=
  if check ls ≠ 0 then ([], check ls) else if ls.all (inB dx dy) then (ls.map (mv dx dy), 0) else ([], 16)

theorem check_0 {ls : List Lamp} (h : check ls = 0) : ls.length ≤ 16 ∧ ∀ s ∈ ls, 0 ≤ s.x ∧ s.x < 8 ∧ 0 ≤ s.y ∧ s.y < 8 ∧ 0 ≤ s.f ∧ s.f ≤ 1000 := by
  unfold check at h
  split at h
  · cases h
  · split at h
    · rename_i h1 h2
      refine ⟨by omega, fun s hs => ?_⟩
      simpa [okL] using List.all_eq_true.1 h2 s hs
    · cases h

theorem shift_bad {ls : List Lamp} {dx dy : Int} (h : check ls = 0) {k : Nat} (hk : k < ls.length) (hb : ¬ (-ls[k].x ≤ dx ∧ dx < 8 - ls[k].x ∧ -ls[k].y ≤ dy ∧ dy < 8 - ls[k].y)) : shift ls dx dy = ([], 16) := by
  rw [shift, if_neg (by simp [h]), if_neg]
  intro ha
  exact hb (by simpa [inB] using List.all_eq_true.1 ha _ (List.getElem_mem hk))

theorem part_map_range {α : Type} (g : Nat → α) (n i m : Nat) (h : i + m ≤ n) : (((List.range n).map g).drop i).take m = (List.range m).map fun j => g (i + j) := by
  apply List.ext_getElem?
  intro j
  rw [List.getElem?_take]
  split
  · rename_i hj
    rw [List.getElem?_drop, List.getElem?_map, List.getElem?_map, List.getElem?_range (by omega), List.getElem?_range (by omega)]
    rfl
  · rw [List.getElem?_eq_none (by simp; omega)]

theorem spl_map_range {α : Type} (g g' : Nat → α) (n i : Nat) (v : α) (h : i < n) (hv : g' i = v) (hg : ∀ j, j ≠ i → g' j = g j) : spl ((List.range n).map g) i [v] = (List.range n).map g' := by
  apply List.ext_getElem?
  intro j
  unfold spl
  have hl : (((List.range n).map g).take i).length = i := by simp; omega
  rw [List.append_assoc, List.getElem?_append, hl]
  split
  · rename_i hj
    rw [List.getElem?_take, if_pos hj, List.getElem?_map, List.getElem?_map]
    cases hr : (List.range n)[j]? with
    | none => rfl
    | some c =>
      have : c = j := by rw [List.getElem?_range (by omega)] at hr; simpa using hr.symm
      subst this
      simp [hg c (by omega)]
  · rename_i hj
    by_cases e : j = i
    · subst e
      simp [hv, h]
    · have : j - i = (j - i - 1) + 1 := by omega
      rw [this, List.singleton_append, List.getElem?_cons_succ, List.getElem?_drop, List.getElem?_map, List.getElem?_map]
      rw [show i + [v].length + (j - i - 1) = j from by simp; omega]
      cases hr : (List.range n)[j]? with
      | none => rfl
      | some c =>
        have : c = j := by
          have hlt := (List.getElem?_eq_some_iff.1 hr).1
          simp at hlt
          rw [List.getElem?_range hlt] at hr; simpa using hr.symm
        subst this
        simp [hg c e]

/-- The flux of a cell. -/
def sumAt (ls : List Lamp) (c : Nat) : Int := (ls.map fun s => if s.y * 8 + s.x = (c : Int) then s.f else 0).sum
def cellsAt (ls : List Lamp) : List PV := (List.range 64).map fun c => i64 (sumAt ls c)
def mg (ls : List Lamp) (n : Nat) : List Lamp := (List.range n).filterMap fun c => if 0 < sumAt ls c then some ⟨(c % 8 : Nat), (c / 8 : Nat), sumAt ls c⟩ else none
def merge (ls : List Lamp) : List Lamp × Int :=
  if check ls ≠ 0 then ([], check ls) else if (List.range 64).all fun c => decide (sumAt ls c ≤ 1000) then (mg ls 64, 0) else ([], 16)

theorem sumAt_snoc (ls : List Lamp) (s : Lamp) (c : Nat) : sumAt (ls ++ [s]) c = sumAt ls c + if s.y * 8 + s.x = (c : Int) then s.f else 0 := by
  simp [sumAt]

theorem sumAt_nonneg : ∀ (ls : List Lamp) (_ : ∀ s ∈ ls, 0 ≤ s.f) (c : Nat), 0 ≤ sumAt ls c
  | [], _, c => by simp [sumAt]
  | s :: r, h, c => by
    have ih := sumAt_nonneg r (fun t ht => h t (by simp [ht])) c
    have := h s (by simp)
    simp only [sumAt, List.map_cons, List.sum_cons] at ih ⊢
    split <;> omega

theorem sumAt_le : ∀ (ls : List Lamp) (_ : ∀ s ∈ ls, 0 ≤ s.f ∧ s.f ≤ 1000) (c : Nat), sumAt ls c ≤ 1000 * ls.length
  | [], _, c => by simp [sumAt]
  | s :: r, h, c => by
    have ih := sumAt_le r (fun t ht => h t (by simp [ht])) c
    have := h s (by simp)
    simp only [sumAt, List.map_cons, List.sum_cons, List.length_cons] at ih ⊢
    split <;> omega

theorem cellsAt_nil : List.replicate 64 (i64 0) = cellsAt [] := by
  rfl

theorem mg_succ (ls : List Lamp) (n : Nat) : mg ls (n + 1) = mg ls n ++ if 0 < sumAt ls n then [⟨(n % 8 : Nat), (n / 8 : Nat), sumAt ls n⟩] else [] := by
  simp only [mg, List.range_succ, List.filterMap_append]
  congr 1
  by_cases h : 0 < sumAt ls n <;> simp [h]

theorem mg_length (ls : List Lamp) : ∀ n, (mg ls n).length ≤ n
  | 0 => by simp [mg]
  | n + 1 => by
    have := mg_length ls n
    rw [mg_succ, List.length_append]
    split <;> simp <;> omega

theorem merge_bad {ls : List Lamp} (h : check ls = 0) {c : Nat} (hc : c < 64) (hb : ¬ sumAt ls c ≤ 1000) : merge ls = ([], 16) := by
  rw [merge, if_neg (by simp [h]), if_neg]
  intro ha
  exact hb (by simpa using List.all_eq_true.1 ha c (List.mem_range.2 hc))

theorem shift_length (ls : List Lamp) (dx dy : Int) : (shift ls dx dy).1.length ≤ ls.length := by
  unfold shift
  split
  · simp
  · split <;> simp

theorem merge_length (ls : List Lamp) : (merge ls).1.length ≤ 64 := by
  unfold merge
  split
  · simp
  · split
    · exact mg_length ls 64
    · simp

theorem countP_range_le (p q : Nat → Bool) (c0 : Nat) (h : ∀ c, c ≠ c0 → q c = true → p c = true) : ∀ n, (List.range n).countP q ≤ (List.range n).countP p + 1
  | 0 => by simp
  | n + 1 => by
    have ih := countP_range_le p q c0 h n
    have hlt : n ≤ c0 → (List.range n).countP q ≤ (List.range n).countP p := by
      intro hn
      refine List.countP_mono_left ?_
      intro c hc hq
      exact h c (by have := List.mem_range.1 hc; omega) hq
    rw [List.range_succ, List.countP_append, List.countP_append]
    by_cases e : n = c0
    · have := hlt (by omega)
      have h2 : List.countP q [n] ≤ 1 := by simp [List.countP_cons]; split <;> omega
      omega
    · have h2 : List.countP q [n] ≤ List.countP p [n] := by
        simp only [List.countP_cons, List.countP_nil]
        cases hq : q n with
        | false => simp
        | true => simp [h n e hq]
      omega

theorem pos_count : ∀ (ls : List Lamp) (_ : ∀ s ∈ ls, 0 ≤ s.x ∧ s.x < 8 ∧ 0 ≤ s.y ∧ s.y < 8 ∧ 0 ≤ s.f), (List.range 64).countP (fun c => decide (0 < sumAt ls c)) ≤ ls.length
  | [], _ => by
    have : ((List.range 64).countP fun c => decide (0 < sumAt [] c)) = 0 := by
      rw [List.countP_eq_zero]
      intro c _
      simp [sumAt]
    omega
  | s :: r, h => by
    have ih := pos_count r fun t ht => h t (by simp [ht])
    have hs := h s (by simp)
    refine Nat.le_trans (countP_range_le (fun c => decide (0 < sumAt r c)) _ (s.y * 8 + s.x).toNat ?_ 64) (by simp; omega)
    intro c hc hq
    simp only [sumAt, List.map_cons, List.sum_cons, decide_eq_true_eq] at hq
    rw [if_neg (by omega)] at hq
    have : 0 < sumAt r c := by unfold sumAt; omega
    simpa using this

theorem mg_count (ls : List Lamp) : ∀ n, (mg ls n).length = (List.range n).countP fun c => decide (0 < sumAt ls c)
  | 0 => rfl
  | n + 1 => by
    rw [mg_succ, List.length_append, List.range_succ, List.countP_append, mg_count ls n]
    congr 1
    by_cases h : 0 < sumAt ls n <;> simp [h]

theorem mem_mg {ls : List Lamp} {n : Nat} {t : Lamp} : t ∈ mg ls n ↔ ∃ c, c < n ∧ 0 < sumAt ls c ∧ t = ⟨(c % 8 : Nat), (c / 8 : Nat), sumAt ls c⟩ := by
  simp only [mg, List.mem_filterMap, List.mem_range]
  constructor
  · rintro ⟨c, hc, h⟩
    split at h
    · exact ⟨c, hc, by assumption, by simpa using h.symm⟩
    · cases h
  · rintro ⟨c, hc, h1, rfl⟩
    exact ⟨c, hc, by rw [if_pos h1]⟩

/-- The merged sky is one, just when no cell is too bright. -/
theorem check_mg {ls : List Lamp} (h : check ls = 0) : (merge ls).2 = (if check (mg ls 64) = 0 then 0 else 16) ∧ (merge ls).1 = (if check (mg ls 64) = 0 then mg ls 64 else []) := by
  obtain ⟨hlen, hrng⟩ := check_0 h
  have hl : (mg ls 64).length ≤ 16 := by
    rw [mg_count]
    exact Nat.le_trans (pos_count ls fun s hs => by have := hrng s hs; omega) hlen
  have hiff : check (mg ls 64) = 0 ↔ ((List.range 64).all fun c => decide (sumAt ls c ≤ 1000)) = true := by
    rw [check, if_neg (by omega)]
    have : (mg ls 64).all okL = true ↔ ((List.range 64).all fun c => decide (sumAt ls c ≤ 1000)) = true := by
      rw [List.all_eq_true, List.all_eq_true]
      constructor
      · intro ha c hc
        simp only [decide_eq_true_eq]
        have hc := List.mem_range.1 hc
        by_cases hp : 0 < sumAt ls c
        · have := ha _ (mem_mg.2 ⟨c, hc, hp, rfl⟩)
          simp [okL] at this
          omega
        · omega
      · intro ha t ht
        obtain ⟨c, hc, hp, rfl⟩ := mem_mg.1 ht
        have := ha c (List.mem_range.2 hc)
        simp [okL] at this ⊢
        omega
    rw [← this]
    constructor
    · intro h; split at h
      · assumption
      · cases h
    · intro h; rw [if_pos h]
  rw [merge, if_neg (by simp [h])]
  by_cases hc : check (mg ls 64) = 0
  · rw [if_pos (hiff.1 hc), if_pos hc, if_pos hc]; exact ⟨rfl, rfl⟩
  · rw [if_neg (fun h => hc (hiff.2 h)), if_neg hc, if_neg hc]; exact ⟨rfl, rfl⟩

def set99 (zs : List Lamp) (k : Nat) : List Lamp := (zs.take k).map (fun s => ⟨99, s.y, s.f⟩) ++ zs.drop k

theorem set99_length (zs : List Lamp) (k : Nat) : (set99 zs k).length = zs.length := by
  simp [set99]; omega

theorem set99_get {zs : List Lamp} {k : Nat} (h : k < zs.length) : (set99 zs k)[k]? = some zs[k] := by
  rw [set99, List.getElem?_append_right (by simp; omega)]
  simp [Nat.min_eq_left (Nat.le_of_lt h), h]

theorem set99_set {zs : List Lamp} {k : Nat} (h : k < zs.length) : (set99 zs k).set k ⟨99, zs[k].y, zs[k].f⟩ = set99 zs (k + 1) := by
  apply List.ext_getElem?
  intro j
  simp only [set99, List.getElem?_set, List.getElem?_append, List.length_map, List.length_take, List.getElem?_map, List.getElem?_take, List.getElem?_drop, List.length_append, List.length_drop]
  by_cases e1 : k = j
  · subst e1
    rw [if_pos rfl, if_pos (by omega), if_pos (by omega), if_pos (by omega)]
    simp [h]
  · rw [if_neg e1]
    by_cases e2 : j < k
    · rw [if_pos (by omega), if_pos e2, if_pos (by omega), if_pos (by omega)]
    · rw [if_neg (by omega), if_neg (by omega)]
      congr 1; omega

theorem set99_succ {zs : List Lamp} {k : Nat} (h : k < zs.length) : spl (flat (set99 zs k)) (k * 3) [i64 99] = flat (set99 zs (k + 1)) := by
  have hk : k < (set99 zs k).length := by rw [set99_length]; exact h
  have hg : (set99 zs k)[k] = zs[k] := by
    have := set99_get h
    rw [List.getElem?_eq_getElem hk] at this
    exact Option.some.inj this
  have := flat_put_part (α := Lamp) (xs := set99 zs k) (i := k) (o := 0) hk [i64 99] ⟨99, zs[k].y, zs[k].f⟩ (by rw [hg]; rfl) (by decide)
  rw [Nat.add_zero] at this
  rw [← set99_set h]
  exact this

theorem eqPL_lamp (a b : Lamp) : eqPL (Enc.cs a) (Enc.cs b) = decide (a = b) := by
  cases a; cases b
  rw [Bool.eq_iff_iff]
  simp [Enc.cs, eqPL, eqP]
end Go.Pv
