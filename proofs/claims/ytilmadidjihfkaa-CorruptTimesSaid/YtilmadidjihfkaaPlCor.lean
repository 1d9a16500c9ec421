/- Events that spoil data, in plain Lean. -/
import Derived.Test.YtilmadidjihfkaaPlGain
namespace Go.Pv
open Go.Vc

structure Spo where
  kind : Int
  st : Int
  fr : Int
  to : Int
  v : Cx
  q : Int
deriving DecidableEq

instance : Enc Spo where
  sz := 8
  cs s := [u8 s.kind, i64 s.st, i64 s.fr, i64 s.to, i64 s.v.re, i64 s.v.im, i64 s.v.den, i64 s.q]
  ok s := (0 ≤ s.kind ∧ s.kind ≤ 255) ∧ I64 s.st ∧ I64 s.fr ∧ I64 s.to ∧ Enc.ok s.v ∧ I64 s.q
  len _ := rfl
  pos := by decide

abbrev spo (s : Spo) : PV := .agg [u8 s.kind, i64 s.st, i64 s.fr, i64 s.to, i64 s.v.re, i64 s.v.im, i64 s.v.den, i64 s.q]

def Spo.ok (s : Spo) : Prop := 0 ≤ s.st ∧ s.st < 8 ∧ 0 ≤ s.fr ∧ s.fr ≤ s.to ∧ s.to ≤ 32 ∧
  ((s.kind = 1 ∧ s.q = 0 ∧ s.v.valid ∧ ¬ s.v.zero) ∨ ((s.kind = 2 ∨ s.kind = 3) ∧ s.v = c0 ∧ 0 ≤ s.q ∧ s.q ≤ 3))
instance (s : Spo) : Decidable s.ok := by unfold Spo.ok; infer_instance

/-- The number of an event at a time. -/
def num (s : Spo) (t : Int) : Cx := if t < s.fr ∨ s.to ≤ t then one else if s.kind = 1 then s.v else rotN (quart (if s.kind = 3 then s.q * (t - s.fr) else s.q)) one

theorem quart_lt (q : Int) : quart q < 4 := by
  unfold quart
  have h1 : -4 < q.tmod 4 ∧ q.tmod 4 < 4 := by
    have e := Int.tmod_eq_emod (a := q) (b := 4)
    split at e <;> omega
  have h2 : 0 ≤ (q.tmod 4 + 4).tmod 4 ∧ (q.tmod 4 + 4).tmod 4 < 4 := by
    rw [Int.tmod_eq_emod_of_nonneg (by omega)]; omega
  omega

theorem one_validK : one.valid := by decide

theorem rotN_one {k : Nat} (h : k < 4) : (rotN k one).valid := by
  obtain rfl | rfl | rfl | rfl : k = 0 ∨ k = 1 ∨ k = 2 ∨ k = 3 := by omega
  all_goals decide

theorem num_valid {s : Spo} (h : s.ok) (t : Int) : (num s t).valid := by
  unfold num
  split
  · exact one_validK
  · split
    · rename_i hk
      rcases h.2.2.2.2.2 with h | h
      · exact h.2.2.1
      · omega
    · exact rotN_one (quart_lt _)

/-- One more factor. -/
def accStep (a : Cx × Int) (x : Cx) : Cx × Int := if a.2 ≠ 0 then a else if (mul a.1 x).2 ≠ 0 then (c0, 16) else ((mul a.1 x).1, 0)
def acc (xs : List Cx) : Cx × Int := xs.foldl accStep (one, 0)
theorem acc_snoc (xs : List Cx) (x : Cx) : acc (xs ++ [x]) = accStep (acc xs) x := by unfold acc; rw [List.foldl_append]; rfl

theorem acc_bad {xs : List Cx} (h : (acc xs).2 ≠ 0) (ys : List Cx) : (acc (xs ++ ys)).2 ≠ 0 := by
  induction ys generalizing xs with
  | nil => simpa using h
  | cons y ys ih =>
    rw [show xs ++ y :: ys = (xs ++ [y]) ++ ys by simp]
    apply ih
    rw [acc_snoc, accStep, if_pos h]; exact h

theorem acc_valid {xs : List Cx} (h : ∀ x ∈ xs, x.valid) : (acc xs).2 = 0 → (acc xs).1.valid := by
  suffices H : ∀ (xs : List Cx) (a : Cx × Int), (∀ x ∈ xs, x.valid) → (a.2 = 0 → a.1.valid) → (xs.foldl accStep a).2 = 0 → (xs.foldl accStep a).1.valid from H xs _ h (fun _ => one_validK)
  intro xs
  induction xs with
  | nil => intro a _ h2 h3; exact h2 h3
  | cons x xs ih =>
    intro a h1 h2
    refine ih _ (fun y hy => h1 y (by simp [hy])) fun h => ?_
    unfold accStep at h ⊢
    split at h
    · rename_i h'; exact absurd h h'
    · rename_i h'
      rw [if_neg h']
      split at h
      · simp at h
      · rename_i h''
        rw [if_neg h'']
        exact (mul_ok (h2 (by simpa using h')) (h1 x (by simp)) (by simpa using h'')).2

def nums (l : List Spo) (t : Int) (i : Nat) : List Cx := (l.filter fun s => decide (s.st = (i : Int))).map fun s => num s t
def stn (l : List Spo) (t : Int) (i : Nat) : Cx × Int := acc (nums l t i)

theorem nums_hit (l : List Spo) (s : Spo) (t : Int) {i : Nat} (h : s.st = (i : Int)) : nums (l ++ [s]) t i = nums l t i ++ [num s t] := by
  simp [nums, h]
theorem nums_off (l : List Spo) (s : Spo) (t : Int) {i : Nat} (h : s.st ≠ (i : Int)) : nums (l ++ [s]) t i = nums l t i := by
  simp [nums, h]
theorem nums_app (l r : List Spo) (t : Int) (i : Nat) : nums (l ++ r) t i = nums l t i ++ nums r t i := by simp [nums]

theorem stn_bad {l : List Spo} {t : Int} {i k : Nat} (h : (stn (l.take k) t i).2 ≠ 0) : (stn l t i).2 ≠ 0 := by
  unfold stn at *
  conv => lhs; rw [← List.take_append_drop k l, nums_app]
  exact acc_bad h _

theorem stn_valid {l : List Spo} {t : Int} {i : Nat} (h : ∀ s ∈ l, s.ok) (h0 : (stn l t i).2 = 0) : (stn l t i).1.valid :=
  acc_valid (fun x hx => by
    unfold nums at hx
    rw [List.mem_map] at hx
    obtain ⟨s, hs, rfl⟩ := hx
    exact num_valid (h s (List.mem_filter.1 hs).1) t) h0

def rowOf (l : List Spo) (t : Int) : List Cx := (List.range 8).map fun i => (stn l t i).1

def allOk (l : List Spo) (t : Int) (n : Nat) : Prop := ∀ i, i < n → (stn l t i).2 = 0
instance (l : List Spo) (t : Int) (n : Nat) : Decidable (allOk l t n) := by unfold allOk; infer_instance

/-- The table of events at a time. -/
def table (l : List Spo) (t : Int) : List Cx × Int :=
  if t < 0 ∨ 32 ≤ t then ([], 2) else if 8 < l.length then ([], 4) else if ∀ s ∈ l, s.ok then (if allOk l t 8 then (rowOf l t, 0) else ([], 16)) else ([], 8)

theorem table_length (l : List Spo) (t : Int) : (table l t).1.length ≤ 8 := by
  unfold table
  split
  · simp
  · split
    · simp
    · split
      · split
        · simp [rowOf]
        · simp
      · simp

/-- One more event: the row of numbers. -/
theorem row_step {l : List Spo} {t : Int} {s : Spo} {j : Nat} (hj : s.st = (j : Int)) (h0 : (stn l t j).2 = 0) (hm : (mul (stn l t j).1 (num s t)).2 = 0) : rowOf (l ++ [s]) t = (rowOf l t).set j (mul (stn l t j).1 (num s t)).1 := by
  apply List.ext_getElem
  · simp [rowOf]
  · intro i h1 h2
    rw [List.getElem_set]
    simp only [rowOf, List.getElem_map, List.getElem_range]
    split
    · rename_i h; subst h
      unfold stn at *
      rw [nums_hit _ _ _ hj, acc_snoc, accStep, if_neg (by simp [h0]), if_neg (by simp [hm])]
    · rename_i h
      unfold stn
      rw [nums_off _ _ _ (by omega)]

theorem allOk_step {l : List Spo} {t : Int} {s : Spo} {j : Nat} (hj : s.st = (j : Int)) (h : allOk l t 8) (h0 : (stn l t j).2 = 0) (hm : (mul (stn l t j).1 (num s t)).2 = 0) : allOk (l ++ [s]) t 8 := by
  intro i hi
  have := h i hi
  unfold stn at *
  by_cases e : s.st = (i : Int)
  · have : i = j := by omega
    subst this
    rw [nums_hit _ _ _ e, acc_snoc, accStep, if_neg (by simp [h0]), if_neg (by simp [hm])]
  · rw [nums_off _ _ _ e]; exact this

theorem step_bad {l : List Spo} {t : Int} {s : Spo} {j : Nat} (hj : s.st = (j : Int)) (h0 : (stn l t j).2 = 0) (hm : (mul (stn l t j).1 (num s t)).2 ≠ 0) : (stn (l ++ [s]) t j).2 ≠ 0 := by
  unfold stn at *
  rw [nums_hit _ _ _ hj, acc_snoc, accStep, if_neg (by simp [h0]), if_pos hm]
  simp

/-- The same baselines in the same order. -/
def bas (a b : List Vis) : Bool := decide (a.map Vis.key = b.map Vis.key)

def ferr : List (List Vis) → Int
  | [] => 0
  | l :: r => if ck27 l ≠ 0 then ck27 l else ferr r

theorem ferr_bad {s : List (List Vis)} {k : Nat} (hk : k < s.length) (h : ∀ l ∈ s.take k, ck27 l = 0) (hb : ck27 s[k] ≠ 0) : ferr s = ck27 s[k] := by
  induction s generalizing k with
  | nil => simp at hk
  | cons l r ih =>
    cases k with
    | zero => rw [ferr]; simp only [List.getElem_cons_zero] at hb ⊢; rw [if_pos hb]
    | succ k =>
      rw [ferr, if_neg (by simp [h l (by simp)])]
      exact ih (by simpa using hk) (fun x hx => h x (by simp [hx])) hb

theorem ferr_0 {s : List (List Vis)} (h : ∀ l ∈ s, ck27 l = 0) : ferr s = 0 := by
  induction s with
  | nil => rfl
  | cons l r ih => rw [ferr, if_neg (by simp [h l (by simp)])]; exact ih fun x hx => h x (by simp [hx])

def ck35 (s : List (List Vis)) : Int := if 32 < s.length then 4 else if ferr s ≠ 0 then ferr s else if s.all (fun l => bas l (s.headD [])) then 0 else 8

theorem ck35_8 {s : List (List Vis)} (hn : s.length ≤ 32) (hf : ferr s = 0) {k : Nat} (hk : k < s.length) (hb : bas s[k] (s.headD []) = false) : ck35 s = 8 := by
  unfold ck35
  rw [if_neg (by omega), if_neg (by simp [hf]), if_neg]
  intro h
  rw [List.all_eq_true] at h
  rw [h _ (List.getElem_mem hk)] at hb
  cases hb

theorem ck35_0 {s : List (List Vis)} (hn : s.length ≤ 32) (hf : ferr s = 0) (h : ∀ l ∈ s, bas l (s.headD []) = true) : ck35 s = 0 := by
  unfold ck35
  rw [if_neg (by omega), if_neg (by simp [hf]), if_pos]
  rw [List.all_eq_true]
  exact h

/-- Larger than the statements consider. -/
def great (s : List (List Vis)) : Bool := s.any (fun l => decide (20 < l.length ∧ l.length ≤ 64 ∨ 100 < l.length)) || decide (8 < s.length ∧ s.length ≤ 32 ∨ 40 < s.length)

end Go.Pv
