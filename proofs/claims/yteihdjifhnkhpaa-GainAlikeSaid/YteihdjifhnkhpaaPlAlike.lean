/- Tables of gains: products, inverses, tables that act alike, in plain Lean. -/
import Derived.Test.YteihdjifhnkhpaaPlGain
namespace Go.Pv
open Go.Vc

def both26 (g h : List Cx) : Int := if ck26 g ≠ 0 then ck26 g else if ck26 h ≠ 0 then ck26 h else if g.length ≠ h.length then 2 else 0

theorem both26_0 {g h : List Cx} (e : both26 g h = 0) : ck26 g = 0 ∧ ck26 h = 0 ∧ g.length = h.length := by
  unfold both26 at e
  split at e
  · rename_i h1; exact absurd e h1
  split at e
  · rename_i _ h1; exact absurd e h1
  split at e
  · cases e
  · rename_i h1 h2 h3; exact ⟨by omega, by omega, by omega⟩

def gat (g : List Cx) (k : Nat) : Cx := g.getD k c0

theorem gat_get {g : List Cx} {k : Nat} (h : k < g.length) : gat g k = g[k] := by simp [gat, h]

/-- What one gain of two tables that may act alike comes to. -/
def alE (g h : List Cx) (i : Nat) : Int := if (mul (gat g i) (gat h 0)).2 ≠ 0 then (mul (gat g i) (gat h 0)).2 else (mul (gat g 0) (gat h i)).2
def alS (g h : List Cx) (i : Nat) : Bool := decide ((mul (gat g i) (gat h 0)).1 = (mul (gat g 0) (gat h i)).1)

def aerr (g h : List Cx) : Nat → Int
  | 0 => 0
  | k + 1 => if aerr g h k ≠ 0 then aerr g h k else alE g h k
def asame (g h : List Cx) : Nat → Bool
  | 0 => true
  | k + 1 => asame g h k && alS g h k

theorem aerr_le {g h : List Cx} {n : Nat} (e : aerr g h n ≠ 0) : ∀ d, aerr g h (n + d) = aerr g h n
  | 0 => rfl
  | d + 1 => by
    have ih := aerr_le e d
    show aerr g h (n + d + 1) = _
    rw [aerr, ih, if_pos e]

theorem aerr_bad {g h : List Cx} {k n : Nat} (hk : k < n) (h0 : aerr g h k = 0) (e : alE g h k ≠ 0) : aerr g h n = alE g h k := by
  have h1 : aerr g h (k + 1) = alE g h k := by rw [aerr, if_neg (by simp [h0])]
  have := aerr_le (g := g) (h := h) (n := k + 1) (by rw [h1]; exact e) (n - (k + 1))
  rw [show k + 1 + (n - (k + 1)) = n by omega, h1] at this
  exact this

theorem nrm_err {a : Cx} (h : a.valid) : (nrm a).2 = 0 ∨ nrm a = (⟨0, 0⟩, 16) := by
  rw [nrm, if_pos h]
  split
  · exact .inr rfl
  · exact .inl rfl

def alike (g h : List Cx) : Bool × Int :=
  if both26 g h ≠ 0 then (false, both26 g h) else if (nrm (gat g 0)).2 ≠ 0 then (false, 16) else if (nrm (gat h 0)).2 ≠ 0 then (false, 16)
  else if aerr g h g.length ≠ 0 then (false, 16) else (decide ((nrm (gat g 0)).1 = (nrm (gat h 0)).1) && asame g h g.length, 0)

theorem alE_16 {g h : List Cx} {i : Nat} (h1 : (gat g i).valid) (h2 : (gat h 0).valid) (h3 : (gat g 0).valid) (h4 : (gat h i).valid) : alE g h i = 0 ∨ alE g h i = 16 := by
  unfold alE
  rcases mul_err h1 h2 with e | e
  · rw [if_neg (by simp [e])]
    rcases mul_err h3 h4 with e | e
    · exact .inl e
    · exact .inr (by rw [e])
  · rw [e]; simp

theorem gat_valid {g : List Cx} (h : ck26 g = 0) {i : Nat} (hi : i < g.length) : (gat g i).valid ∧ ¬ (gat g i).zero := by
  rw [gat_get hi]
  exact (ck26_0 h).2.2 _ (List.getElem_mem hi)

theorem aerr_16 {g h : List Cx} (e : both26 g h = 0) : ∀ n, n ≤ g.length → aerr g h n = 0 ∨ aerr g h n = 16
  | 0, _ => .inl rfl
  | n + 1, hn => by
    obtain ⟨h1, h2, h3⟩ := both26_0 e
    obtain ⟨_, hp, _⟩ := ck26_0 h1
    rcases aerr_16 e n (by omega) with h | h
    · rw [aerr, if_neg (by simp [h])]
      exact alE_16 (gat_valid h1 (by omega)).1 (gat_valid h2 (by omega)).1 (gat_valid h1 (by omega)).1 (gat_valid h2 (by omega)).1
    · rw [aerr, if_pos (by omega)]; exact .inr h

/-- Products of tables, inverses, tables referred to a station. -/
def tmul (g h : List Cx) : List Cx × Int := if both26 g h ≠ 0 then ([], both26 g h) else prods mul (gat g) (gat h) g.length
def tinv (g : List Cx) : List Cx × Int := if ck26 g ≠ 0 then ([], ck26 g) else prods div (fun _ => one) (gat g) g.length
def trefer (g : List Cx) (s : Int) : List Cx × Int := if ck26 g ≠ 0 then ([], ck26 g) else if s < 0 ∨ s ≥ g.length then ([], 2) else prods tconj (gat g) (fun _ => at_ g s) g.length

theorem prods_length (m : Cx → Cx → Cx × Int) (u v : Nat → Cx) (n : Nat) : (prods m u v n).1.length ≤ n := by
  unfold prods
  split <;> simp

theorem prods_err {m : Cx → Cx → Cx × Int} {u v : Nat → Cx} {n : Nat} (h : (prods m u v n).2 ≠ 0) : (prods m u v n).1 = [] := by
  unfold prods at *
  split
  · rename_i e; simp [e] at h
  · rfl
end Go.Pv
namespace Go.Pv
theorem div_err {a b : Cx} (ha : a.valid) (hb : b.valid) (hz : ¬ b.zero) : (div a b).2 = 0 ∨ div a b = (c0, 16) := by
  rw [div, if_pos ⟨ha, hb⟩, if_neg hz]
  exact make_err _ _ _

theorem tconj_err {a b : Cx} (ha : a.valid) (hb : b.valid) : (tconj a b).2 = 0 ∨ tconj a b = (c0, 16) := by
  rw [tconj, if_pos hb]
  exact mul_err ha (conj_valid hb)

theorem prods_bad {m : Cx → Cx → Cx × Int} {u v : Nat → Cx} {k n : Nat} (hk : k < n) (h0 : perr m u v k = 0) (h : (m (u k) (v k)).2 ≠ 0) (he : (m (u k) (v k)).2 = 0 ∨ m (u k) (v k) = (c0, 16)) : prods m u v n = ([], 16) := by
  have e := perr_bad hk h0 h
  rcases he with h' | h'
  · exact absurd h' h
  · rw [h'] at e
    rw [prods, if_neg (by rw [e]; decide), e]
end Go.Pv
