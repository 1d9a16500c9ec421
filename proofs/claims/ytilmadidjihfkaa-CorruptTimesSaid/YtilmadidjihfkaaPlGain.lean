/- Tables of gains, in plain Lean. -/
import Derived.Test.YtilmadidjihfkaaPlVis
namespace Go.Pv
open Go.Vc

def okG (c : Cx) : Prop := c.valid ∧ ¬ c.zero
instance (c : Cx) : Decidable (okG c) := by unfold okG; infer_instance

/-- The error of a table. -/
def ck26 (g : List Cx) : Int := if 8 < g.length then 4 else if g.length = 0 then 8 else if g.all (fun c => decide (okG c)) then 0 else 8

theorem ck26_0 {g : List Cx} (h : ck26 g = 0) : g.length ≤ 8 ∧ 0 < g.length ∧ ∀ c ∈ g, okG c := by
  unfold ck26 at h
  split at h
  · omega
  · split at h
    · omega
    · split at h
      · rename_i h1 h2 h3
        rw [List.all_eq_true] at h3
        exact ⟨by omega, by omega, fun c hc => by simpa using h3 c hc⟩
      · omega

theorem ck26_8 {g : List Cx} (h : g.length ≤ 8) {k : Nat} (hk : k < g.length) (hb : ¬ okG g[k]) : ck26 g = 8 := by
  unfold ck26
  rw [if_neg (by omega), if_neg (by omega), if_neg]
  rw [List.all_eq_true]
  intro h'
  exact hb (by simpa using h' g[k] (List.getElem_mem hk))

theorem ck26_ok {g : List Cx} (h : g.length ≤ 8) (h0 : 0 < g.length) (hb : ∀ c ∈ g, okG c) : ck26 g = 0 := by
  unfold ck26
  rw [if_neg (by omega), if_neg (by omega), if_pos]
  rw [List.all_eq_true]
  intro c hc
  simpa using hb c hc

theorem conj_valid {a : Cx} (h : a.valid) : (conj a).valid := by
  obtain ⟨h1, h2, h3, h4, h5⟩ := h
  refine ⟨h1, h2, h3, by unfold fits at *; simp only [conj]; omega, ?_⟩
  unfold g3 at h5 ⊢
  simpa [conj] using h5

theorem make_err (x y z : Int) : (make x y z).2 = 0 ∨ make x y z = (c0, 16) := by
  unfold make
  split
  · exact .inl rfl
  · exact .inr rfl

/-- Products of valid numbers: there is one, or it is out of range. -/
theorem mul_err {a b : Cx} (ha : a.valid) (hb : b.valid) : (mul a b).2 = 0 ∨ mul a b = (c0, 16) := by
  unfold mul
  rw [if_pos ⟨ha, hb⟩]
  exact make_err _ _ _

theorem make_ok {x y z : Int} (hz : 0 < z) (h : (make x y z).2 = 0) : (make x y z).1 = norm x y z ∧ (norm x y z).valid := by
  rw [make_valid hz] at h ⊢
  split at h
  · rename_i hv; rw [if_pos hv]; exact ⟨rfl, hv⟩
  · simp at h

theorem mul_ok {a b : Cx} (ha : a.valid) (hb : b.valid) (h : (mul a b).2 = 0) : (mul a b).1 = norm (a.re * b.re - a.im * b.im) (a.re * b.im + a.im * b.re) (a.den * b.den) ∧ (mul a b).1.valid := by
  have e : mul a b = make (a.re * b.re - a.im * b.im) (a.re * b.im + a.im * b.re) (a.den * b.den) := by rw [mul, if_pos ⟨ha, hb⟩]
  rw [e] at h ⊢
  have hp : 0 < a.den * b.den := mul_pos' ha.1 hb.1
  obtain ⟨h1, h2⟩ := make_ok hp h
  rw [h1]
  exact ⟨rfl, h2⟩

/-- A number times the conjugate of another one. -/
def tconj (a b : Cx) : Cx × Int := if b.valid then mul a (conj b) else (c0, 8)

/-- The first error among products. -/
def perr (m : Cx → Cx → Cx × Int) (u v : Nat → Cx) : Nat → Int
  | 0 => 0
  | n + 1 => if perr m u v n ≠ 0 then perr m u v n else (m (u n) (v n)).2

def prods (m : Cx → Cx → Cx × Int) (u v : Nat → Cx) (n : Nat) : List Cx × Int :=
  if perr m u v n = 0 then ((List.range n).map fun k => (m (u k) (v k)).1, 0) else ([], perr m u v n)

theorem perr_le {m : Cx → Cx → Cx × Int} {u v : Nat → Cx} {n : Nat} (h : perr m u v n ≠ 0) : ∀ d, perr m u v (n + d) = perr m u v n
  | 0 => rfl
  | d + 1 => by rw [show n + (d + 1) = (n + d) + 1 from rfl, perr, perr_le h d, if_pos h]

theorem perr_bad {m : Cx → Cx → Cx × Int} {u v : Nat → Cx} {k n : Nat} (hk : k < n) (h0 : perr m u v k = 0) (h : (m (u k) (v k)).2 ≠ 0) : perr m u v n = (m (u k) (v k)).2 := by
  have e : perr m u v (k + 1) = (m (u k) (v k)).2 := by rw [perr, if_neg (by simp [h0])]
  obtain ⟨d, rfl⟩ : ∃ d, n = (k + 1) + d := ⟨n - (k + 1), by omega⟩
  rw [perr_le (by rw [e]; exact h), e]

theorem perr_0 {m : Cx → Cx → Cx × Int} {u v : Nat → Cx} : ∀ {n : Nat}, perr m u v n = 0 ↔ ∀ k, k < n → (m (u k) (v k)).2 = 0
  | 0 => ⟨fun _ k hk => by omega, fun _ => rfl⟩
  | n + 1 => by
    rw [perr]
    constructor
    · intro h k hk
      by_cases h0 : perr m u v n = 0
      · rw [if_neg (by simp [h0])] at h
        by_cases e : k = n
        · subst e; exact h
        · exact (perr_0.1 h0) k (by omega)
      · rw [if_pos h0] at h; exact absurd h h0
    · intro h
      have h0 : perr m u v n = 0 := perr_0.2 fun k hk => h k (by omega)
      rw [if_neg (by simp [h0])]
      exact h n (by omega)

/-- All errors are the same. -/
theorem perr_16 {m : Cx → Cx → Cx × Int} {u v : Nat → Cx} {n : Nat} (hm : ∀ k, k < n → (m (u k) (v k)).2 = 0 ∨ m (u k) (v k) = (c0, 16)) : perr m u v n = 0 ∨ perr m u v n = 16 := by
  induction n with
  | zero => exact .inl rfl
  | succ n ih =>
    rw [perr]
    rcases ih fun k hk => hm k (by omega) with h | h
    · rw [if_neg (by simp [h])]
      rcases hm n (by omega) with h | h
      · exact .inl h
      · exact .inr (by rw [h])
    · rw [if_pos (by omega)]; exact .inr h

def at_ (g : List Cx) (i : Int) : Cx := g.getD i.toNat c0

/-- What a table makes of one visibility's value. -/
def act1 (g : List Cx) (v : Vis) : Cx × Int :=
  if (mul (at_ g v.i) v.v).2 ≠ 0 then (c0, 16) else
  if (mul (mul (at_ g v.i) v.v).1 (conj (at_ g v.j))).2 ≠ 0 then (c0, 16) else mul (mul (at_ g v.i) v.v).1 (conj (at_ g v.j))

def Vis.set (v : Vis) (c : Cx) : Vis := ⟨v.i, v.j, c, v.n⟩

def act26 (g : List Cx) (l : List Vis) : List Vis × Int :=
  if ck26 g ≠ 0 then ([], ck26 g) else if all26 l g.length ≠ 0 then ([], all26 l g.length) else
  if l.all (fun v => (act1 g v).2 = 0) then (l.map fun v => v.set (act1 g v).1, 0) else ([], 16)

abbrev resV (r : List Vis × Int) : SV := .tup [.p (sl r.1), .p (i64 r.2)]
abbrev resCs (r : List Cx × Int) : SV := .tup [.p (sl r.1), .p (i64 r.2)]

theorem at_get {g : List Cx} {k : Nat} (h : k < g.length) : at_ g k = g[k] := by
  simp [at_, List.getD, h]

theorem at_mem {g : List Cx} {i : Int} (h0 : 0 ≤ i) (h : i < g.length) : at_ g i ∈ g := by
  obtain ⟨k, rfl⟩ : ∃ k : Nat, i = k := ⟨i.toNat, by omega⟩
  rw [at_get (by omega)]
  exact List.getElem_mem _

end Go.Pv
