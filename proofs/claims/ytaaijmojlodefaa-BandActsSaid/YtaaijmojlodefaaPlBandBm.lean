/- Bandpasses: parts, averages, spectra; the plain functions. -/
import Derived.Test.YtaaijmojlodefaaPlCxm
namespace Go.Pv

theorem idx_part {α : Type} [Enc α] {xs : List α} {a b i : Nat} (hb : b ≤ xs.length) (hi : i < b - a) : ((((flat xs).drop (a * Enc.sz α)).take ((b - a) * Enc.sz α)).drop (i * Enc.sz α)).take (Enc.sz α) = Enc.cs (xs[a + i]'(by omega)) := by
  rw [flat_part]
  rw [idx (by rw [List.length_take, List.length_drop]; omega)]
  simp

/-- The channels from p on up to q. -/
def cutR (r : List Cx) (p q : Nat) : List Cx := (r.drop p).take (q - p)
def cut32 (b : List (List Cx)) (p q : Nat) : List (List Cx) := b.map fun r => cutR r p q

theorem cutR_length {r : List Cx} {p q : Nat} (h : q ≤ r.length) : (cutR r p q).length = q - p := by
  rw [cutR, List.length_take, List.length_drop]; omega

def partN (e : Nat) (b : List (List Cx)) (p q : Nat) : List NC := b.map fun r => .ow e 3 (q - p) (flat (cutR r p q))

theorem partN_succ {e : Nat} {b : List (List Cx)} {p q k : Nat} (h : k < b.length) : partN e (b.take k) p q ++ [.ow e 3 (q - p) (flat (cutR b[k] p q))] = partN e (b.take (k + 1)) p q := by
  rw [List.take_succ_eq_append_getElem h]; unfold partN; rw [List.map_append]; rfl

def bsplit (b : List (List Cx)) (n : Int) : List (List Cx) × List (List Cx) × Int :=
  if ck32 b ≠ 0 then ([], [], ck32 b) else if n < 1 ∨ (row0 b).length ≤ n then ([], [], 2) else (cut32 b 0 n.toNat, cut32 b n.toNat (row0 b).length, 0)

abbrev resB2 (r : List (List Cx) × List (List Cx) × Int) : SV := .tup [.p (sl r.1), .p (sl r.2.1), .p (i64 r.2.2)]

def rw32 (b : List (List Cx)) (j : Nat) : List Cx := b.getD j []
theorem rw32_get {b : List (List Cx)} {j : Nat} (h : j < b.length) : rw32 b j = b[j] := by simp [rw32, h]

/-- Rows joined. -/
def jn (a b : List (List Cx)) : List (List Cx) := (List.range a.length).map fun j => rw32 a j ++ rw32 b j

def bjoin (a b : List (List Cx)) : List (List Cx) × Int :=
  if both32 a b ≠ 0 then ([], both32 a b) else if a.length ≠ b.length then ([], 2) else if 16 < (row0 a).length + (row0 b).length then ([], 4) else (jn a b, 0)

def jnR (a b : List (List Cx)) (i j : Nat) : List Cx := if j < i then rw32 a j ++ rw32 b j else rw32 a j
def jnN (e : Nat) (a b : List (List Cx)) (i : Nat) : List NC := (List.range a.length).map fun j => .ow e 3 (jnR a b i j).length (flat (jnR a b i j))

theorem jnN_0 {e : Nat} {a b : List (List Cx)} {q : Nat} (h : ∀ r ∈ a, r.length = q) : partN e a 0 q = jnN e a b 0 := by
  apply List.ext_getElem
  · simp [partN, jnN]
  · intro j h1 h2
    have hj : j < a.length := by simpa [partN] using h1
    have e1 := h _ (List.getElem_mem hj)
    simp only [partN, jnN, List.getElem_map, List.getElem_range, jnR, Nat.not_lt_zero, if_false, rw32_get hj, cutR, List.drop_zero, Nat.sub_zero]
    rw [List.take_of_length_le (by omega), e1]

theorem jnN_get {e : Nat} {a b : List (List Cx)} {i : Nat} (h : i < a.length) : (jnN e a b i)[i]? = some (.ow e 3 a[i].length (flat a[i])) := by
  simp [jnN, h, jnR, rw32_get h]

theorem jnN_put {e : Nat} {a b : List (List Cx)} {i : Nat} (h : i < a.length) (hb : i < b.length) : (jnN e a b i).set i (.ow e 3 (a[i].length + b[i].length) (flat a[i] ++ flat b[i])) = jnN e a b (i + 1) := by
  apply List.ext_getElem
  · simp [jnN]
  · intro j h1 h2
    have hj : j < a.length := by simpa [jnN] using h1
    simp only [jnN, List.getElem_set, List.getElem_map, List.getElem_range]
    by_cases hij : i = j
    · subst hij
      simp [jnR, rw32_get h, rw32_get hb, flat_append]
    · rw [if_neg hij]
      simp only [jnR]
      by_cases hlt : j < i
      · rw [if_pos hlt, if_pos (by omega)]
      · rw [if_neg hlt, if_neg (by omega)]

theorem jnN_pv {e : Nat} {a b : List (List Cx)} : (jnN e a b a.length).map ncP = flat (jn a b) := by
  unfold jnN jn
  rw [List.map_map]
  have : ∀ r : List Nat, (∀ j ∈ r, j < a.length) → r.map (ncP ∘ fun j => NC.ow e 3 (jnR a b a.length j).length (flat (jnR a b a.length j))) = flat (r.map fun j => rw32 a j ++ rw32 b j) := by
    intro r
    induction r with
    | nil => intro _; rfl
    | cons j r ih =>
      intro h
      rw [List.map_cons, List.map_cons, flat_cons, ← ih fun x hx => h x (List.mem_cons_of_mem _ hx)]
      have hj := h j List.mem_cons_self
      show PV.sl false (jnR a b a.length j).length (flat (jnR a b a.length j)) :: _ = _
      rw [jnR, if_pos hj]
      rfl
  exact this _ fun j hj => List.mem_range.1 hj

/-! ### Averages -/

def addS (p : Cx × Int) (a : Cx) : Cx × Int := if p.2 ≠ 0 then p else if (add p.1 a).2 ≠ 0 then (c0, (add p.1 a).2) else add p.1 a
def sums (s : Cx) (l : List Cx) : Cx × Int := l.foldl addS (s, 0)

theorem addS_bad {p : Cx × Int} (h : p.2 ≠ 0) (l : List Cx) : l.foldl addS p = p := by
  induction l with
  | nil => rfl
  | cons a r ih => rw [List.foldl_cons, addS, if_pos h, ih]

theorem sums_nil (s : Cx) : sums s [] = (s, 0) := rfl
theorem sums_snoc (s : Cx) (l : List Cx) (a : Cx) : sums s (l ++ [a]) = addS (sums s l) a := by simp [sums]
theorem sums_app (s : Cx) (l r : List Cx) : sums s (l ++ r) = r.foldl addS (sums s l) := by simp [sums]

theorem sums_ok {s : Cx} {t : List Cx} {k : Nat} (hk : k < t.length) (h0 : (sums s (t.take k)).2 = 0) (h : (add (sums s (t.take k)).1 t[k]).2 = 0) : sums s (t.take (k + 1)) = add (sums s (t.take k)).1 t[k] := by
  rw [List.take_succ_eq_append_getElem hk, sums_snoc, addS, if_neg (by simp [h0]), if_neg (by simp [h])]

theorem sums_bad {s : Cx} {t : List Cx} {k : Nat} (hk : k < t.length) (h0 : (sums s (t.take k)).2 = 0) (h : (add (sums s (t.take k)).1 t[k]).2 ≠ 0) : sums s t = (c0, (add (sums s (t.take k)).1 t[k]).2) := by
  have e : t = t.take (k + 1) ++ t.drop (k + 1) := (List.take_append_drop _ _).symm
  have e2 : sums s (t.take (k + 1)) = (c0, (add (sums s (t.take k)).1 t[k]).2) := by
    rw [List.take_succ_eq_append_getElem hk, sums_snoc, addS, if_neg (by simp [h0]), if_pos h]
  have e3 : sums s t = sums s (t.take (k + 1) ++ t.drop (k + 1)) := by rw [← e]
  rw [e3, sums_app, addS_bad (by rw [e2]; exact h), e2]

theorem add_ok {a b : Cx} (ha : a.valid) (hb : b.valid) (h : (add a b).2 = 0) : (add a b).1 = norm (a.re * b.den + b.re * a.den) (a.im * b.den + b.im * a.den) (a.den * b.den) ∧ (add a b).1.valid := by
  have e : add a b = make (a.re * b.den + b.re * a.den) (a.im * b.den + b.im * a.den) (a.den * b.den) := by rw [add, if_pos ⟨ha, hb⟩]
  rw [e] at h ⊢
  have hp : 0 < a.den * b.den := mul_pos' ha.1 hb.1
  obtain ⟨h1, h2⟩ := make_ok hp h
  rw [h1]
  exact ⟨rfl, h2⟩

theorem add_err {a b : Cx} (ha : a.valid) (hb : b.valid) : (add a b).2 = 0 ∨ add a b = (c0, 16) := by
  unfold add
  rw [if_pos ⟨ha, hb⟩]
  exact make_err _ _ _

theorem sums_valid {s : Cx} (hs : s.valid) : ∀ {l : List Cx}, (∀ a ∈ l, a.valid) → (sums s l).2 = 0 → (sums s l).1.valid := by
  intro l hl h0
  have : ∀ k, k ≤ l.length → (sums s (l.take k)).2 = 0 ∧ (sums s (l.take k)).1.valid ∨ sums s l = (sums s (l.take k)) ∧ (sums s (l.take k)).2 ≠ 0 := by
    intro k
    induction k with
    | zero => intro _; exact .inl ⟨rfl, hs⟩
    | succ k ih =>
      intro hk
      have e : l = l.take (k + 1) ++ l.drop (k + 1) := (List.take_append_drop _ _).symm
      rcases ih (by omega) with ⟨h1, h2⟩ | ⟨h1, h2⟩
      · by_cases hz : (add (sums s (l.take k)).1 l[k]).2 = 0
        · rw [sums_ok (by omega) h1 hz]
          exact .inl ⟨hz, (add_ok h2 (hl _ (List.getElem_mem _)) hz).2⟩
        · have := sums_bad (by omega) h1 hz
          rw [this] at h0
          exact absurd h0 hz
      · rw [h1] at h0; exact absurd h0 h2
  rcases this l.length (Nat.le_refl _) with ⟨_, h⟩ | ⟨_, h⟩
  · rwa [List.take_length] at h
  · rw [List.take_length] at h; exact absurd h0 h

def numC (n : Nat) : Cx := ⟨n, 0, 1⟩

def finC (s : Cx) (n : Nat) : Cx × Int := if (div s (numC n)).2 ≠ 0 then (c0, (div s (numC n)).2) else if (div s (numC n)).1.zero then (c0, 18) else ((div s (numC n)).1, 0)

def avg (l : List Cx) : Cx × Int := if (sums (l.headD c0) l.tail).2 ≠ 0 then (c0, (sums (l.headD c0) l.tail).2) else finC (sums (l.headD c0) l.tail).1 l.length

/-- The first error. -/
def ferr {α : Type} (f : Nat → α × Int) : Nat → Int
  | 0 => 0
  | n + 1 => if ferr f n ≠ 0 then ferr f n else (f n).2

theorem ferr_bad {α : Type} {f : Nat → α × Int} {c m : Nat} (hc : c < m) (h0 : ferr f c = 0) (h : (f c).2 ≠ 0) : ferr f m = (f c).2 := by
  induction m with
  | zero => omega
  | succ m ih =>
    by_cases hm : c = m
    · subst hm; rw [ferr, if_neg (by simp [h0])]
    · rw [ferr, ih (by omega), if_pos h]

theorem ferr_0 {α : Type} {f : Nat → α × Int} {m : Nat} : ferr f m = 0 ↔ ∀ c, c < m → (f c).2 = 0 := by
  induction m with
  | zero => exact ⟨fun _ c hc => by omega, fun _ => rfl⟩
  | succ m ih =>
    rw [ferr]
    constructor
    · intro h c hc
      split at h
      · rename_i h1; exact absurd h h1
      · rename_i h1
        by_cases hm : c = m
        · subst hm; exact h
        · exact ih.1 (by simpa using h1) c (by omega)
    · intro h
      rw [if_neg (by rw [ih.2 fun c hc => h c (by omega)]; simp)]
      exact h m (by omega)

def gath {α : Type} (f : Nat → α × Int) (n : Nat) : List α × Int := if ferr f n = 0 then ((List.range n).map fun i => (f i).1, 0) else ([], ferr f n)

theorem ferr_congr {α : Type} {f g : Nat → α × Int} : ∀ {n : Nat}, (∀ i, i < n → f i = g i) → ferr f n = ferr g n
  | 0, _ => rfl
  | n + 1, h => by rw [ferr, ferr, ferr_congr fun i hi => h i (by omega), h n (by omega)]

theorem gath_congr {α : Type} {f g : Nat → α × Int} {n : Nat} (h : ∀ i, i < n → f i = g i) : gath f n = gath g n := by
  rw [gath, gath, ferr_congr h]
  split
  · congr 1
    apply List.map_congr_left
    intro i hi
    rw [h i (List.mem_range.1 hi)]
  · rfl

def means (r : List Cx) (w : Nat) : List Cx × Int := gath (fun j => avg (cutR r (j * w) (j * w + w))) (r.length / w)

def bmean (b : List (List Cx)) (w : Int) : List (List Cx) × Int :=
  if ck32 b ≠ 0 then ([], ck32 b) else if w < 1 ∨ ((row0 b).length : Int) % w ≠ 0 then ([], 2) else gath (fun i => means (rw32 b i) w.toNat) b.length

/-! ### Spectra -/

structure Spec where
  i : Int
  j : Int
  v : List Cx
  n : Int
deriving DecidableEq

instance : Enc Spec where
  sz := 4
  cs l := [i64 l.i, i64 l.j, sl l.v, i64 l.n]
  ok l := I64 l.i ∧ I64 l.j ∧ Enc.ok l.v ∧ I64 l.n
  len _ := rfl
  pos := by decide

abbrev sp (l : Spec) : PV := .agg [i64 l.i, i64 l.j, sl l.v, i64 l.n]

def Spec.good (s : Spec) (n m : Int) : Prop := 0 ≤ s.i ∧ s.i < s.j ∧ s.j < n ∧ 0 ≤ s.n ∧ (s.v.length : Int) = m ∧ ∀ c ∈ s.v, c.valid
instance (s : Spec) (n m : Int) : Decidable (s.good n m) := by unfold Spec.good; infer_instance

def all32 (l : List Spec) (n m : Int) : Int := if 64 < l.length then 4 else if ∀ s ∈ l, s.good n m then 0 else 8

theorem all32_0 {l : List Spec} {n m : Int} (h : all32 l n m = 0) : l.length ≤ 64 ∧ ∀ s ∈ l, s.good n m := by
  unfold all32 at h
  split at h
  · omega
  · split at h
    · rename_i h1 h2; exact ⟨by omega, h2⟩
    · omega

def Spec.vis (s : Spec) (c : Nat) : Vis := ⟨s.i, s.j, gat s.v c, s.n⟩
def Spec.set (s : Spec) (v : List Cx) : Spec := ⟨s.i, s.j, v, s.n⟩

/-- What a bandpass makes of a spectrum's channel. -/
def sact (b : List (List Cx)) (s : Spec) (c : Nat) : Cx × Int := act1 (col32 b c) (s.vis c)

def bact (b : List (List Cx)) (l : List Spec) : List Spec × Int :=
  if ck32 b ≠ 0 then ([], ck32 b) else if all32 l b.length (row0 b).length ≠ 0 then ([], all32 l b.length (row0 b).length) else
  if ∀ s ∈ l, ∀ c, c < (row0 b).length → (sact b s c).2 = 0 then (l.map fun s => s.set ((List.range (row0 b).length).map fun c => (sact b s c).1), 0) else ([], 16)

abbrev resSs (r : List Spec × Int) : SV := .tup [.p (sl r.1), .p (i64 r.2)]
/-- Spectra while they are built: their heads, and the channels there are. -/
def spNs (e : Nat) (h : Nat → Spec) (m : Nat → List Cx) (n : Nat) : List NC := (List.range n).flatMap fun j => [.pu (i64 (h j).i), .pu (i64 (h j).j), .ow e 3 (m j).length (flat (m j)), .pu (i64 (h j).n)]

theorem spNs_succ (e : Nat) (h : Nat → Spec) (m : Nat → List Cx) (n : Nat) : spNs e h m (n + 1) = spNs e h m n ++ [.pu (i64 (h n).i), .pu (i64 (h n).j), .ow e 3 (m n).length (flat (m n)), .pu (i64 (h n).n)] := by
  simp [spNs, List.range_succ]

theorem spNs_len (e : Nat) (h : Nat → Spec) (m : Nat → List Cx) : ∀ n : Nat, (spNs e h m n).length = n * 4
  | 0 => rfl
  | n + 1 => by rw [spNs_succ, List.length_append, spNs_len e h m n]; simp; omega

theorem spNs_get {e : Nat} {h : Nat → Spec} {m : Nat → List Cx} {k : Nat} : ∀ {n : Nat}, k < n → (spNs e h m n)[k * 4 + 2]? = some (.ow e 3 (m k).length (flat (m k)))
  | 0, hk => by omega
  | n + 1, hk => by
    rw [spNs_succ]
    by_cases hn : k = n
    · subst hn
      rw [List.getElem?_append_right (by rw [spNs_len]; omega), spNs_len]
      simp
    · rw [List.getElem?_append_left (by rw [spNs_len]; omega)]
      exact spNs_get (by omega)

theorem spNs_congr {e : Nat} {h : Nat → Spec} {m m' : Nat → List Cx} : ∀ {n : Nat}, (∀ j, j < n → m j = m' j) → spNs e h m n = spNs e h m' n
  | 0, _ => rfl
  | n + 1, hm => by rw [spNs_succ, spNs_succ, spNs_congr fun j hj => hm j (by omega), hm n (by omega)]

theorem spNs_set {e : Nat} {h : Nat → Spec} {m : Nat → List Cx} {k : Nat} {r : List Cx} : ∀ {n : Nat}, k < n → (spNs e h m n).set (k * 4 + 2) (.ow e 3 r.length (flat r)) = spNs e h (fun j => if j = k then r else m j) n
  | 0, hk => by omega
  | n + 1, hk => by
    rw [spNs_succ, spNs_succ, List.set_append, spNs_len]
    by_cases hn : k = n
    · subst hn
      rw [if_neg (by omega), show k * 4 + 2 - k * 4 = 2 by omega, if_pos rfl, spNs_congr (m := m) (m' := fun j => if j = k then r else m j) fun j hj => by rw [if_neg (by omega)]]
      rfl
    · rw [if_pos (by omega), spNs_set (by omega), if_neg (by omega)]

theorem spNs_pv {e : Nat} {h : Nat → Spec} {m : Nat → List Cx} : ∀ {n : Nat}, (spNs e h m n).map ncP = flat ((List.range n).map fun j => (h j).set (m j))
  | 0 => rfl
  | n + 1 => by
    rw [spNs_succ, List.map_append, spNs_pv, List.range_succ, List.map_append, List.map_singleton, flat_snoc]
    rfl

def dSp : Spec := ⟨0, 0, [], 0⟩
def gsp (l : List Spec) (k : Nat) : Spec := l.getD k dSp
theorem gsp_get {l : List Spec} {k : Nat} (h : k < l.length) : gsp l k = l[k] := by simp [gsp, h]

/-- The first c channels of spectrum j. -/
def chan (b : List (List Cx)) (l : List Spec) (c j : Nat) : List Cx := (List.range c).map fun c' => (sact b (gsp l j) c').1
theorem chan_succ (b : List (List Cx)) (l : List Spec) (c j : Nat) : chan b l (c + 1) j = chan b l c j ++ [(sact b (gsp l j) c).1] := by simp [chan, List.range_succ]
theorem chan_length (b : List (List Cx)) (l : List Spec) (c j : Nat) : (chan b l c j).length = c := by simp [chan]

theorem chan_all {b : List (List Cx)} {l : List Spec} {m : Nat} : ((List.range l.length).map fun j => (gsp l j).set (chan b l m j)) = l.map fun s => s.set ((List.range m).map fun c => (sact b s c).1) := by
  apply List.ext_getElem
  · simp
  · intro j h1 h2
    have hj : j < l.length := by simpa using h1
    simp [gsp_get hj, chan]

theorem act26_of {g : List Cx} {l : List Vis} (h1 : ck26 g = 0) (h2 : all26 l g.length = 0) : act26 g l = if l.all (fun v => (act1 g v).2 = 0) then (l.map fun v => v.set (act1 g v).1, 0) else ([], 16) := by
  rw [act26, if_neg (by simp [h1]), if_neg (by simp [h2])]

theorem vis_all {b : List (List Cx)} {l : List Spec} {c : Nat} (h : all32 l b.length (row0 b).length = 0) (hc : c < (row0 b).length) : all26 (l.map fun s => s.vis c) (col32 b c).length = 0 := by
  obtain ⟨h1, h2⟩ := all32_0 h
  unfold all26
  rw [if_neg (by simp; omega), if_pos]
  rw [List.all_eq_true]
  intro v hv
  rw [List.mem_map] at hv
  obtain ⟨s, hs, rfl⟩ := hv
  obtain ⟨g1, g2, g3, g4, g5, g6⟩ := h2 s hs
  have hl : c < s.v.length := by omega
  simp only [decide_eq_true_iff, Vis.good, Spec.vis, col32_length, gat_get hl]
  exact ⟨g1, g2, g3, g4, g6 _ (List.getElem_mem hl)⟩

/-- What the channel's gains make of the channel's visibilities. -/
theorem act_chan {b : List (List Cx)} {l : List Spec} {c : Nat} (hb : ck32 b = 0) (h : all32 l b.length (row0 b).length = 0) (hc : c < (row0 b).length) :
    ((act26 (col32 b c) (l.map fun s => s.vis c)).2 ≠ 0 → (act26 (col32 b c) (l.map fun s => s.vis c)).2 = 16 ∧ bact b l = ([], 16)) ∧
    ((act26 (col32 b c) (l.map fun s => s.vis c)).2 = 0 → (∀ s ∈ l, (sact b s c).2 = 0) ∧ (act26 (col32 b c) (l.map fun s => s.vis c)).1 = l.map fun s => (s.vis c).set (sact b s c).1) := by
  rw [act26_of (col32_ck hb hc) (vis_all h hc)]
  by_cases hall : ∀ s ∈ l, (sact b s c).2 = 0
  · rw [if_pos]
    · exact ⟨fun h => absurd rfl h, fun _ => ⟨hall, by rw [List.map_map]; rfl⟩⟩
    · rw [List.all_eq_true]
      intro v hv
      rw [List.mem_map] at hv
      obtain ⟨s, hs, rfl⟩ := hv
      simpa [sact] using hall s hs
  · rw [if_neg]
    · refine ⟨fun _ => ⟨rfl, ?_⟩, fun h => absurd h (by decide)⟩
      rw [bact, if_neg (by simp [hb]), if_neg (by simp [h]), if_neg]
      exact fun q => hall fun s hs => q s hs c hc
    · intro q
      apply hall
      intro s hs
      rw [List.all_eq_true] at q
      simpa [sact] using q (s.vis c) (List.mem_map.2 ⟨s, hs, rfl⟩)
end Go.Pv

/- Bandpasses: the same answers, element by element. -/
namespace Go.Pv

theorem ck32_8 {b : List (List Cx)} (h1 : b.length ≤ 8) (h2 : ∀ r ∈ b, r.length ≤ 16) (h3 : 0 < b.length) (h4 : 0 < (row0 b).length) (h : (∃ r ∈ b, r.length ≠ (row0 b).length) ∨ ∃ r ∈ b, ∃ c ∈ r, ¬ okG c) : ck32 b = 8 := by
  unfold ck32
  rw [if_neg (by omega), if_neg (by rintro ⟨r, hr, h⟩; have := h2 r hr; omega), if_neg (by omega)]
  split
  · rfl
  · rename_i h5
    rcases h with h | ⟨r, hr, c, hc, h⟩
    · exact absurd h h5
    · rw [if_neg fun q => h (q r hr c hc)]

theorem ck32_ok {b : List (List Cx)} (h1 : b.length ≤ 8) (h2 : ∀ r ∈ b, r.length ≤ 16) (h3 : 0 < b.length) (h4 : 0 < (row0 b).length) (h5 : ∀ r ∈ b, r.length = (row0 b).length) (h6 : ∀ r ∈ b, ∀ c ∈ r, okG c) : ck32 b = 0 := by
  unfold ck32
  rw [if_neg (by omega), if_neg (by rintro ⟨r, hr, h⟩; have := h2 r hr; omega), if_neg (by omega), if_neg (by rintro ⟨r, hr, h⟩; exact h (h5 r hr)), if_pos h6]

theorem all32_8 {l : List Spec} {n m : Int} (h1 : l.length ≤ 64) {s : Spec} (hs : s ∈ l) (h : ¬ s.good n m) : all32 l n m = 8 := by
  rw [all32, if_neg (by omega), if_neg fun q => h (q s hs)]

/-- A bandpass, number by number. -/
def grid (n m : Nat) (f : Nat → Nat → Cx × Int) : List (List Cx) × Int :=
  if ∀ i, i < n → ∀ c, c < m → (f i c).2 = 0 then ((List.range n).map fun i => (List.range m).map fun c => (f i c).1, 0) else ([], 16)

theorem grid_bad {n m : Nat} {f : Nat → Nat → Cx × Int} {i c : Nat} (hi : i < n) (hc : c < m) (h : (f i c).2 ≠ 0) : grid n m f = ([], 16) := by
  rw [grid, if_neg fun q => h (q i hi c hc)]
theorem grid_ok {n m : Nat} {f : Nat → Nat → Cx × Int} (h : ∀ i, i < n → ∀ c, c < m → (f i c).2 = 0) : grid n m f = ((List.range n).map fun i => (List.range m).map fun c => (f i c).1, 0) := by
  rw [grid, if_pos h]

theorem grid_congr {n m : Nat} {f g : Nat → Nat → Cx × Int} (h : ∀ i, i < n → ∀ c, c < m → f i c = g i c) : grid n m f = grid n m g := by
  by_cases hz : ∀ i, i < n → ∀ c, c < m → (f i c).2 = 0
  · rw [grid_ok hz, grid_ok fun i hi c hc => by rw [← h i hi c hc]; exact hz i hi c hc]
    congr 1
    apply List.map_congr_left
    intro i hi
    apply List.map_congr_left
    intro c hc
    rw [h i (List.mem_range.1 hi) c (List.mem_range.1 hc)]
  · rw [grid, if_neg hz, grid, if_neg fun q => hz fun i hi c hc => by rw [h i hi c hc]; exact q i hi c hc]

theorem built_grid {n m : Nat} {col : Nat → List Cx × Int} {f : Nat → Nat → Cx × Int} (h1 : ∀ c, c < m → ((col c).2 = 0 ↔ ∀ i, i < n → (f i c).2 = 0)) (h2 : ∀ c, c < m → (col c).2 = 0 ∨ (col c).2 = 16)
    (h3 : ∀ c, c < m → (col c).2 = 0 → ∀ i, i < n → gat (col c).1 i = (f i c).1) : built n m col = grid n m f := by
  by_cases hz : ∀ c, c < m → (col c).2 = 0
  · have hb : berr col m = 0 := by
      clear h1 h2 h3
      induction m with
      | zero => rfl
      | succ m ih => rw [berr, ih fun c hc => hz c (by omega)]; simpa using hz m (by omega)
    rw [built, if_pos hb, grid_ok fun i hi c hc => (h1 c hc).1 (hz c hc) i hi]
    congr 1
    apply List.map_congr_left
    intro i hi
    unfold brow
    apply List.map_congr_left
    intro c hc
    exact h3 c (List.mem_range.1 hc) (hz c (List.mem_range.1 hc)) i (List.mem_range.1 hi)
  · have hex : ∃ c, c < m ∧ (col c).2 ≠ 0 := by
      obtain ⟨c, h⟩ := Classical.not_forall.1 hz
      obtain ⟨hc, h⟩ := Classical.not_imp.1 h
      exact ⟨c, hc, h⟩
    have hb : berr col m = 16 := by
      clear h1 h3 hz
      induction m with
      | zero => obtain ⟨c, hc, _⟩ := hex; omega
      | succ m ih =>
        rw [berr]
        by_cases h0 : berr col m = 0
        · rw [if_neg (by simp [h0])]
          obtain ⟨c, hc, h⟩ := hex
          by_cases e : c = m
          · subst e; rcases h2 c (by omega) with h' | h'
            · exact absurd h' h
            · exact h'
          · have := ih (fun c hc => h2 c (by omega)) ⟨c, by omega, h⟩
            rw [this] at h0; simp at h0
        · rw [if_pos h0]
          have hex' : ∃ c, c < m ∧ (col c).2 ≠ 0 := by
            refine Classical.byContradiction fun hn => h0 ?_
            clear ih hex
            have hn' : ∀ c, c < m → (col c).2 = 0 := fun c hc => Classical.byContradiction fun q => hn ⟨c, hc, q⟩
            clear hn h0 h2
            induction m with
            | zero => rfl
            | succ m ih => rw [berr, ih fun c hc => hn' c (by omega)]; simpa using hn' m (by omega)
          exact ih (fun c hc => h2 c (by omega)) hex'
    obtain ⟨c, hc, h⟩ := hex
    rw [built, if_neg (by rw [hb]; decide), hb]
    have : ¬ ∀ i, i < n → (f i c).2 = 0 := fun q => h ((h1 c hc).2 q)
    obtain ⟨i, h'⟩ := Classical.not_forall.1 this
    obtain ⟨hi, h'⟩ := Classical.not_imp.1 h'
    rw [grid_bad hi hc h']

theorem prods_gat {m : Cx → Cx → Cx × Int} {u v : Nat → Cx} {n i : Nat} (h : (prods m u v n).2 = 0) (hi : i < n) : gat (prods m u v n).1 i = (m (u i) (v i)).1 := by
  unfold prods at h ⊢
  split
  · simp [gat, hi]
  · rename_i h1
    rw [if_neg h1] at h
    exact absurd h h1

theorem prods_0 {m : Cx → Cx → Cx × Int} {u v : Nat → Cx} {n : Nat} : (prods m u v n).2 = 0 ↔ ∀ i, i < n → (m (u i) (v i)).2 = 0 := by
  rw [← perr_0]
  unfold prods
  split
  · rename_i h; simp [h]
  · rfl

theorem prods_e16 {m : Cx → Cx → Cx × Int} {u v : Nat → Cx} {n : Nat} (hm : ∀ k, k < n → (m (u k) (v k)).2 = 0 ∨ m (u k) (v k) = (c0, 16)) : (prods m u v n).2 = 0 ∨ (prods m u v n).2 = 16 := by
  unfold prods
  split
  · exact .inl rfl
  · exact perr_16 hm

theorem bmul_grid {a b : List (List Cx)} (h0 : both32 a b = 0) (h1 : a.length = b.length) (h2 : (row0 a).length = (row0 b).length) : bmul a b = grid a.length (row0 a).length fun i c => mul (gat (rw32 a i) c) (gat (rw32 b i) c) := by
  obtain ⟨ka, kb⟩ := both32_0 h0
  rw [bmul, if_neg (by simp [h0]), if_neg (by omega)]
  have key : ∀ c, c < (row0 a).length → tmul (col32 a c) (col32 b c) = prods mul (gat (col32 a c)) (gat (col32 b c)) a.length := fun c hc => by
    have e1 := col32_ck ka hc
    have e2 := col32_ck kb (show c < (row0 b).length by omega)
    rw [tmul, if_neg, col32_length]
    rw [both26, if_neg (by simp [e1]), if_neg (by simp [e2]), if_neg (by rw [col32_length, col32_length]; omega)]
    simp
  have gv : ∀ c, c < (row0 a).length → ∀ i, i < a.length → (gat (col32 a c) i).valid ∧ (gat (col32 b c) i).valid := fun c hc i hi =>
    ⟨(gat_valid (col32_ck ka hc) (by rw [col32_length]; exact hi)).1, (gat_valid (col32_ck kb (by omega)) (by rw [col32_length]; omega)).1⟩
  apply built_grid
  · intro c hc
    rw [key c hc, prods_0]
    constructor
    · intro h i hi
      have := h i hi
      rwa [col32_gat hi, col32_gat (by omega), ← rw32_get hi, ← rw32_get (by omega)] at this
    · intro h i hi
      rw [col32_gat hi, col32_gat (by omega), ← rw32_get hi, ← rw32_get (by omega)]
      exact h i hi
  · intro c hc
    rw [key c hc]
    exact prods_e16 fun i hi => mul_err (gv c hc i hi).1 (gv c hc i hi).2
  · intro c hc hz i hi
    rw [key c hc] at hz ⊢
    rw [prods_gat hz hi, col32_gat hi, col32_gat (by omega), ← rw32_get hi, ← rw32_get (by omega)]

theorem div_e16 {a b : Cx} (ha : a.valid) (hb : b.valid) (hz : ¬ b.zero) : (div a b).2 = 0 ∨ div a b = (c0, 16) := by
  unfold div
  rw [if_pos ⟨ha, hb⟩, if_neg hz]
  exact make_err _ _ _

theorem one_valid : one.valid := by decide +kernel

theorem binv_grid {b : List (List Cx)} (h0 : ck32 b = 0) : binv b = grid b.length (row0 b).length fun i c => div one (gat (rw32 b i) c) := by
  rw [binv, if_neg (by simp [h0])]
  have key : ∀ c, c < (row0 b).length → tinv (col32 b c) = prods div (fun _ => one) (gat (col32 b c)) b.length := fun c hc => by
    rw [tinv, if_neg (by simp [col32_ck h0 hc]), col32_length]
  apply built_grid
  · intro c hc
    rw [key c hc, prods_0]
    constructor
    · intro h i hi
      have := h i hi
      rwa [col32_gat hi, ← rw32_get hi] at this
    · intro h i hi
      rw [col32_gat hi, ← rw32_get hi]
      exact h i hi
  · intro c hc
    rw [key c hc]
    exact prods_e16 fun i hi => div_e16 one_valid (gat_valid (col32_ck h0 hc) (by rw [col32_length]; exact hi)).1 (gat_valid (col32_ck h0 hc) (by rw [col32_length]; exact hi)).2
  · intro c hc hz i hi
    rw [key c hc] at hz ⊢
    rw [prods_gat hz hi, col32_gat hi, ← rw32_get hi]

theorem bflat_grid {g : List Cx} {n : Nat} (h0 : ck26 g = 0) (h1 : 1 ≤ n) (h2 : n ≤ 16) : bflat g n = grid g.length n fun i _ => (gat g i, 0) := by
  rw [bflat, if_neg (by simp [h0]), if_neg (by omega)]
  apply built_grid
  · intro c hc; simp
  · intro c hc; exact .inl rfl
  · intro c hc hz i hi; rfl

/-! ### Averages: the sum begins with 0 -/

def cz : Cx := ⟨0, 0, 1⟩
theorem cz_valid : cz.valid := by decide +kernel

theorem add_cz {a : Cx} (h : a.valid) : add cz a = (a, 0) := by
  rw [add, if_pos ⟨cz_valid, h⟩]
  have hp : 0 < a.den := by have := h.1; omega
  have e1 : cz.re * a.den + a.re * cz.den = a.re := by simp [cz]
  have e2 : cz.im * a.den + a.im * cz.den = a.im := by simp [cz]
  have e3 : cz.den * a.den = a.den := by simp [cz]
  rw [e1, e2, e3, make_valid hp, norm_low hp h.2.2.2.2, if_pos h]

theorem sums_cz {l : List Cx} (h0 : 0 < l.length) (h : ∀ c ∈ l, c.valid) : sums cz l = sums (l.headD c0) l.tail := by
  cases l with
  | nil => simp at h0
  | cons a r =>
    have ha := h a List.mem_cons_self
    show (a :: r).foldl addS (cz, 0) = r.foldl addS (a, 0)
    rw [List.foldl_cons, addS, if_neg (by simp), if_neg (by rw [add_cz ha]; simp), add_cz ha]

theorem sums_16 {s : Cx} {t : List Cx} {k : Nat} (hs : s.valid) (ht : ∀ c ∈ t, c.valid) (hk : k < t.length) (h0 : (sums s (t.take k)).2 = 0) (h : (add (sums s (t.take k)).1 t[k]).2 ≠ 0) : sums s t = (c0, 16) := by
  rw [sums_bad hk h0 h]
  have hv := sums_valid hs (l := t.take k) (fun c hc => ht c (List.mem_of_mem_take hc)) h0
  rcases add_err hv (ht _ (List.getElem_mem hk)) with h' | h'
  · exact absurd h' h
  · rw [h']
end Go.Pv
namespace Go.Pv

def gr32 (b : List (List Cx)) (l : List Spec) : Prop := (∃ r ∈ b, 70 < r.length) ∨ (∃ s ∈ l, 70 < s.v.length) ∨ 70 < b.length ∨ 70 < l.length
instance (b : List (List Cx)) (l : List Spec) : Decidable (gr32 b l) := by unfold gr32; infer_instance

theorem at_col {b : List (List Cx)} {c p : Nat} (hp : p < b.length) (hc : c < b[p].length) : at_ (col32 b c) p = b[p][c] := by
  rw [at_get (by rw [col32_length]; exact hp)]
  simp [col32, gat_get hc]

theorem sact_of {b : List (List Cx)} {s : Spec} {c p q : Nat} (hp : p < b.length) (hq : q < b.length) (ei : s.i = p) (ej : s.j = q) (hcp : c < b[p].length) (hcq : c < b[q].length) (hv : c < s.v.length) :
    sact b s c = if (mul b[p][c] s.v[c]).2 ≠ 0 then (c0, 16) else if (mul (mul b[p][c] s.v[c]).1 (conj b[q][c])).2 ≠ 0 then (c0, 16) else mul (mul b[p][c] s.v[c]).1 (conj b[q][c]) := by
  unfold sact act1 Spec.vis
  simp only [ei, ej, at_col hp hcp, at_col hq hcq, gat_get hv]

theorem bact_bad {b : List (List Cx)} {l : List Spec} (hb : ck32 b = 0) (hl : all32 l b.length (row0 b).length = 0) {s : Spec} (hs : s ∈ l) {c : Nat} (hc : c < (row0 b).length) (h : (sact b s c).2 ≠ 0) : bact b l = ([], 16) := by
  rw [bact, if_neg (by simp [hb]), if_neg (by simp [hl]), if_neg fun q => h (q s hs c hc)]
theorem bact_ok {b : List (List Cx)} {l : List Spec} (hb : ck32 b = 0) (hl : all32 l b.length (row0 b).length = 0) (h : ∀ s ∈ l, ∀ c, c < (row0 b).length → (sact b s c).2 = 0) : bact b l = (l.map fun s => s.set ((List.range (row0 b).length).map fun c => (sact b s c).1), 0) := by
  rw [bact, if_neg (by simp [hb]), if_neg (by simp [hl]), if_pos h]
end Go.Pv
namespace Go.Pv

def sz32 (x : List (List Cx)) : Prop := x.length ≤ 1000 ∧ ∀ r ∈ x, r.length ≤ 1000

theorem sz_nil : sz32 [] := ⟨by simp, fun r h => by simp at h⟩

theorem sz_built {n m : Nat} {col : Nat → List Cx × Int} (hn : n ≤ 8) (hm : m ≤ 16) : sz32 (built n m col).1 := by
  unfold built
  split
  · refine ⟨by simp; omega, fun r hr => ?_⟩
    rw [List.mem_map] at hr
    obtain ⟨j, _, rfl⟩ := hr
    rw [brow_length]; omega
  · exact sz_nil

theorem sz_mul (a b : List (List Cx)) : sz32 (bmul a b).1 := by
  unfold bmul
  split
  · exact sz_nil
  · rename_i h
    have ka := both32_0 (Classical.not_not.1 h)
    obtain ⟨a1, a2, a3, a4, _, _⟩ := ck32_0 ka.1
    split
    · exact sz_nil
    · exact sz_built a1 a4

theorem sz_inv (a : List (List Cx)) : sz32 (binv a).1 := by
  unfold binv
  split
  · exact sz_nil
  · rename_i h
    obtain ⟨a1, a2, a3, a4, _, _⟩ := ck32_0 (Classical.not_not.1 h)
    exact sz_built a1 a4

theorem sz_flat (g : List Cx) (n : Int) : sz32 (bflat g n).1 := by
  unfold bflat
  split
  · exact sz_nil
  · rename_i h
    obtain ⟨a1, a2, a3⟩ := ck26_0 (Classical.not_not.1 h)
    split
    · exact sz_nil
    · exact sz_built a1 (by omega)

theorem sz_cut {b : List (List Cx)} (h : ck32 b = 0) (p q : Nat) : sz32 (cut32 b p q) := by
  obtain ⟨a1, a2, a3, a4, a5, _⟩ := ck32_0 h
  refine ⟨by simp [cut32]; omega, fun r hr => ?_⟩
  rw [cut32, List.mem_map] at hr
  obtain ⟨x, hx, rfl⟩ := hr
  have := a5 x hx
  rw [cutR, List.length_take, List.length_drop]
  omega

theorem sz_split (b : List (List Cx)) (n : Int) : sz32 (bsplit b n).1 ∧ sz32 (bsplit b n).2.1 := by
  unfold bsplit
  split
  · exact ⟨sz_nil, sz_nil⟩
  · rename_i h
    split
    · exact ⟨sz_nil, sz_nil⟩
    · exact ⟨sz_cut (Classical.not_not.1 h) _ _, sz_cut (Classical.not_not.1 h) _ _⟩

theorem rw_len {b : List (List Cx)} (h : ck32 b = 0) (j : Nat) : (rw32 b j).length ≤ 16 := by
  obtain ⟨a1, a2, a3, a4, a5, _⟩ := ck32_0 h
  by_cases hj : j < b.length
  · rw [rw32_get hj, a5 _ (List.getElem_mem hj)]; exact a4
  · simp [rw32, Nat.le_of_not_lt hj]

theorem sz_join (a b : List (List Cx)) : sz32 (bjoin a b).1 := by
  unfold bjoin
  split
  · exact sz_nil
  · rename_i h
    have ka := both32_0 (Classical.not_not.1 h)
    obtain ⟨a1, a2, a3, a4, _, _⟩ := ck32_0 ka.1
    split
    · exact sz_nil
    · split
      · exact sz_nil
      · refine ⟨by simp [jn]; omega, fun r hr => ?_⟩
        rw [jn, List.mem_map] at hr
        obtain ⟨j, _, rfl⟩ := hr
        have h1 := rw_len ka.1 j
        have h2 := rw_len ka.2 j
        rw [List.length_append]; omega

theorem gath_len {α : Type} (f : Nat → α × Int) (n : Nat) : (gath f n).1.length ≤ n := by
  unfold gath
  split <;> simp

theorem sz_mean (b : List (List Cx)) (w : Int) : sz32 (bmean b w).1 := by
  unfold bmean
  split
  · exact sz_nil
  · rename_i h
    obtain ⟨a1, a2, a3, a4, _, _⟩ := ck32_0 (Classical.not_not.1 h)
    split
    · exact sz_nil
    · refine ⟨Nat.le_trans (gath_len _ _) (by omega), fun r hr => ?_⟩
      unfold gath at hr
      split at hr
      · rw [List.mem_map] at hr
        obtain ⟨i, _, rfl⟩ := hr
        refine Nat.le_trans (gath_len _ _) ?_
        have := rw_len (Classical.not_not.1 h) i
        have h2 := Nat.div_le_self (rw32 b i).length w.toNat
        omega
      · simp at hr

theorem sz_act (b : List (List Cx)) (l : List Spec) : (bact b l).1.length ≤ 1000 ∧ ∀ s ∈ (bact b l).1, s.v.length ≤ 1000 := by
  unfold bact
  split
  · simp
  · rename_i h
    obtain ⟨a1, a2, a3, a4, _, _⟩ := ck32_0 (Classical.not_not.1 h)
    split
    · simp
    · rename_i h2
      obtain ⟨l1, _⟩ := all32_0 (Classical.not_not.1 h2)
      split
      · refine ⟨by simp; omega, fun s hs => ?_⟩
        rw [List.mem_map] at hs
        obtain ⟨s', _, rfl⟩ := hs
        simp [Spec.set]; omega
      · simp
end Go.Pv
