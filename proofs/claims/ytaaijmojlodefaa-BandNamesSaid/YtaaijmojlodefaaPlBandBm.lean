/- Bandpasses: parts, averages, spectra; the plain functions. -/
import Derived.Test.YtaaijmojlodefaaPlCxm
namespace Go.Pv

theorem succ_w3 {k : Nat} (h : k < 9223372036854775807) : IntKind.i64.wrap ((k : Int) + 1) = ((k + 1 : Nat) : Int) := by
  rw [wrap_id (by omega) (by omega)]; simp

theorem idx_part {α : Type} [Enc α] {xs : List α} {a b i : Nat} (hb : b ≤ xs.length) (hi : i < b - a) : ((((flat xs).drop (a * Enc.sz α)).take ((b - a) * Enc.sz α)).drop (i * Enc.sz α)).take (Enc.sz α) = Enc.cs (xs[a + i]'(by omega)) := by
  rw [flat_part]
  rw [idx (by rw [List.length_take, List.length_drop]; omega)]
  simp

/-- The channels from p on up to q. -/
def cutR (r : List Cx) (p q : Nat) : List Cx := (r.drop p).take (q - p)
def cut32 (b : List (List Cx)) (p q : Nat) : List (List Cx) := b.map fun r => cutR r p q

theorem cutR_length {r : List Cx} {p q : Nat} (h : q ≤ r.length) : (cutR r p q).length = q - p := by
  rw [cutR, List.length_take, List.length_drop]; omega

def partN (e : Nat) (b : List (List Cx)) (p q : Nat) : List NC := b.map fun r => .ow e 3 (q - p) (flat (cutR r p q))

theorem partN_succ {e : Nat} {b : List (List Cx)} {p q k : Nat} (h : k < b.length) : partN e (b.take k) p q ++ [.ow e 3 (q - p) (flat (cutR b[k] p q))] = partN e (b.take (k + 1)) p q := by
  rw [List.take_succ_eq_append_getElem h]; unfold partN; rw [List.map_append]; rfl

def bsplit (b : List (List Cx)) (n : Int) : List (List Cx) × List (List Cx) × Int :=
  if ck32 b ≠ 0 then ([], [], ck32 b) else if n < 1 ∨ (row0 b).length ≤ n then ([], [], 2) else (cut32 b 0 n.toNat, cut32 b n.toNat (row0 b).length, 0)

abbrev resB2 (r : List (List Cx) × List (List Cx) × Int) : SV := .tup [.p (sl r.1), .p (sl r.2.1), .p (i64 r.2.2)]

def rw32 (b : List (List Cx)) (j : Nat) : List Cx := b.getD j []
theorem rw32_get {b : List (List Cx)} {j : Nat} (h : j < b.length) : rw32 b j = b[j] := by simp [rw32, h]

/-- Rows joined. -/
def jn (a b : List (List Cx)) : List (List Cx) := (List.range a.length).map fun j => rw32 a j ++ rw32 b j

def bjoin (a b : List (List Cx)) : List (List Cx) × Int :=
  if both32 a b ≠ 0 then ([], both32 a b) else if a.length ≠ b.length then ([], 2) else if 16 < (row0 a).length + (row0 b).length then ([], 4) else (jn a b, 0)

def jnR (a b : List (List Cx)) (i j : Nat) : List Cx := if j < i then rw32 a j ++ rw32 b j else rw32 a j
def jnN (e : Nat) (a b : List (List Cx)) (i : Nat) : List NC := (List.range a.length).map fun j => .ow e 3 (jnR a b i j).length (flat (jnR a b i j))

theorem jnN_0 {e : Nat} {a b : List (List Cx)} {q : Nat} (h : ∀ r ∈ a, r.length = q) : partN e a 0 q = jnN e a b 0 := by
  apply List.ext_getElem
  · simp [partN, jnN]
  · intro j h1 h2
    have hj : j < a.length := by simpa [partN] using h1
    have e1 := h _ (List.getElem_mem hj)
    simp only [partN, jnN, List.getElem_map, List.getElem_range, jnR, Nat.not_lt_zero, if_false, rw32_get hj, cutR, List.drop_zero, Nat.sub_zero]
    rw [List.take_of_length_le (by omega), e1]

theorem jnN_get {e : Nat} {a b : List (List Cx)} {i : Nat} (h : i < a.length) : (jnN e a b i)[i]? = some (.ow e 3 a[i].length (flat a[i])) := by
  simp [jnN, h, jnR, rw32_get h]

theorem jnN_put {e : Nat} {a b : List (List Cx)} {i : Nat} (h : i < a.length) (hb : i < b.length) : (jnN e a b i).set i (.ow e 3 (a[i].length + b[i].length) (flat a[i] ++ flat b[i])) = jnN e a b (i + 1) := by
  apply List.ext_getElem
  · simp [jnN]
  · intro j h1 h2
    have hj : j < a.length := by simpa [jnN] using h1
    simp only [jnN, List.getElem_set, List.getElem_map, List.getElem_range]
    by_cases hij : i = j
    · subst hij
      simp [jnR, rw32_get h, rw32_get hb, flat_append]
    · rw [if_neg hij]
      simp only [jnR]
      by_cases hlt : j < i
      · rw [if_pos hlt, if_pos (by omega)]
      · rw [if_neg hlt, if_neg (by omega)]

theorem jnN_pv {e : Nat} {a b : List (List Cx)} : (jnN e a b a.length).map ncP = flat (jn a b) := by
  unfold jnN jn
  rw [List.map_map]
  have : ∀ r : List Nat, (∀ j ∈ r, j < a.length) → r.map (ncP ∘ fun j => NC.ow e 3 (jnR a b a.length j).length (flat (jnR a b a.length j))) = flat (r.map fun j => rw32 a j ++ rw32 b j) := by
    intro r
    induction r with
    | nil => intro _; rfl
    | cons j r ih =>
      intro h
      rw [List.map_cons, List.map_cons, flat_cons, ← ih fun x hx => h x (List.mem_cons_of_mem _ hx)]
      have hj := h j List.mem_cons_self
      show PV.sl false (jnR a b a.length j).length (flat (jnR a b a.length j)) :: _ = _
      rw [jnR, if_pos hj]
      rfl
  exact this _ fun j hj => List.mem_range.1 hj

/-! ### Averages -/

def addS (p : Cx × Int) (a : Cx) : Cx × Int := if p.2 ≠ 0 then p else if (add p.1 a).2 ≠ 0 then (c0, (add p.1 a).2) else add p.1 a
def sums (s : Cx) (l : List Cx) : Cx × Int := l.foldl addS (s, 0)

theorem addS_bad {p : Cx × Int} (h : p.2 ≠ 0) (l : List Cx) : l.foldl addS p = p := by
  induction l with
  | nil => rfl
  | cons a r ih => rw [List.foldl_cons, addS, if_pos h, ih]

theorem sums_nil (s : Cx) : sums s [] = (s, 0) := rfl
theorem sums_snoc (s : Cx) (l : List Cx) (a : Cx) : sums s (l ++ [a]) = addS (sums s l) a := by simp [sums]
theorem sums_app (s : Cx) (l r : List Cx) : sums s (l ++ r) = r.foldl addS (sums s l) := by simp [sums]

theorem sums_ok {s : Cx} {t : List Cx} {k : Nat} (hk : k < t.length) (h0 : (sums s (t.take k)).2 = 0) (h : (add (sums s (t.take k)).1 t[k]).2 = 0) : sums s (t.take (k + 1)) = add (sums s (t.take k)).1 t[k] := by
  rw [List.take_succ_eq_append_getElem hk, sums_snoc, addS, if_neg (by simp [h0]), if_neg (by simp [h])]

theorem sums_bad {s : Cx} {t : List Cx} {k : Nat} (hk : k < t.length) (h0 : (sums s (t.take k)).2 = 0) (h : (add (sums s (t.take k)).1 t[k]).2 ≠ 0) : sums s t = (c0, (add (sums s (t.take k)).1 t[k]).2) := by
  have e : t = t.take (k + 1) ++ t.drop (k + 1) := (List.take_append_drop _ _).symm
  have e2 : sums s (t.take (k + 1)) = (c0, (add (sums s (t.take k)).1 t[k]).2) := by
    rw [List.take_succ_eq_append_getElem hk, sums_snoc, addS, if_neg (by simp [h0]), if_pos h]
  have e3 : sums s t = sums s (t.take (k + 1) ++ t.drop (k + 1)) := by rw [← e]
  rw [e3, sums_app, addS_bad (by rw [e2]; exact h), e2]

theorem add_ok {a b : Cx} (ha : a.valid) (hb : b.valid) (h : (add a b).2 = 0) : (add a b).1 = norm (a.re * b.den + b.re * a.den) (a.im * b.den + b.im * a.den) (a.den * b.den) ∧ (add a b).1.valid := by
  have e : add a b = make (a.re * b.den + b.re * a.den) (a.im * b.den + b.im * a.den) (a.den * b.den) := by rw [add, if_pos ⟨ha, hb⟩]
  rw [e] at h ⊢
  have hp : 0 < a.den * b.den := mul_pos' ha.1 hb.1
  obtain ⟨h1, h2⟩ := make_ok hp h
  rw [h1]
  exact ⟨rfl, h2⟩

theorem add_err {a b : Cx} (ha : a.valid) (hb : b.valid) : (add a b).2 = 0 ∨ add a b = (c0, 16) := by
  unfold add
  rw [if_pos ⟨ha, hb⟩]
  exact make_err _ _ _

theorem sums_valid {s : Cx} (hs : s.valid) : ∀ {l : List Cx}, (∀ a ∈ l, a.valid) → (sums s l).2 = 0 → (sums s l).1.valid := by
  intro l hl h0
  have : ∀ k, k ≤ l.length → (sums s (l.take k)).2 = 0 ∧ (sums s (l.take k)).1.valid ∨ sums s l = (sums s (l.take k)) ∧ (sums s (l.take k)).2 ≠ 0 := by
    intro k
    induction k with
    | zero => intro _; exact .inl ⟨rfl, hs⟩
    | succ k ih =>
      intro hk
      have e : l = l.take (k + 1) ++ l.drop (k + 1) := (List.take_append_drop _ _).symm
      rcases ih (by omega) with ⟨h1, h2⟩ | ⟨h1, h2⟩
      · by_cases hz : (add (sums s (l.take k)).1 l[k]).2 = 0
        · rw [sums_ok (by omega) h1 hz]
          exact .inl ⟨hz, (add_ok h2 (hl _ (List.getElem_mem _)) hz).2⟩
        · have := sums_bad (by omega) h1 hz
          rw [this] at h0
          exact absurd h0 hz
      · rw [h1] at h0; exact absurd h0 h2
  rcases this l.length (Nat.le_refl _) with ⟨_, h⟩ | ⟨_, h⟩
  · rwa [List.take_length] at h
  · rw [List.take_length] at h; exact absurd h0 h

def numC (n : Nat) : Cx := ⟨n, 0, 1⟩

def finC (s : Cx) (n : Nat) : Cx × Int := if (div s (numC n)).2 ≠ 0 then (c0, (div s (numC n)).2) else if (div s (numC n)).1.zero then (c0, 18) else ((div s (numC n)).1, 0)

def avg (l : List Cx) : Cx × Int := if (sums (l.headD c0) l.tail).2 ≠ 0 then (c0, (sums (l.headD c0) l.tail).2) else finC (sums (l.headD c0) l.tail).1 l.length

/-- The first error. -/
def ferr {α : Type} (f : Nat → α × Int) : Nat → Int
  | 0 => 0
  | n + 1 => if ferr f n ≠ 0 then ferr f n else (f n).2

theorem ferr_bad {α : Type} {f : Nat → α × Int} {c m : Nat} (hc : c < m) (h0 : ferr f c = 0) (h : (f c).2 ≠ 0) : ferr f m = (f c).2 := by
  induction m with
  | zero => omega
  | succ m ih =>
    by_cases hm : c = m
    · subst hm; rw [ferr, if_neg (by simp [h0])]
    · rw [ferr, ih (by omega), if_pos h]

theorem ferr_0 {α : Type} {f : Nat → α × Int} {m : Nat} : ferr f m = 0 ↔ ∀ c, c < m → (f c).2 = 0 := by
  induction m with
  | zero => exact ⟨fun _ c hc => by omega, fun _ => rfl⟩
  | succ m ih =>
    rw [ferr]
    constructor
    · intro h c hc
      split at h
      · rename_i h1; exact absurd h h1
      · rename_i h1
        by_cases hm : c = m
        · subst hm; exact h
        · exact ih.1 (by simpa using h1) c (by omega)
    · intro h
      rw [if_neg (by rw [ih.2 fun c hc => h c (by omega)]; simp)]
      exact h m (by omega)

def gath {α : Type} (f : Nat → α × Int) (n : Nat) : List α × Int := if ferr f n = 0 then ((List.range n).map fun i => (f i).1, 0) else ([], ferr f n)

theorem ferr_congr {α : Type} {f g : Nat → α × Int} : ∀ {n : Nat}, (∀ i, i < n → f i = g i) → ferr f n = ferr g n
  | 0, _ => rfl
  | n + 1, h => by rw [ferr, ferr, ferr_congr fun i hi => h i (by omega), h n (by omega)]

theorem gath_congr {α : Type} {f g : Nat → α × Int} {n : Nat} (h : ∀ i, i < n → f i = g i) : gath f n = gath g n := by
  rw [gath, gath, ferr_congr h]
  split
  · congr 1
    apply List.map_congr_left
    intro i hi
    rw [h i (List.mem_range.1 hi)]
  · rfl

def means (r : List Cx) (w : Nat) : List Cx × Int := gath (fun j => avg (cutR r (j * w) (j * w + w))) (r.length / w)

def bmean (b : List (List Cx)) (w : Int) : List (List Cx) × Int :=
  if ck32 b ≠ 0 then ([], ck32 b) else if w < 1 ∨ ((row0 b).length : Int) % w ≠ 0 then ([], 2) else gath (fun i => means (rw32 b i) w.toNat) b.length

/-! ### Spectra -/

structure Spec where
  i : Int
  j : Int
  v : List Cx
  n : Int
deriving DecidableEq

instance : Enc Spec where
  sz := 4
  cs l := [i64 l.i, i64 l.j, sl l.v, i64 l.n]
  ok l := I64 l.i ∧ I64 l.j ∧ Enc.ok l.v ∧ I64 l.n
  len _ := rfl
  pos := by decide

abbrev sp (l : Spec) : PV := .agg [i64 l.i, i64 l.j, sl l.v, i64 l.n]

def Spec.good (s : Spec) (n m : Int) : Prop := 0 ≤ s.i ∧ s.i < s.j ∧ s.j < n ∧ 0 ≤ s.n ∧ (s.v.length : Int) = m ∧ ∀ c ∈ s.v, c.valid
instance (s : Spec) (n m : Int) : Decidable (s.good n m) := by unfold Spec.good; infer_instance

def all32 (l : List Spec) (n m : Int) : Int := if 64 < l.length then 4 else if ∀ s ∈ l, s.good n m then 0 else 8

theorem all32_0 {l : List Spec} {n m : Int} (h : all32 l n m = 0) : l.length ≤ 64 ∧ ∀ s ∈ l, s.good n m := by
  unfold all32 at h
  split at h
  · omega
  · split at h
    · rename_i h1 h2; exact ⟨by omega, h2⟩
    · omega

def Spec.vis (s : Spec) (c : Nat) : Vis := ⟨s.i, s.j, gat s.v c, s.n⟩
def Spec.set (s : Spec) (v : List Cx) : Spec := ⟨s.i, s.j, v, s.n⟩

/-- What a bandpass makes of a spectrum's channel. -/
def sact (b : List (List Cx)) (s : Spec) (c : Nat) : Cx × Int := act1 (col32 b c) (s.vis c)

def bact (b : List (List Cx)) (l : List Spec) : List Spec × Int :=
  if ck32 b ≠ 0 then ([], ck32 b) else if all32 l b.length (row0 b).length ≠ 0 then ([], all32 l b.length (row0 b).length) else
  if ∀ s ∈ l, ∀ c, c < (row0 b).length → (sact b s c).2 = 0 then (l.map fun s => s.set ((List.range (row0 b).length).map fun c => (sact b s c).1), 0) else ([], 16)

abbrev resSs (r : List Spec × Int) : SV := .tup [.p (sl r.1), .p (i64 r.2)]
/-- Spectra while they are built: their heads, and the channels there are. -/
def spNs (e : Nat) (h : Nat → Spec) (m : Nat → List Cx) (n : Nat) : List NC := (List.range n).flatMap fun j => [.pu (i64 (h j).i), .pu (i64 (h j).j), .ow e 3 (m j).length (flat (m j)), .pu (i64 (h j).n)]

theorem spNs_succ (e : Nat) (h : Nat → Spec) (m : Nat → List Cx) (n : Nat) : spNs e h m (n + 1) = spNs e h m n ++ [.pu (i64 (h n).i), .pu (i64 (h n).j), .ow e 3 (m n).length (flat (m n)), .pu (i64 (h n).n)] := by
  simp [spNs, List.range_succ]

theorem spNs_len (e : Nat) (h : Nat → Spec) (m : Nat → List Cx) : ∀ n : Nat, (spNs e h m n).length = n * 4
  | 0 => rfl
  | n + 1 => by rw [spNs_succ, List.length_append, spNs_len e h m n]; simp; omega

theorem spNs_get {e : Nat} {h : Nat → Spec} {m : Nat → List Cx} {k : Nat} : ∀ {n : Nat}, k < n → (spNs e h m n)[k * 4 + 2]? = some (.ow e 3 (m k).length (flat (m k)))
  | 0, hk => by omega
  | n + 1, hk => by
    rw [spNs_succ]
    by_cases hn : k = n
    · subst hn
      rw [List.getElem?_append_right (by rw [spNs_len]; omega), spNs_len]
      simp
    · rw [List.getElem?_append_left (by rw [spNs_len]; omega)]
      exact spNs_get (by omega)

theorem spNs_congr {e : Nat} {h : Nat → Spec} {m m' : Nat → List Cx} : ∀ {n : Nat}, (∀ j, j < n → m j = m' j) → spNs e h m n = spNs e h m' n
  | 0, _ => rfl
  | n + 1, hm => by rw [spNs_succ, spNs_succ, spNs_congr fun j hj => hm j (by omega), hm n (by omega)]

theorem spNs_set {e : Nat} {h : Nat → Spec} {m : Nat → List Cx} {k : Nat} {r : List Cx} : ∀ {n : Nat}, k < n → (spNs e h m n).set (k * 4 + 2) (.ow e 3 r.length (flat r)) = spNs e h (fun j => if j = k then r else m j) n
  | 0, hk => by omega
  | n + 1, hk => by
    rw [spNs_succ, spNs_succ, List.set_append, spNs_len]
    by_cases hn : k = n
    · subst hn
      rw [if_neg (by omega), show k * 4 + 2 - k * 4 = 2 by omega, if_pos rfl, spNs_congr (m := m) (m' := fun j => if j = k then r else m j) fun j hj => by rw [if_neg (by omega)]]
      rfl
    · rw [if_pos (by omega), spNs_set (by omega), if_neg (by omega)]

theorem spNs_pv {e : Nat} {h : Nat → Spec} {m : Nat → List Cx} : ∀ {n : Nat}, (spNs e h m n).map ncP = flat ((List.range n).map fun j => (h j).set (m j))
  | 0 => rfl
  | n + 1 => by
    rw [spNs_succ, List.map_append, spNs_pv, List.range_succ, List.map_append, List.map_singleton, flat_snoc]
    rfl

def dSp : Spec := ⟨0, 0, [], 0⟩
def gsp (l : List Spec) (k : Nat) : Spec := l.getD k dSp
theorem gsp_get {l : List Spec} {k : Nat} (h : k < l.length) : gsp l k = l[k] := by simp [gsp, h]

/-- The first c channels of spectrum j. -/
def chan (b : List (List Cx)) (l : List Spec) (c j : Nat) : List Cx := (List.range c).map fun c' => (sact b (gsp l j) c').1
theorem chan_succ (b : List (List Cx)) (l : List Spec) (c j : Nat) : chan b l (c + 1) j = chan b l c j ++ [(sact b (gsp l j) c).1] := by simp [chan, List.range_succ]
theorem chan_length (b : List (List Cx)) (l : List Spec) (c j : Nat) : (chan b l c j).length = c := by simp [chan]

theorem chan_all {b : List (List Cx)} {l : List Spec} {m : Nat} : ((List.range l.length).map fun j => (gsp l j).set (chan b l m j)) = l.map fun s => s.set ((List.range m).map fun c => (sact b s c).1) := by
  apply List.ext_getElem
  · simp
  · intro j h1 h2
    have hj : j < l.length := by simpa using h1
    simp [gsp_get hj, chan]

theorem act26_of {g : List Cx} {l : List Vis} (h1 : ck26 g = 0) (h2 : all26 l g.length = 0) : act26 g l = if l.all (fun v => (act1 g v).2 = 0) then (l.map fun v => v.set (act1 g v).1, 0) else ([], 16) := by
  rw [act26, if_neg (by simp [h1]), if_neg (by simp [h2])]

theorem vis_all {b : List (List Cx)} {l : List Spec} {c : Nat} (h : all32 l b.length (row0 b).length = 0) (hc : c < (row0 b).length) : all26 (l.map fun s => s.vis c) (col32 b c).length = 0 := by
  obtain ⟨h1, h2⟩ := all32_0 h
  unfold all26
  rw [if_neg (by simp; omega), if_pos]
  rw [List.all_eq_true]
  intro v hv
  rw [List.mem_map] at hv
  obtain ⟨s, hs, rfl⟩ := hv
  obtain ⟨g1, g2, g3, g4, g5, g6⟩ := h2 s hs
  have hl : c < s.v.length := by omega
  simp only [decide_eq_true_iff, Vis.good, Spec.vis, col32_length, gat_get hl]
  exact ⟨g1, g2, g3, g4, g6 _ (List.getElem_mem hl)⟩

/-- What the channel's gains make of the channel's visibilities. -/
theorem act_chan {b : List (List Cx)} {l : List Spec} {c : Nat} (hb : ck32 b = 0) (h : all32 l b.length (row0 b).length = 0) (hc : c < (row0 b).length) :
    ((act26 (col32 b c) (l.map fun s => s.vis c)).2 ≠ 0 → (act26 (col32 b c) (l.map fun s => s.vis c)).2 = 16 ∧ bact b l = ([], 16)) ∧
    ((act26 (col32 b c) (l.map fun s => s.vis c)).2 = 0 → (∀ s ∈ l, (sact b s c).2 = 0) ∧ (act26 (col32 b c) (l.map fun s => s.vis c)).1 = l.map fun s => (s.vis c).set (sact b s c).1) := by
  rw [act26_of (col32_ck hb hc) (vis_all h hc)]
  by_cases hall : ∀ s ∈ l, (sact b s c).2 = 0
  · rw [if_pos]
    · exact ⟨fun h => absurd rfl h, fun _ => ⟨hall, by rw [List.map_map]; rfl⟩⟩
    · rw [List.all_eq_true]
      intro v hv
      rw [List.mem_map] at hv
      obtain ⟨s, hs, rfl⟩ := hv
      simpa [sact] using hall s hs
  · rw [if_neg]
    · refine ⟨fun _ => ⟨rfl, ?_⟩, fun h => absurd h (by decide)⟩
      rw [bact, if_neg (by simp [hb]), if_neg (by simp [h]), if_neg]
      exact fun q => hall fun s hs => q s hs c hc
    · intro q
      apply hall
      intro s hs
      rw [List.all_eq_true] at q
      simpa [sact] using q (s.vis c) (List.mem_map.2 ⟨s, hs, rfl⟩)
end Go.Pv

/- Bandpasses: the same answers, element by element. -/
namespace Go.Pv

theorem ck32_8 {b : List (List Cx)} (h1 : b.length ≤ 8) (h2 : ∀ r ∈ b, r.length ≤ 16) (h3 : 0 < b.length) (h4 : 0 < (row0 b).length) (h : (∃ r ∈ b, r.length ≠ (row0 b).length) ∨ ∃ r ∈ b, ∃ c ∈ r, ¬ okG c) : ck32 b = 8 := by
  unfold ck32
  rw [if_neg (by omega), if_neg (by rintro ⟨r, hr, h⟩; have := h2 r hr; omega), if_neg (by omega)]
  split
  · rfl
  · rename_i h5
    rcases h with h | ⟨r, hr, c, hc, h⟩
    · exact absurd h h5
    · rw [if_neg fun q => h (q r hr c hc)]

theorem ck32_ok {b : List (List Cx)} (h1 : b.length ≤ 8) (h2 : ∀ r ∈ b, r.length ≤ 16) (h3 : 0 < b.length) (h4 : 0 < (row0 b).length) (h5 : ∀ r ∈ b, r.length = (row0 b).length) (h6 : ∀ r ∈ b, ∀ c ∈ r, okG c) : ck32 b = 0 := by
  unfold ck32
  rw [if_neg (by omega), if_neg (by rintro ⟨r, hr, h⟩; have := h2 r hr; omega), if_neg (by omega), if_neg (by rintro ⟨r, hr, h⟩; exact h (h5 r hr)), if_pos h6]

theorem all32_8 {l : List Spec} {n m : Int} (h1 : l.length ≤ 64) {s : Spec} (hs : s ∈ l) (h : ¬ s.good n m) : all32 l n m = 8 := by
  rw [all32, if_neg (by omega), if_neg fun q => h (q s hs)]

/-- A bandpass, number by number. -/
def grid (n m : Nat) (f : Nat → Nat → Cx × Int) : List (List Cx) × Int :=
  if ∀ i, i < n → ∀ c, c < m → (f i c).2 = 0 then ((List.range n).map fun i => (List.range m).map fun c => (f i c).1, 0) else ([], 16)

theorem grid_bad {n m : Nat} {f : Nat → Nat → Cx × Int} {i c : Nat} (hi : i < n) (hc : c < m) (h : (f i c).2 ≠ 0) : grid n m f = ([], 16) := by
  rw [grid, if_neg fun q => h (q i hi c hc)]
theorem grid_ok {n m : Nat} {f : Nat → Nat → Cx × Int} (h : ∀ i, i < n → ∀ c, c < m → (f i c).2 = 0) : grid n m f = ((List.range n).map fun i => (List.range m).map fun c => (f i c).1, 0) := by
  rw [grid, if_pos h]

theorem grid_congr {n m : Nat} {f g : Nat → Nat → Cx × Int} (h : ∀ i, i < n → ∀ c, c < m → f i c = g i c) : grid n m f = grid n m g := by
  by_cases hz : ∀ i, i < n → ∀ c, c < m → (f i c).2 = 0
  · rw [grid_ok hz, grid_ok fun i hi c hc => by rw [← h i hi c hc]; exact hz i hi c hc]
    congr 1
    apply List.map_congr_left
    intro i hi
    apply List.map_congr_left
    intro c hc
    rw [h i (List.mem_range.1 hi) c (List.mem_range.1 hc)]
  · rw [grid, if_neg hz, grid, if_neg fun q => hz fun i hi c hc => by rw [h i hi c hc]; exact q i hi c hc]

theorem built_grid {n m : Nat} {col : Nat → List Cx × Int} {f : Nat → Nat → Cx × Int} (h1 : ∀ c, c < m → ((col c).2 = 0 ↔ ∀ i, i < n → (f i c).2 = 0)) (h2 : ∀ c, c < m → (col c).2 = 0 ∨ (col c).2 = 16)
    (h3 : ∀ c, c < m → (col c).2 = 0 → ∀ i, i < n → gat (col c).1 i = (f i c).1) : built n m col = grid n m f := by
  by_cases hz : ∀ c, c < m → (col c).2 = 0
  · have hb : berr col m = 0 := by
      clear h1 h2 h3
      induction m with
      | zero => rfl
      | succ m ih => rw [berr, ih fun c hc => hz c (by omega)]; simpa using hz m (by omega)
    rw [built, if_pos hb, grid_ok fun i hi c hc => (h1 c hc).1 (hz c hc) i hi]
    congr 1
    apply List.map_congr_left
    intro i hi
    unfold brow
    apply List.map_congr_left
    intro c hc
    exact h3 c (List.mem_range.1 hc) (hz c (List.mem_range.1 hc)) i (List.mem_range.1 hi)
  · have hex : ∃ c, c < m ∧ (col c).2 ≠ 0 := by
      obtain ⟨c, h⟩ := Classical.not_forall.1 hz
      obtain ⟨hc, h⟩ := Classical.not_imp.1 h
      exact ⟨c, hc, h⟩
    have hb : berr col m = 16 := by
      clear h1 h3 hz
      induction m with
      | zero => obtain ⟨c, hc, _⟩ := hex; omega
      | succ m ih =>
        rw [berr]
        by_cases h0 : berr col m = 0
        · rw [if_neg (by simp [h0])]
          obtain ⟨c, hc, h⟩ := hex
          by_cases e : c = m
          · subst e; rcases h2 c (by omega) with h' | h'
            · exact absurd h' h
            · exact h'
          · have := ih (fun c hc => h2 c (by omega)) ⟨c, by omega, h⟩
            rw [this] at h0; simp at h0
        · rw [if_pos h0]
          have hex' : ∃ c, c < m ∧ (col c).2 ≠ 0 := by
            refine Classical.byContradiction fun hn => h0 ?_
            clear ih hex
            have hn' : ∀ c, c < m → (col c).2 = 0 := fun c hc => Classical.byContradiction fun q => hn ⟨c, hc, q⟩
            clear hn h0 h2
            induction m with
            | zero => rfl
            | succ m ih => rw [berr, ih fun c hc => hn' c (by omega)]; simpa using hn' m (by omega)
          exact ih (fun c hc => h2 c (by omega)) hex'
    obtain ⟨c, hc, h⟩ := hex
    rw [built, if_neg (by rw [hb]; decide), hb]
    have : ¬ ∀ i, i < n → (f i c).2 = 0 := fun q => h ((h1 c hc).2 q)
    obtain ⟨i, h'⟩ := Classical.not_forall.1 this
    obtain ⟨hi, h'⟩ := Classical.not_imp.1 h'
    rw [grid_bad hi hc h']

theorem prods_gat {m : Cx → Cx → Cx × Int} {u v : Nat → Cx} {n i : Nat} (h : (prods m u v n).2 = 0) (hi : i < n) : gat (prods m u v n).1 i = (m (u i) (v i)).1 := by
  unfold prods at h ⊢
  split
  · simp [gat, hi]
  · rename_i h1
    rw [if_neg h1] at h
    exact absurd h h1

theorem prods_0 {m : Cx → Cx → Cx × Int} {u v : Nat → Cx} {n : Nat} : (prods m u v n).2 = 0 ↔ ∀ i, i < n → (m (u i) (v i)).2 = 0 := by
  rw [← perr_0]
  unfold prods
  split
  · rename_i h; simp [h]
  · rfl

theorem prods_e16 {m : Cx → Cx → Cx × Int} {u v : Nat → Cx} {n : Nat} (hm : ∀ k, k < n → (m (u k) (v k)).2 = 0 ∨ m (u k) (v k) = (c0, 16)) : (prods m u v n).2 = 0 ∨ (prods m u v n).2 = 16 := by
  unfold prods
  split
  · exact .inl rfl
  · exact perr_16 hm

theorem bmul_grid {a b : List (List Cx)} (h0 : both32 a b = 0) (h1 : a.length = b.length) (h2 : (row0 a).length = (row0 b).length) : bmul a b = grid a.length (row0 a).length fun i c => mul (gat (rw32 a i) c) (gat (rw32 b i) c) := by
  obtain ⟨ka, kb⟩ := both32_0 h0
  rw [bmul, if_neg (by simp [h0]), if_neg (by omega)]
  have key : ∀ c, c < (row0 a).length → tmul (col32 a c) (col32 b c) = prods mul (gat (col32 a c)) (gat (col32 b c)) a.length := fun c hc => by
    have e1 := col32_ck ka hc
    have e2 := col32_ck kb (show c < (row0 b).length by omega)
    rw [tmul, if_neg, col32_length]
    rw [both26, if_neg (by simp [e1]), if_neg (by simp [e2]), if_neg (by rw [col32_length, col32_length]; omega)]
    simp
  have gv : ∀ c, c < (row0 a).length → ∀ i, i < a.length → (gat (col32 a c) i).valid ∧ (gat (col32 b c) i).valid := fun c hc i hi =>
    ⟨(gat_valid (col32_ck ka hc) (by rw [col32_length]; exact hi)).1, (gat_valid (col32_ck kb (by omega)) (by rw [col32_length]; omega)).1⟩
  apply built_grid
  · intro c hc
    rw [key c hc, prods_0]
    constructor
    · intro h i hi
      have := h i hi
      rwa [col32_gat hi, col32_gat (by omega), ← rw32_get hi, ← rw32_get (by omega)] at this
    · intro h i hi
      rw [col32_gat hi, col32_gat (by omega), ← rw32_get hi, ← rw32_get (by omega)]
      exact h i hi
  · intro c hc
    rw [key c hc]
    exact prods_e16 fun i hi => mul_err (gv c hc i hi).1 (gv c hc i hi).2
  · intro c hc hz i hi
    rw [key c hc] at hz ⊢
    rw [prods_gat hz hi, col32_gat hi, col32_gat (by omega), ← rw32_get hi, ← rw32_get (by omega)]

theorem div_e16 {a b : Cx} (ha : a.valid) (hb : b.valid) (hz : ¬ b.zero) : (div a b).2 = 0 ∨ div a b = (c0, 16) := by
  unfold div
  rw [if_pos ⟨ha, hb⟩, if_neg hz]
  exact make_err _ _ _

theorem one_validB : one.valid := by decide +kernel

theorem binv_grid {b : List (List Cx)} (h0 : ck32 b = 0) : binv b = grid b.length (row0 b).length fun i c => div one (gat (rw32 b i) c) := by
  rw [binv, if_neg (by simp [h0])]
  have key : ∀ c, c < (row0 b).length → tinv (col32 b c) = prods div (fun _ => one) (gat (col32 b c)) b.length := fun c hc => by
    rw [tinv, if_neg (by simp [col32_ck h0 hc]), col32_length]
  apply built_grid
  · intro c hc
    rw [key c hc, prods_0]
    constructor
    · intro h i hi
      have := h i hi
      rwa [col32_gat hi, ← rw32_get hi] at this
    · intro h i hi
      rw [col32_gat hi, ← rw32_get hi]
      exact h i hi
  · intro c hc
    rw [key c hc]
    exact prods_e16 fun i hi => div_e16 one_validB (gat_valid (col32_ck h0 hc) (by rw [col32_length]; exact hi)).1 (gat_valid (col32_ck h0 hc) (by rw [col32_length]; exact hi)).2
  · intro c hc hz i hi
    rw [key c hc] at hz ⊢
    rw [prods_gat hz hi, col32_gat hi, ← rw32_get hi]

theorem bflat_grid {g : List Cx} {n : Nat} (h0 : ck26 g = 0) (h1 : 1 ≤ n) (h2 : n ≤ 16) : bflat g n = grid g.length n fun i _ => (gat g i, 0) := by
  rw [bflat, if_neg (by simp [h0]), if_neg (by omega)]
  apply built_grid
  · intro c hc; simp
  · intro c hc; exact .inl rfl
  · intro c hc hz i hi; rfl

/-! ### Averages: the sum begins with 0 -/

def cz : Cx := ⟨0, 0, 1⟩
theorem cz_valid : cz.valid := by decide +kernel

theorem add_cz {a : Cx} (h : a.valid) : add cz a = (a, 0) := by
  rw [add, if_pos ⟨cz_valid, h⟩]
  have hp : 0 < a.den := by have := h.1; omega
  have e1 : cz.re * a.den + a.re * cz.den = a.re := by simp [cz]
  have e2 : cz.im * a.den + a.im * cz.den = a.im := by simp [cz]
  have e3 : cz.den * a.den = a.den := by simp [cz]
  rw [e1, e2, e3, make_valid hp, norm_low hp h.2.2.2.2, if_pos h]

theorem sums_cz {l : List Cx} (h0 : 0 < l.length) (h : ∀ c ∈ l, c.valid) : sums cz l = sums (l.headD c0) l.tail := by
  cases l with
  | nil => simp at h0
  | cons a r =>
    have ha := h a List.mem_cons_self
    show (a :: r).foldl addS (cz, 0) = r.foldl addS (a, 0)
    rw [List.foldl_cons, addS, if_neg (by simp), if_neg (by rw [add_cz ha]; simp), add_cz ha]

theorem sums_16 {s : Cx} {t : List Cx} {k : Nat} (hs : s.valid) (ht : ∀ c ∈ t, c.valid) (hk : k < t.length) (h0 : (sums s (t.take k)).2 = 0) (h : (add (sums s (t.take k)).1 t[k]).2 ≠ 0) : sums s t = (c0, 16) := by
  rw [sums_bad hk h0 h]
  have hv := sums_valid hs (l := t.take k) (fun c hc => ht c (List.mem_of_mem_take hc)) h0
  rcases add_err hv (ht _ (List.getElem_mem hk)) with h' | h'
  · exact absurd h' h
  · rw [h']
end Go.Pv
namespace Go.Pv

def gr32 (b : List (List Cx)) (l : List Spec) : Prop := (∃ r ∈ b, 70 < r.length) ∨ (∃ s ∈ l, 70 < s.v.length) ∨ 70 < b.length ∨ 70 < l.length
instance (b : List (List Cx)) (l : List Spec) : Decidable (gr32 b l) := by unfold gr32; infer_instance

theorem at_col {b : List (List Cx)} {c p : Nat} (hp : p < b.length) (hc : c < b[p].length) : at_ (col32 b c) p = b[p][c] := by
  rw [at_get (by rw [col32_length]; exact hp)]
  simp [col32, gat_get hc]

theorem sact_of {b : List (List Cx)} {s : Spec} {c p q : Nat} (hp : p < b.length) (hq : q < b.length) (ei : s.i = p) (ej : s.j = q) (hcp : c < b[p].length) (hcq : c < b[q].length) (hv : c < s.v.length) :
    sact b s c = if (mul b[p][c] s.v[c]).2 ≠ 0 then (c0, 16) else if (mul (mul b[p][c] s.v[c]).1 (conj b[q][c])).2 ≠ 0 then (c0, 16) else mul (mul b[p][c] s.v[c]).1 (conj b[q][c]) := by
  unfold sact act1 Spec.vis
  simp only [ei, ej, at_col hp hcp, at_col hq hcq, gat_get hv]

theorem bact_bad {b : List (List Cx)} {l : List Spec} (hb : ck32 b = 0) (hl : all32 l b.length (row0 b).length = 0) {s : Spec} (hs : s ∈ l) {c : Nat} (hc : c < (row0 b).length) (h : (sact b s c).2 ≠ 0) : bact b l = ([], 16) := by
  rw [bact, if_neg (by simp [hb]), if_neg (by simp [hl]), if_neg fun q => h (q s hs c hc)]
theorem bact_ok {b : List (List Cx)} {l : List Spec} (hb : ck32 b = 0) (hl : all32 l b.length (row0 b).length = 0) (h : ∀ s ∈ l, ∀ c, c < (row0 b).length → (sact b s c).2 = 0) : bact b l = (l.map fun s => s.set ((List.range (row0 b).length).map fun c => (sact b s c).1), 0) := by
  rw [bact, if_neg (by simp [hb]), if_neg (by simp [hl]), if_pos h]
end Go.Pv
namespace Go.Pv

def sz32 (x : List (List Cx)) : Prop := x.length ≤ 1000 ∧ ∀ r ∈ x, r.length ≤ 1000

theorem sz_nil : sz32 [] := ⟨by simp, fun r h => by simp at h⟩

theorem sz_built {n m : Nat} {col : Nat → List Cx × Int} (hn : n ≤ 8) (hm : m ≤ 16) : sz32 (built n m col).1 := by
  unfold built
  split
  · refine ⟨by simp; omega, fun r hr => ?_⟩
    rw [List.mem_map] at hr
    obtain ⟨j, _, rfl⟩ := hr
    rw [brow_length]; omega
  · exact sz_nil

theorem sz_mul (a b : List (List Cx)) : sz32 (bmul a b).1 := by
  unfold bmul
  split
  · exact sz_nil
  · rename_i h
    have ka := both32_0 (Classical.not_not.1 h)
    obtain ⟨a1, a2, a3, a4, _, _⟩ := ck32_0 ka.1
    split
    · exact sz_nil
    · exact sz_built a1 a4

theorem sz_inv (a : List (List Cx)) : sz32 (binv a).1 := by
  unfold binv
  split
  · exact sz_nil
  · rename_i h
    obtain ⟨a1, a2, a3, a4, _, _⟩ := ck32_0 (Classical.not_not.1 h)
    exact sz_built a1 a4

theorem sz_flat (g : List Cx) (n : Int) : sz32 (bflat g n).1 := by
  unfold bflat
  split
  · exact sz_nil
  · rename_i h
    obtain ⟨a1, a2, a3⟩ := ck26_0 (Classical.not_not.1 h)
    split
    · exact sz_nil
    · exact sz_built a1 (by omega)

theorem sz_cut {b : List (List Cx)} (h : ck32 b = 0) (p q : Nat) : sz32 (cut32 b p q) := by
  obtain ⟨a1, a2, a3, a4, a5, _⟩ := ck32_0 h
  refine ⟨by simp [cut32]; omega, fun r hr => ?_⟩
  rw [cut32, List.mem_map] at hr
  obtain ⟨x, hx, rfl⟩ := hr
  have := a5 x hx
  rw [cutR, List.length_take, List.length_drop]
  omega

theorem sz_split (b : List (List Cx)) (n : Int) : sz32 (bsplit b n).1 ∧ sz32 (bsplit b n).2.1 := by
  unfold bsplit
  split
  · exact ⟨sz_nil, sz_nil⟩
  · rename_i h
    split
    · exact ⟨sz_nil, sz_nil⟩
    · exact ⟨sz_cut (Classical.not_not.1 h) _ _, sz_cut (Classical.not_not.1 h) _ _⟩

theorem rw_len {b : List (List Cx)} (h : ck32 b = 0) (j : Nat) : (rw32 b j).length ≤ 16 := by
  obtain ⟨a1, a2, a3, a4, a5, _⟩ := ck32_0 h
  by_cases hj : j < b.length
  · rw [rw32_get hj, a5 _ (List.getElem_mem hj)]; exact a4
  · simp [rw32, Nat.le_of_not_lt hj]

theorem sz_join (a b : List (List Cx)) : sz32 (bjoin a b).1 := by
  unfold bjoin
  split
  · exact sz_nil
  · rename_i h
    have ka := both32_0 (Classical.not_not.1 h)
    obtain ⟨a1, a2, a3, a4, _, _⟩ := ck32_0 ka.1
    split
    · exact sz_nil
    · split
      · exact sz_nil
      · refine ⟨by simp [jn]; omega, fun r hr => ?_⟩
        rw [jn, List.mem_map] at hr
        obtain ⟨j, _, rfl⟩ := hr
        have h1 := rw_len ka.1 j
        have h2 := rw_len ka.2 j
        rw [List.length_append]; omega

theorem gath_len {α : Type} (f : Nat → α × Int) (n : Nat) : (gath f n).1.length ≤ n := by
  unfold gath
  split <;> simp

theorem sz_mean (b : List (List Cx)) (w : Int) : sz32 (bmean b w).1 := by
  unfold bmean
  split
  · exact sz_nil
  · rename_i h
    obtain ⟨a1, a2, a3, a4, _, _⟩ := ck32_0 (Classical.not_not.1 h)
    split
    · exact sz_nil
    · refine ⟨Nat.le_trans (gath_len _ _) (by omega), fun r hr => ?_⟩
      unfold gath at hr
      split at hr
      · rw [List.mem_map] at hr
        obtain ⟨i, _, rfl⟩ := hr
        refine Nat.le_trans (gath_len _ _) ?_
        have := rw_len (Classical.not_not.1 h) i
        have h2 := Nat.div_le_self (rw32 b i).length w.toNat
        omega
      · simp at hr

theorem sz_act (b : List (List Cx)) (l : List Spec) : (bact b l).1.length ≤ 1000 ∧ ∀ s ∈ (bact b l).1, s.v.length ≤ 1000 := by
  unfold bact
  split
  · simp
  · rename_i h
    obtain ⟨a1, a2, a3, a4, _, _⟩ := ck32_0 (Classical.not_not.1 h)
    split
    · simp
    · rename_i h2
      obtain ⟨l1, _⟩ := all32_0 (Classical.not_not.1 h2)
      split
      · refine ⟨by simp; omega, fun s hs => ?_⟩
        rw [List.mem_map] at hs
        obtain ⟨s', _, rfl⟩ := hs
        simp [Spec.set]; omega
      · simp
end Go.Pv

/- Triples of stations, in plain Lean. -/
namespace Go.Pv
open Go.Vc

theorem tris_b (l : List Vis) {a : Nat} (ha : a < 8) : tris l (a * 64 + (a + 1) * 8) = tris l (a * 64) := by
  refine tris_skip l _ _ fun m h1 h2 => ?_
  have e1 : m / 64 = a := by omega
  have e2 : ¬ (m / 64 < m / 8 % 8) := by omega
  simp [isTri, e2]

theorem tris_c (l : List Vis) {a b : Nat} (ha : a < 8) (hb : b < 8) : tris l (a * 64 + b * 8 + (b + 1)) = tris l (a * 64 + b * 8) := by
  refine tris_skip l _ _ fun m h1 h2 => ?_
  have e2 : ¬ (m / 8 % 8 < m % 8) := by omega
  simp [isTri, e2]

theorem isTri_at (l : List Vis) {a b c : Nat} (hab : a < b) (hbc : b < c) (hc : c < 8) : isTri l (a * 64 + b * 8 + c) = (hit l (a * 8 + b) && hit l (b * 8 + c) && hit l (a * 8 + c)) := by
  have e1 : (a * 64 + b * 8 + c) / 64 = a := by omega
  have e2 : (a * 64 + b * 8 + c) / 8 % 8 = b := by omega
  have e3 : (a * 64 + b * 8 + c) % 8 = c := by omega
  simp [isTri, e1, e2, e3, hab, hbc]

theorem tris_at (l : List Vis) {a b c : Nat} (hab : a < b) (hbc : b < c) (hc : c < 8) : tris l (a * 64 + b * 8 + (c + 1)) = tris l (a * 64 + b * 8 + c) ++ if (hit l (a * 8 + b) && hit l (b * 8 + c) && hit l (a * 8 + c)) then [⟨a, b, c⟩] else [] := by
  rw [← Nat.add_assoc, tris, isTri_at l hab hbc hc]
  have e1 : (a * 64 + b * 8 + c) / 64 = a := by omega
  have e2 : (a * 64 + b * 8 + c) / 8 % 8 = b := by omega
  have e3 : (a * 64 + b * 8 + c) % 8 = c := by omega
  rw [e1, e2, e3]

end Go.Pv

/- Closure phases and amplitudes, in plain Lean. -/
namespace Go.Pv
open Go.Vc

structure Pr where
  a : Int
  b : Int
deriving DecidableEq

instance : Enc Pr where
  sz := 2
  cs l := [i64 l.a, i64 l.b]
  ok l := I64 l.a ∧ I64 l.b
  len _ := rfl
  pos := by decide

def gD (l : List Vis) (s : Pr) : Cx := (got s.a s.b l).getD c0

/-- The visibilities of some steps. -/
def along27 (l : List Vis) (st : List Pr) : List Cx × Int :=
  if st.all (fun s => (got s.a s.b l).isSome) then (if st.any (fun s => decide (gD l s).zero) then ([], 18) else (st.map (gD l), 0)) else ([], 6)

/-- A circle's steps. -/
def pairs (c : List Int) : List Pr := (List.range c.length).map fun k => ⟨c.getD k 0, c.getD ((k + 1) % c.length) 0⟩

def turned (r v : Cx) : Cx × Int :=
  if (ray v).2 ≠ 0 then (c0, (ray v).2) else if (mul r (ray v).1).2 ≠ 0 then (c0, (mul r (ray v).1).2) else ray (mul r (ray v).1).1

def fold27 (r : Cx) : List Cx → Cx × Int
  | [] => (r, 0)
  | v :: t => if (turned r v).2 ≠ 0 then (c0, (turned r v).2) else fold27 (turned r v).1 t

def circle (c : List Int) : Prop := 3 ≤ c.length ∧ c.length ≤ 8 ∧ apart c
instance (c : List Int) : Decidable (circle c) := by unfold circle; infer_instance

def phase (l : List Vis) (c : List Int) : Cx × Int :=
  if ck27 l ≠ 0 then (c0, ck27 l) else if ¬ circle c then (c0, 2) else if (along27 l (pairs c)).2 ≠ 0 then (c0, (along27 l (pairs c)).2) else fold27 one (along27 l (pairs c)).1

def f0 : Frac := ⟨0, 0⟩

def amp4 (p q r s : Cx) : Frac × Int :=
  if (mul p q).2 ≠ 0 then (f0, (mul p q).2) else if (mul r s).2 ≠ 0 then (f0, (mul r s).2) else if (div (mul p q).1 (mul r s).1).2 ≠ 0 then (f0, (div (mul p q).1 (mul r s).1).2) else nrm (div (mul p q).1 (mul r s).1).1

def amp (l : List Vis) (a b c d : Int) : Frac × Int :=
  if ck27 l ≠ 0 then (f0, ck27 l) else if ¬ apart [a, b, c, d] then (f0, 2) else if (along27 l [⟨a, b⟩, ⟨c, d⟩, ⟨a, c⟩, ⟨b, d⟩]).2 ≠ 0 then (f0, (along27 l [⟨a, b⟩, ⟨c, d⟩, ⟨a, c⟩, ⟨b, d⟩]).2)
  else amp4 (gD l ⟨a, b⟩) (gD l ⟨c, d⟩) (gD l ⟨a, c⟩) (gD l ⟨b, d⟩)

theorem got_valid {l : List Vis} (hl : ∀ v ∈ l, v.good 8) {i j : Int} {c : Cx} (h : got i j l = some c) : c.valid := by
  induction l with
  | nil => cases h
  | cons v r ih =>
    have g := (hl v (by simp)).2.2.2.2
    unfold got at h
    split at h
    · cases h; exact g
    · split at h
      · cases h; exact conj_valid g
      · exact ih (fun u hu => hl u (by simp [hu])) h

theorem gD_valid {l : List Vis} (hl : ∀ v ∈ l, v.good 8) {s : Pr} (h : (got s.a s.b l).isSome = true) : (gD l s).valid := by
  unfold gD
  cases hg : got s.a s.b l with
  | none => rw [hg] at h; cases h
  | some c => exact got_valid hl hg

theorem along27_0 {l : List Vis} (hl : ∀ v ∈ l, v.good 8) {st : List Pr} (h : (along27 l st).2 = 0) : (along27 l st).1 = st.map (gD l) ∧ (∀ s ∈ st, (got s.a s.b l).isSome = true) ∧ ∀ s ∈ st, (gD l s).valid ∧ ¬ (gD l s).zero := by
  unfold along27 at h ⊢
  split at h
  · rename_i h1
    split at h
    · simp at h
    · rename_i h2
      rw [if_pos h1, if_neg h2]
      rw [List.all_eq_true] at h1
      refine ⟨rfl, h1, fun s hs => ⟨gD_valid hl (h1 s hs), fun hz => h2 ?_⟩⟩
      rw [List.any_eq_true]
      exact ⟨s, hs, by simpa using hz⟩
  · simp at h

theorem nz_gcd {a : Cx} (h : ¬ a.zero) : 0 < Int.gcd a.re a.im := by
  rcases Nat.eq_zero_or_pos (Int.gcd a.re a.im) with h0 | h0
  · rw [Int.gcd_eq_zero_iff] at h0; exact absurd h0 h
  · exact h0

/-- A ray is a valid number, and its own ray. -/
theorem ray_ok {a : Cx} (ha : a.valid) (hz : ¬ a.zero) : (ray a).2 = 0 ∧ (ray a).1.valid ∧ ¬ (ray a).1.zero ∧ (ray a).1 = ⟨a.re / Int.gcd a.re a.im, a.im / Int.gcd a.re a.im, 1⟩ ∧ Int.gcd (ray a).1.re (ray a).1.im = 1 := by
  have hg := nz_gcd hz
  have e : ray a = (⟨a.re / Int.gcd a.re a.im, a.im / Int.gcd a.re a.im, 1⟩, 0) := by rw [ray, if_pos ha, if_neg hz]
  have d1 : ((Int.gcd a.re a.im : Nat) : Int) ∣ a.re := Int.gcd_dvd_left ..
  have d2 : ((Int.gcd a.re a.im : Nat) : Int) ∣ a.im := Int.gcd_dvd_right ..
  have l1 := ediv_le hg d1
  have l2 := ediv_le hg d2
  have hc : Int.gcd (a.re / Int.gcd a.re a.im) (a.im / Int.gcd a.re a.im) = 1 := cop_div hg
  obtain ⟨f1, f2, _, _⟩ := valid_fits ha
  unfold fits at f1 f2
  rw [e]
  refine ⟨rfl, ⟨by simp, by simp, by unfold fits; simp only; omega, by unfold fits; simp only; omega, ?_⟩, ?_, rfl, hc⟩
  · unfold g3; simp only; rw [hc]; rfl
  · rintro ⟨z1, z2⟩
    simp only at z1 z2
    rw [z1, z2] at hc
    simp at hc

theorem ray_ray {a : Cx} (h1 : a.den = 1) (h2 : Int.gcd a.re a.im = 1) (hv : a.valid) (hz : ¬ a.zero) : ray a = (a, 0) := by
  rw [ray, if_pos hv, if_neg hz, h2]
  cases a
  simp at h1
  simp [h1]

theorem one_valid : one.valid := by decide

theorem mul_one_left {a : Cx} (ha : a.valid) : mul one a = (a, 0) := by
  rw [mul, if_pos ⟨one_valid, ha⟩]
  have e : make (one.re * a.re - one.im * a.im) (one.re * a.im + one.im * a.re) (one.den * a.den) = make a.re a.im a.den := by simp [one]
  rw [e, make_valid (by have := ha.1; omega), norm_low (by have := ha.1; omega) ha.2.2.2.2]
  exact if_pos ha

theorem turned_one {v : Cx} (hv : v.valid) (hz : ¬ v.zero) : turned one v = ray v := by
  obtain ⟨h1, h2, h3, h4, h5⟩ := ray_ok hv hz
  rw [turned, if_neg (by simp [h1]), mul_one_left h2, if_neg (by simp), ray_ray (by rw [h4]) h5 h2 h3]
  rw [← h1]

/-- Numbers are zero only if a factor is. -/
theorem mul_zero_iff {a b : Cx} (ha : a.valid) (hb : b.valid) (h : (mul a b).2 = 0) : (mul a b).1.zero ↔ a.zero ∨ b.zero := by
  obtain ⟨h1, h2⟩ := mul_ok ha hb h
  have hp : 0 < a.den * b.den := mul_pos' ha.1 hb.1
  obtain ⟨g, hg, e1, e2, e3, _, _⟩ := norm_spec (x := a.re * b.re - a.im * b.im) (y := a.re * b.im + a.im * b.re) hp
  rw [← h1] at e1 e2
  have key : (a.re * b.re - a.im * b.im) * (a.re * b.re - a.im * b.im) + (a.re * b.im + a.im * b.re) * (a.re * b.im + a.im * b.re) = (a.re * a.re + a.im * a.im) * (b.re * b.re + b.im * b.im) := by grind
  have nz : ∀ c : Cx, c.re * c.re + c.im * c.im = 0 ↔ c.zero := by
    intro c
    constructor
    · intro h
      have s1 := sq_nonneg c.re
      have s2 := sq_nonneg c.im
      have t1 : c.re * c.re = 0 := by omega
      have t2 : c.im * c.im = 0 := by omega
      exact ⟨by rcases Int.mul_eq_zero.1 t1 with h | h <;> exact h, by rcases Int.mul_eq_zero.1 t2 with h | h <;> exact h⟩
    · rintro ⟨h1, h2⟩; rw [h1, h2]; rfl
  constructor
  · rintro ⟨z1, z2⟩
    rw [z1] at e1
    rw [z2] at e2
    rw [e1, e2] at key
    have : (a.re * a.re + a.im * a.im) * (b.re * b.re + b.im * b.im) = 0 := by rw [← key]; simp
    rcases Int.mul_eq_zero.1 this with h | h
    · exact .inl ((nz a).1 h)
    · exact .inr ((nz b).1 h)
  · intro h
    have hx : a.re * b.re - a.im * b.im = 0 ∧ a.re * b.im + a.im * b.re = 0 := by
      rcases h with ⟨z1, z2⟩ | ⟨z1, z2⟩ <;> simp [z1, z2]
    rw [hx.1] at e1
    rw [hx.2] at e2
    have hgz : ((g : Nat) : Int) ≠ 0 := by omega
    exact ⟨(Int.mul_eq_zero.1 e1.symm).resolve_right hgz, (Int.mul_eq_zero.1 e2.symm).resolve_right hgz⟩

/-- One more step: it fails only by range, and gives a ray. -/
theorem turned_err {r v : Cx} (hr : r.valid) (hrz : ¬ r.zero) (hv : v.valid) (hz : ¬ v.zero) :
    ((mul r (ray v).1).2 = 0 ∧ turned r v = ray (mul r (ray v).1).1 ∧ (turned r v).2 = 0 ∧ (turned r v).1.valid ∧ ¬ (turned r v).1.zero ∧ (turned r v).1.den = 1 ∧ Int.gcd (turned r v).1.re (turned r v).1.im = 1) ∨ (mul r (ray v).1 = (c0, 16) ∧ turned r v = (c0, 16)) := by
  obtain ⟨h1, h2, h3, _, _⟩ := ray_ok hv hz
  rcases mul_err hr h2 with h | h
  · refine .inl ?_
    have e : turned r v = ray (mul r (ray v).1).1 := by rw [turned, if_neg (by simp [h1]), if_neg (by simp [h])]
    have hnz : ¬ (mul r (ray v).1).1.zero := by
      rw [mul_zero_iff hr h2 h]
      rintro (h | h)
      · exact hrz h
      · exact h3 h
    obtain ⟨k1, k2, k3, k4, k5⟩ := ray_ok (mul_ok hr h2 h).2 hnz
    refine ⟨h, e, ?_, ?_, ?_, ?_, ?_⟩
    · rw [e]; exact k1
    · rw [e]; exact k2
    · rw [e]; exact k3
    · rw [e, k4]
    · rw [e]; exact k5
  · exact .inr ⟨h, by rw [turned, if_neg (by simp [h1]), h, if_pos (by simp)]⟩

theorem one_nz : ¬ one.zero := by decide

end Go.Pv

/- Directions of complex numbers: closure phases do not depend on the order of the steps. -/
namespace Go.Pv
open Go.Vc

/-- Whole complex numbers. -/
abbrev Z := Int × Int
def zmul (a b : Z) : Z := (a.1 * b.1 - a.2 * b.2, a.1 * b.2 + a.2 * b.1)
def zconj (a : Z) : Z := (a.1, -a.2)
def zn (c : Cx) : Z := (c.re, c.im)

theorem zmul_comm (a b : Z) : zmul a b = zmul b a := by
  unfold zmul; ext <;> grind
theorem zmul_assoc (a b c : Z) : zmul (zmul a b) c = zmul a (zmul b c) := by
  unfold zmul; ext <;> grind
theorem zmul_one (a : Z) : zmul a (1, 0) = a := by
  unfold zmul; ext <;> simp
theorem zmul_conj (a b : Z) : zmul (zconj a) (zconj b) = zconj (zmul a b) := by
  unfold zmul zconj; ext <;> grind

def zprod (l : List Cx) : Z := l.foldr (fun v z => zmul (zn v) z) (1, 0)

theorem zprod_cons (v : Cx) (l : List Cx) : zprod (v :: l) = zmul (zn v) (zprod l) := rfl

theorem zprod_perm {l m : List Cx} (h : l.Perm m) : zprod l = zprod m := by
  induction h with
  | nil => rfl
  | cons x _ ih => rw [zprod_cons, zprod_cons, ih]
  | swap x y l =>
    rw [zprod_cons, zprod_cons, zprod_cons, zprod_cons, ← zmul_assoc, zmul_comm (zn y), zmul_assoc]
  | trans _ _ h1 h2 => rw [h1, h2]

theorem zprod_conj (l : List Cx) : zprod (l.map conj) = zconj (zprod l) := by
  induction l with
  | nil => rfl
  | cons v r ih =>
    rw [List.map_cons, zprod_cons, zprod_cons, ih, show zn (conj v) = zconj (zn v) from rfl, zmul_conj]

/-- The same direction. -/
def par (a b : Z) : Prop := ∃ s t : Int, 0 < s ∧ 0 < t ∧ a.1 * s = b.1 * t ∧ a.2 * s = b.2 * t

theorem par_refl (a : Z) : par a a := ⟨1, 1, by decide, by decide, rfl, rfl⟩
theorem par_symm {a b : Z} : par a b → par b a := fun ⟨s, t, h1, h2, h3, h4⟩ => ⟨t, s, h2, h1, h3.symm, h4.symm⟩
theorem par_trans {a b c : Z} : par a b → par b c → par a c := fun ⟨s, t, h1, h2, h3, h4⟩ ⟨u, v, k1, k2, k3, k4⟩ =>
  ⟨s * u, t * v, Int.mul_pos h1 k1, Int.mul_pos h2 k2, by grind, by grind⟩
theorem par_mul {a b c d : Z} : par a b → par c d → par (zmul a c) (zmul b d) := fun ⟨s, t, h1, h2, h3, h4⟩ ⟨u, v, k1, k2, k3, k4⟩ =>
  ⟨s * u, t * v, Int.mul_pos h1 k1, Int.mul_pos h2 k2, by unfold zmul; grind, by unfold zmul; grind⟩
theorem par_conj {a b : Z} : par a b → par (zconj a) (zconj b) := fun ⟨s, t, h1, h2, h3, h4⟩ => ⟨s, t, h1, h2, h3, by unfold zconj; simp only; grind⟩

theorem par_unique {a b : Z} (h : par a b) (ha : Int.gcd a.1 a.2 = 1) (hb : Int.gcd b.1 b.2 = 1) : a = b := by
  obtain ⟨s, t, h1, h2, h3, h4⟩ := h
  have e : Int.gcd (a.1 * s) (a.2 * s) = Int.gcd (b.1 * t) (b.2 * t) := by rw [h3, h4]
  rw [Int.gcd_mul_right, Int.gcd_mul_right, ha, hb] at e
  have : s = t := by omega
  subst this
  have hs : s ≠ 0 := by omega
  exact Prod.ext (Int.eq_of_mul_eq_mul_right hs h3) (Int.eq_of_mul_eq_mul_right hs h4)

theorem ray_par {a : Cx} (ha : a.valid) (hz : ¬ a.zero) : par (zn (ray a).1) (zn a) := by
  obtain ⟨_, _, _, e, _⟩ := ray_ok ha hz
  have hg := nz_gcd hz
  rw [e]
  refine ⟨Int.gcd a.re a.im, 1, by omega, by decide, ?_, ?_⟩
  · show a.re / (Int.gcd a.re a.im : Int) * (Int.gcd a.re a.im : Int) = a.re * 1
    rw [Int.ediv_mul_cancel (Int.gcd_dvd_left ..), Int.mul_one]
  · show a.im / (Int.gcd a.re a.im : Int) * (Int.gcd a.re a.im : Int) = a.im * 1
    rw [Int.ediv_mul_cancel (Int.gcd_dvd_right ..), Int.mul_one]

theorem mul_par {a b : Cx} (ha : a.valid) (hb : b.valid) (h : (mul a b).2 = 0) : par (zn (mul a b).1) (zmul (zn a) (zn b)) := by
  rw [(mul_ok ha hb h).1]
  obtain ⟨g, hg, e1, e2, _⟩ := norm_spec (x := a.re * b.re - a.im * b.im) (y := a.re * b.im + a.im * b.re) (mul_pos' ha.1 hb.1)
  exact ⟨g, 1, by omega, by decide, by rw [Int.mul_one]; exact e1.symm, by rw [Int.mul_one]; exact e2.symm⟩

/-- A step's direction. -/
theorem turned_par {r v : Cx} (hr : r.valid) (hrz : ¬ r.zero) (hv : v.valid) (hz : ¬ v.zero) (h : (turned r v).2 = 0) : par (zn (turned r v).1) (zmul (zn r) (zn v)) := by
  rcases turned_err hr hrz hv hz with h' | h'
  · obtain ⟨h1, h2, _⟩ := h'
    obtain ⟨k1, k2, k3, _, _⟩ := ray_ok hv hz
    have hnz : ¬ (mul r (ray v).1).1.zero := by
      rw [mul_zero_iff hr k2 h1]
      rintro (h | h)
      · exact hrz h
      · exact k3 h
    rw [h2]
    exact par_trans (ray_par (mul_ok hr k2 h1).2 hnz) (par_trans (mul_par hr k2 h1) (par_mul (par_refl _) (ray_par hv hz)))
  · rw [h'.2] at h; simp at h

theorem fold_par : ∀ (vs : List Cx) {r : Cx}, r.valid → ¬ r.zero → (∀ v ∈ vs, v.valid ∧ ¬ v.zero) → (fold27 r vs).2 = 0 → par (zn (fold27 r vs).1) (zmul (zn r) (zprod vs))
  | [], r, _, _, _, _ => by
    show par (zn r) (zmul (zn r) (1, 0))
    rw [zmul_one]; exact par_refl _
  | v :: vs, r, hr, hrz, hv, h => by
    rw [fold27] at h ⊢
    have hv0 := hv v (by simp)
    split at h
    · rename_i h'; exact absurd h h'
    · rename_i h'
      rw [if_neg h']
      have h' : (turned r v).2 = 0 := by simpa using h'
      have ht := turned_par hr hrz hv0.1 hv0.2 h'
      rcases turned_err hr hrz hv0.1 hv0.2 with t | t
      · have ih := fold_par vs t.2.2.2.1 t.2.2.2.2.1 (fun v hv' => hv v (by simp [hv'])) h
        rw [zprod_cons, ← zmul_assoc]
        exact par_trans ih (par_mul ht (par_refl _))
      · rw [t.2] at h'; simp at h'

theorem fold_good : ∀ (vs : List Cx) {r : Cx}, r.valid → ¬ r.zero → r.den = 1 → Int.gcd r.re r.im = 1 → (∀ v ∈ vs, v.valid ∧ ¬ v.zero) →
    ((fold27 r vs).2 = 0 ∧ (fold27 r vs).1.valid ∧ (fold27 r vs).1.den = 1 ∧ Int.gcd (fold27 r vs).1.re (fold27 r vs).1.im = 1) ∨ fold27 r vs = (c0, 16)
  | [], r, hr, hrz, h1, h2, _ => .inl ⟨rfl, hr, h1, h2⟩
  | v :: vs, r, hr, hrz, h1, h2, hv => by
    have hv0 := hv v (by simp)
    rw [fold27]
    rcases turned_err hr hrz hv0.1 hv0.2 with t | t
    · rw [if_neg (by simp [t.2.2.1])]
      exact fold_good vs t.2.2.2.1 t.2.2.2.2.1 t.2.2.2.2.2.1 t.2.2.2.2.2.2 fun v hv' => hv v (by simp [hv'])
    · rw [t.2, if_pos (by simp)]; exact .inr rfl

/-- The same circle, begun elsewhere. -/
theorem pairs_rot {c : List Int} (h1 : 3 ≤ c.length) (h2 : c.length ≤ 8) {k : Nat} (hk : k < c.length) : pairs (c.drop k ++ c.take k) = (pairs c).drop k ++ (pairs c).take k := by
  match c, h1, h2, hk with
  | [a, b, c], _, _, hk =>
    obtain rfl | rfl | rfl : k = 0 ∨ k = 1 ∨ k = 2 := by simp at hk; omega
    all_goals simp [pairs, List.range, List.range.loop]
  | [a, b, c, d], _, _, hk =>
    obtain rfl | rfl | rfl | rfl : k = 0 ∨ k = 1 ∨ k = 2 ∨ k = 3 := by simp at hk; omega
    all_goals simp [pairs, List.range, List.range.loop]
  | [a, b, c, d, e], _, _, hk =>
    obtain rfl | rfl | rfl | rfl | rfl : k = 0 ∨ k = 1 ∨ k = 2 ∨ k = 3 ∨ k = 4 := by simp at hk; omega
    all_goals simp [pairs, List.range, List.range.loop]
  | [a, b, c, d, e, f], _, _, hk =>
    obtain rfl | rfl | rfl | rfl | rfl | rfl : k = 0 ∨ k = 1 ∨ k = 2 ∨ k = 3 ∨ k = 4 ∨ k = 5 := by simp at hk; omega
    all_goals simp [pairs, List.range, List.range.loop]
  | [a, b, c, d, e, f, g], _, _, hk =>
    obtain rfl | rfl | rfl | rfl | rfl | rfl | rfl : k = 0 ∨ k = 1 ∨ k = 2 ∨ k = 3 ∨ k = 4 ∨ k = 5 ∨ k = 6 := by simp at hk; omega
    all_goals simp [pairs, List.range, List.range.loop]
  | [a, b, c, d, e, f, g, h], _, _, hk =>
    obtain rfl | rfl | rfl | rfl | rfl | rfl | rfl | rfl : k = 0 ∨ k = 1 ∨ k = 2 ∨ k = 3 ∨ k = 4 ∨ k = 5 ∨ k = 6 ∨ k = 7 := by simp at hk; omega
    all_goals simp [pairs, List.range, List.range.loop]
  | _ :: _ :: _ :: _ :: _ :: _ :: _ :: _ :: _ :: _, _, h, _ => simp at h

def swap (s : Pr) : Pr := ⟨s.b, s.a⟩

theorem pairs_rev {c : List Int} (h1 : 3 ≤ c.length) (h2 : c.length ≤ 8) : pairs c.reverse = (((pairs c).map swap).reverse).drop 1 ++ (((pairs c).map swap).reverse).take 1 := by
  match c, h1, h2 with
  | [a, b, c], _, _ => simp [pairs, swap, List.range, List.range.loop]
  | [a, b, c, d], _, _ => simp [pairs, swap, List.range, List.range.loop]
  | [a, b, c, d, e], _, _ => simp [pairs, swap, List.range, List.range.loop]
  | [a, b, c, d, e, f], _, _ => simp [pairs, swap, List.range, List.range.loop]
  | [a, b, c, d, e, f, g], _, _ => simp [pairs, swap, List.range, List.range.loop]
  | [a, b, c, d, e, f, g, h], _, _ => simp [pairs, swap, List.range, List.range.loop]
  | _ :: _ :: _ :: _ :: _ :: _ :: _ :: _ :: _ :: _, _, h => simp at h

theorem rot_perm {α : Type} (l : List α) (k : Nat) : (l.drop k ++ l.take k).Perm l := by
  conv => rhs; rw [← List.take_append_drop k l]
  exact List.perm_append_comm

theorem conj_conj (a : Cx) : conj (conj a) = a := by
  unfold conj; simp

/-- The other way about. -/
theorem got_swap {l : List Vis} (hl : ∀ v ∈ l, v.good 8) (i j : Int) : got j i l = (got i j l).map conj := by
  induction l with
  | nil => rfl
  | cons v r ih =>
    have g := hl v (by simp)
    unfold got
    by_cases h1 : v.i = i ∧ v.j = j
    · have h2 : ¬ (v.i = j ∧ v.j = i) := fun h => by
        have := g.2.1
        omega
      rw [if_pos h1, if_neg h2, if_pos h1]; rfl
    · by_cases h2 : v.i = j ∧ v.j = i
      · rw [if_pos h2, if_neg h1, if_pos h2]; show some v.v = some (conj (conj v.v)); rw [conj_conj]
      · rw [if_neg h1, if_neg h2, if_neg h2, if_neg h1]
        exact ih fun u hu => hl u (by simp [hu])

theorem gD_swap {l : List Vis} (hl : ∀ v ∈ l, v.good 8) (s : Pr) : gD l (swap s) = conj (gD l s) := by
  unfold gD swap
  rw [got_swap hl]
  cases got s.a s.b l with
  | none => rfl
  | some c => rfl

theorem conj_zero (a : Cx) : (conj a).zero ↔ a.zero := by
  unfold conj Cx.zero; simp

theorem along_perm {l : List Vis} {s t : List Pr} (h : s.Perm t) : (along27 l s).2 = (along27 l t).2 := by
  unfold along27
  have e1 : s.all (fun s => (got s.a s.b l).isSome) = t.all (fun s => (got s.a s.b l).isSome) := by
    rw [Bool.eq_iff_iff, List.all_eq_true, List.all_eq_true]
    exact ⟨fun H x hx => H x (h.mem_iff.2 hx), fun H x hx => H x (h.mem_iff.1 hx)⟩
  have e2 : s.any (fun s => decide (gD l s).zero) = t.any (fun s => decide (gD l s).zero) := by
    rw [Bool.eq_iff_iff, List.any_eq_true, List.any_eq_true]
    exact ⟨fun ⟨x, hx, H⟩ => ⟨x, h.mem_iff.1 hx, H⟩, fun ⟨x, hx, H⟩ => ⟨x, h.mem_iff.2 hx, H⟩⟩
  rw [e1, e2]
  split
  · split <;> rfl
  · rfl

theorem along_swap {l : List Vis} (hl : ∀ v ∈ l, v.good 8) (s : List Pr) : (along27 l (s.map swap)).2 = (along27 l s).2 := by
  unfold along27
  have e1 : (s.map swap).all (fun s => (got s.a s.b l).isSome) = s.all (fun s => (got s.a s.b l).isSome) := by
    rw [List.all_map]
    congr 1
    funext x
    show (got x.b x.a l).isSome = _
    rw [got_swap hl]; simp
  have e2 : (s.map swap).any (fun s => decide (gD l s).zero) = s.any (fun s => decide (gD l s).zero) := by
    rw [List.any_map]
    congr 1
    funext x
    show decide (gD l (swap x)).zero = _
    rw [gD_swap hl, Bool.eq_iff_iff]
    simp [conj_zero]
  rw [e1, e2]
  split
  · split <;> rfl
  · rfl

theorem gcd_one_one : Int.gcd one.re one.im = 1 := by decide

theorem apart_perm {c d : List Int} (h : c.Perm d) : apart c ↔ apart d := by
  unfold apart
  exact ⟨fun ⟨a, b⟩ => ⟨fun s hs => a s (h.mem_iff.2 hs), h.nodup_iff.1 b⟩, fun ⟨a, b⟩ => ⟨fun s hs => a s (h.mem_iff.1 hs), h.nodup_iff.2 b⟩⟩

theorem circle_perm {c d : List Int} (h : c.Perm d) : circle c ↔ circle d := by
  unfold circle
  rw [apart_perm h, h.length_eq]

/-- What a phase is: an error that does not depend on the steps' order, or the direction of the product. -/
theorem phase_cases {l : List Vis} (h0 : ck27 l = 0) {c : List Int} (hc : circle c) :
    ((along27 l (pairs c)).2 ≠ 0 ∧ phase l c = (c0, (along27 l (pairs c)).2)) ∨ ((along27 l (pairs c)).2 = 0 ∧
      (phase l c = (c0, 16) ∨ ((phase l c).2 = 0 ∧ (phase l c).1.valid ∧ (phase l c).1.den = 1 ∧ Int.gcd (phase l c).1.re (phase l c).1.im = 1 ∧ par (zn (phase l c).1) (zprod ((pairs c).map (gD l)))))) := by
  obtain ⟨hlen, hgood, _⟩ := ck27_0 h0
  have e : phase l c = if (along27 l (pairs c)).2 ≠ 0 then (c0, (along27 l (pairs c)).2) else fold27 one (along27 l (pairs c)).1 := by
    rw [phase, if_neg (by simp [h0]), if_neg (by simp [hc])]
  by_cases h1 : (along27 l (pairs c)).2 = 0
  · refine .inr ⟨h1, ?_⟩
    obtain ⟨e1, e2, e3⟩ := along27_0 hgood h1
    rw [if_neg (by simp [h1]), e1] at e
    have hv : ∀ v ∈ (pairs c).map (gD l), v.valid ∧ ¬ v.zero := fun v hv => by
      rw [List.mem_map] at hv
      obtain ⟨s, hs, rfl⟩ := hv
      exact e3 s hs
    rcases fold_good _ one_valid one_nz rfl gcd_one_one hv with h | h
    · refine .inr ?_
      rw [e]
      refine ⟨h.1, h.2.1, h.2.2.1, h.2.2.2, ?_⟩
      have := fold_par _ one_valid one_nz hv h.1
      rwa [zmul_comm, show zn one = (1, 0) from rfl, zmul_one] at this
    · exact .inl (by rw [e, h])
  · exact .inl ⟨h1, by rw [e, if_pos h1]⟩

/-- Two ways along the same steps. -/
theorem phase_like {l : List Vis} (h0 : ck27 l = 0) {c d : List Int} (hc : circle c) (hd : circle d) (ha : (along27 l (pairs d)).2 = (along27 l (pairs c)).2) :
    ((phase l c).2 = (phase l d).2 ∨ (phase l c).2 = 16 ∨ (phase l d).2 = 16) := by
  rcases phase_cases h0 hc with ⟨h1, h2⟩ | ⟨h1, h2⟩
  · rcases phase_cases h0 hd with ⟨k1, k2⟩ | ⟨k1, k2⟩
    · rw [h2, k2]; exact .inl ha.symm
    · exact absurd (ha.symm.trans k1) h1
  · rcases phase_cases h0 hd with ⟨k1, k2⟩ | ⟨k1, k2⟩
    · exact absurd (ha.trans h1) k1
    · rcases h2 with h2 | h2
      · rw [h2]; exact .inr (.inl rfl)
      · rcases k2 with k2 | k2
        · rw [k2]; exact .inr (.inr rfl)
        · rw [h2.1, k2.1]; exact .inl rfl

theorem phase_ok {l : List Vis} (h0 : ck27 l = 0) {c : List Int} (hc : circle c) (h : (phase l c).2 = 0) : (phase l c).1.valid ∧ (phase l c).1.den = 1 ∧ Int.gcd (phase l c).1.re (phase l c).1.im = 1 ∧ par (zn (phase l c).1) (zprod ((pairs c).map (gD l))) := by
  rcases phase_cases h0 hc with ⟨h1, h2⟩ | ⟨h1, h2 | h2⟩
  · rw [h2] at h; exact absurd h h1
  · rw [h2] at h; simp at h
  · exact h2.2

theorem cx_of_zn {a b : Cx} (h : zn a = zn b) (h1 : a.den = b.den) : a = b := by
  cases a; cases b
  simp only [zn, Prod.mk.injEq] at h
  simp only at h1
  simp [h.1, h.2, h1]

/-- A circle that begins elsewhere. -/
theorem phase_rot {l : List Vis} (h0 : ck27 l = 0) {c : List Int} (hc : circle c) {k : Nat} (hk : k < c.length) :
    ((phase l c).2 = (phase l (c.drop k ++ c.take k)).2 ∨ (phase l c).2 = 16 ∨ (phase l (c.drop k ++ c.take k)).2 = 16) ∧ ((phase l c).2 = 0 → (phase l (c.drop k ++ c.take k)).2 = 0 → phase l c = phase l (c.drop k ++ c.take k)) := by
  have hd : circle (c.drop k ++ c.take k) := (circle_perm (rot_perm c k)).2 hc
  have hp : (pairs (c.drop k ++ c.take k)).Perm (pairs c) := by rw [pairs_rot hc.1 hc.2.1 hk]; exact rot_perm _ _
  refine ⟨phase_like h0 hc hd (along_perm hp), fun h1 h2 => ?_⟩
  obtain ⟨_, d1, g1, p1⟩ := phase_ok h0 hc h1
  obtain ⟨_, d2, g2, p2⟩ := phase_ok h0 hd h2
  have e := zprod_perm (hp.map (gD l))
  rw [e] at p2
  exact Prod.ext (cx_of_zn (par_unique (par_trans p1 (par_symm p2)) g1 g2) (d1.trans d2.symm)) (h1.trans h2.symm)

/-- The other way about. -/
theorem phase_rev {l : List Vis} (h0 : ck27 l = 0) {c : List Int} (hc : circle c) :
    ((phase l c).2 = (phase l c.reverse).2 ∨ (phase l c).2 = 16 ∨ (phase l c.reverse).2 = 16) ∧ ((phase l c).2 = 0 → (phase l c.reverse).2 = 0 → (phase l c.reverse).1 = conj (phase l c).1) := by
  have hd : circle c.reverse := (circle_perm (List.reverse_perm c)).2 hc
  obtain ⟨_, hgood, _⟩ := ck27_0 h0
  have hp : (pairs c.reverse).Perm ((pairs c).map swap) := by
    rw [pairs_rev hc.1 hc.2.1]
    exact (rot_perm _ _).trans (List.reverse_perm _)
  refine ⟨phase_like h0 hc hd (by rw [along_perm hp, along_swap hgood]), fun h1 h2 => ?_⟩
  obtain ⟨_, d1, g1, p1⟩ := phase_ok h0 hc h1
  obtain ⟨_, d2, g2, p2⟩ := phase_ok h0 hd h2
  have e := zprod_perm (hp.map (gD l))
  rw [e, List.map_map, show (gD l ∘ swap) = conj ∘ gD l from funext fun s => gD_swap hgood s, ← List.map_map, zprod_conj] at p2
  refine cx_of_zn (par_unique (par_trans p2 (par_symm (par_conj p1))) g2 ?_) (d2.trans d1.symm)
  show Int.gcd (phase l c).1.re (-(phase l c).1.im) = 1
  rw [Int.gcd_neg]; exact g1

end Go.Pv

/- Closure amplitudes: what they are, and exchanges of stations. -/
namespace Go.Pv
open Go.Vc

def ns (c : Cx) : Int := c.re * c.re + c.im * c.im
def ds (c : Cx) : Int := c.den * c.den

theorem ns_pos {c : Cx} (h : ¬ c.zero) : 0 < ns c := by
  have s1 := sq_nonneg c.re
  have s2 := sq_nonneg c.im
  unfold ns
  rcases Int.lt_trichotomy (c.re * c.re + c.im * c.im) 0 with h' | h' | h'
  · omega
  · have t1 : c.re * c.re = 0 := by omega
    have t2 : c.im * c.im = 0 := by omega
    exact absurd ⟨by rcases Int.mul_eq_zero.1 t1 with h | h <;> exact h, by rcases Int.mul_eq_zero.1 t2 with h | h <;> exact h⟩ h
  · exact h'

theorem ds_pos {c : Cx} (h : c.valid) : 0 < ds c := Int.mul_pos (by have := h.1; omega) (by have := h.1; omega)

theorem ns_conj (c : Cx) : ns (conj c) = ns c := by unfold ns conj; simp only; rw [Int.neg_mul_neg]
theorem ds_conj (c : Cx) : ds (conj c) = ds c := rfl

theorem norm_ns {x y z : Int} (hz : 0 < z) : ∃ g : Int, 0 < g ∧ x * x + y * y = ns (norm x y z) * g ∧ z * z = ds (norm x y z) * g := by
  obtain ⟨g, hg, e1, e2, e3, _⟩ := norm_spec (x := x) (y := y) hz
  refine ⟨(g : Int) * g, Int.mul_pos (by omega) (by omega), ?_, ?_⟩
  · unfold ns
    generalize norm x y z = m at *
    rw [e1, e2]; grind
  · unfold ds
    generalize norm x y z = m at *
    rw [e3]; grind

theorem mul_ns {a b : Cx} (ha : a.valid) (hb : b.valid) (h : (mul a b).2 = 0) : ns (mul a b).1 * (ds a * ds b) = ds (mul a b).1 * (ns a * ns b) := by
  rw [(mul_ok ha hb h).1]
  obtain ⟨g, hg, e1, e2⟩ := norm_ns (x := a.re * b.re - a.im * b.im) (y := a.re * b.im + a.im * b.re) (mul_pos' ha.1 hb.1)
  generalize norm (a.re * b.re - a.im * b.im) (a.re * b.im + a.im * b.re) (a.den * b.den) = m at *
  have f1 : ns a * ns b = ns m * g := by rw [← e1]; unfold ns; grind
  have f2 : ds a * ds b = ds m * g := by rw [← e2]; unfold ds; grind
  rw [f1, f2]; grind

theorem div_ns {a b : Cx} (ha : a.valid) (hb : b.valid) (hz : ¬ b.zero) (h : (div a b).2 = 0) : (div a b).1.valid ∧ ns (div a b).1 * (ds a * ns b) = ds (div a b).1 * (ns a * ds b) := by
  have hn := ns_pos hz
  rw [div, if_pos ⟨ha, hb⟩, if_neg hz] at h ⊢
  have hp : 0 < (b.re * b.re + b.im * b.im) * a.den := Int.mul_pos hn (by have := ha.1; omega)
  obtain ⟨h1, h2⟩ := make_ok hp h
  rw [h1]
  refine ⟨h2, ?_⟩
  obtain ⟨g, hg, e1, e2⟩ := norm_ns (x := (a.re * b.re + a.im * b.im) * b.den) (y := (a.im * b.re - a.re * b.im) * b.den) hp
  generalize norm ((a.re * b.re + a.im * b.im) * b.den) ((a.im * b.re - a.re * b.im) * b.den) ((b.re * b.re + b.im * b.im) * a.den) = m at *
  have f1 : ns a * ns b * ds b = ns m * g := by rw [← e1]; unfold ns ds; grind
  have f2 : ns b * ns b * ds a = ds m * g := by rw [← e2]; unfold ns ds; grind
  have hgz : g * ns b ≠ 0 := by
    have := Int.mul_pos hg hn
    omega
  apply Int.eq_of_mul_eq_mul_right hgz
  have : ns m * (ds a * ns b) * (g * ns b) = (ns m * g) * (ds a * ns b * ns b) := by grind
  rw [this, ← f1]
  have : ds m * (ns a * ds b) * (g * ns b) = (ds m * g) * (ns a * ds b * ns b) := by grind
  rw [this, ← f2]
  grind

theorem nrm_ns {a : Cx} (ha : a.valid) (hz : ¬ a.zero) (h : (nrm a).2 = 0) : 0 < (nrm a).1.num ∧ 0 < (nrm a).1.den ∧ Int.gcd (nrm a).1.num (nrm a).1.den = 1 ∧ (nrm a).1.num * ds a = (nrm a).1.den * ns a := by
  have hn := ns_pos hz
  have hd := ds_pos ha
  rw [nrm, if_pos ha] at h ⊢
  split at h
  · simp at h
  · rename_i h'
    rw [if_neg h']
    unfold ns at hn
    unfold ds at hd
    show 0 < (a.re * a.re + a.im * a.im) / _ ∧ 0 < (a.den * a.den) / _ ∧ _
    unfold ns ds
    generalize a.re * a.re + a.im * a.im = n at *
    generalize a.den * a.den = d at *
    have hg : 0 < Int.gcd n d := Int.gcd_pos_of_ne_zero_left _ (by omega)
    have d1 : ((Int.gcd n d : Nat) : Int) ∣ n := Int.gcd_dvd_left ..
    have d2 : ((Int.gcd n d : Nat) : Int) ∣ d := Int.gcd_dvd_right ..
    refine ⟨ediv_pos hg d1 hn, ediv_pos hg d2 hd, cop_div hg, ?_⟩
    show n / _ * d = d / _ * n
    obtain ⟨u, hu⟩ := d1
    obtain ⟨v, hv⟩ := d2
    have hG : ((Int.gcd n d : Nat) : Int) ≠ 0 := by omega
    generalize ((Int.gcd n d : Nat) : Int) = G at hu hv hG ⊢
    rw [hu, hv, Int.mul_ediv_cancel_left _ hG, Int.mul_ediv_cancel_left _ hG]
    grind

theorem frac_unique {a b c d : Int} (ha : 0 < a) (hb : 0 < b) (hc : 0 < c) (hd : 0 < d) (h1 : Int.gcd a b = 1) (h2 : Int.gcd c d = 1) (e : a * d = c * b) : a = c ∧ b = d := by
  have hp : par (a, b) (c, d) := ⟨d, b, hd, hb, e, Int.mul_comm b d⟩
  have := par_unique hp h1 h2
  simpa using this

/-- What an amplitude is. -/
theorem amp4_spec {p q r s : Cx} (hp : p.valid) (hq : q.valid) (hr : r.valid) (hs : s.valid) (zp : ¬ p.zero) (zq : ¬ q.zero) (zr : ¬ r.zero) (zs : ¬ s.zero) :
    amp4 p q r s = (f0, 16) ∨ ((amp4 p q r s).2 = 0 ∧ 0 < (amp4 p q r s).1.num ∧ 0 < (amp4 p q r s).1.den ∧ Int.gcd (amp4 p q r s).1.num (amp4 p q r s).1.den = 1 ∧
      (amp4 p q r s).1.num * ((ds p * ds q) * (ns r * ns s)) = (amp4 p q r s).1.den * ((ns p * ns q) * (ds r * ds s))) := by
  unfold amp4
  rcases mul_err hp hq with h1 | h1
  · rw [if_neg (by simp [h1])]
    rcases mul_err hr hs with h2 | h2
    · rw [if_neg (by simp [h2])]
      have v1 := (mul_ok hp hq h1).2
      have v2 := (mul_ok hr hs h2).2
      have z1 : ¬ (mul p q).1.zero := by
        rw [mul_zero_iff hp hq h1]; exact fun h => h.elim zp zq
      have z2 : ¬ (mul r s).1.zero := by
        rw [mul_zero_iff hr hs h2]; exact fun h => h.elim zr zs
      have m1 := mul_ns hp hq h1
      have m2 := mul_ns hr hs h2
      have w1 := ds_pos v1
      have w2 := ds_pos v2
      have w3 := ns_pos z1
      have w4 := ns_pos z2
      generalize (mul p q).1 = x at *
      generalize (mul r s).1 = y at *
      have he : (div x y).2 = 0 ∨ div x y = (c0, 16) := by
        rw [div, if_pos ⟨v1, v2⟩, if_neg z2]; exact make_err _ _ _
      rcases he with h3 | h3
      · rw [if_neg (by simp [h3])]
        obtain ⟨v3, e3⟩ := div_ns v1 v2 z2 h3
        have z3 : ¬ (div x y).1.zero := fun h => by
          have : ns (div x y).1 = 0 := by unfold ns; rw [h.1, h.2]; rfl
          rw [this, Int.zero_mul] at e3
          have := Int.mul_pos (ds_pos v3) (Int.mul_pos w3 w2)
          omega
        have w5 := ds_pos v3
        have w6 := ns_pos z3
        generalize (div x y).1 = u at *
        rcases (show (nrm u).2 = 0 ∨ nrm u = (f0, 16) from by rw [nrm, if_pos v3]; split <;> first | exact .inr rfl | exact .inl rfl) with h4 | h4
        · obtain ⟨n1, n2, n3, n4⟩ := nrm_ns v3 z3 h4
          refine .inr ⟨h4, n1, n2, n3, ?_⟩
          generalize (nrm u).1.num = N at *
          generalize (nrm u).1.den = D at *
          generalize ds p * ds q = a1 at *
          generalize ns p * ns q = a2 at *
          generalize ds r * ds s = a3 at *
          generalize ns r * ns s = a4 at *
          generalize ns x = nx at *
          generalize ds x = dx at *
          generalize ns y = ny at *
          generalize ds y = dy at *
          generalize ns u = nu at *
          generalize ds u = du at *
          -- m1: nx a1 = dx a2; m2: ny a3 = dy a4; e3: nu (dx ny) = du (nx dy); n4: N du = D nu
          have i1 : N * dx * ny = D * nx * dy := by
            apply Int.eq_of_mul_eq_mul_right (a := du) (by omega)
            have t1 : N * dx * ny * du = (N * du) * (dx * ny) := by grind
            have t2 : D * nu * (dx * ny) = D * (nu * (dx * ny)) := by grind
            rw [t1, n4, t2, e3]; grind
          have hk : dx * dy ≠ 0 := by
            have := Int.mul_pos w1 w2
            omega
          apply Int.eq_of_mul_eq_mul_right hk
          have t1 : N * (a1 * a4) * (dx * dy) = N * dx * (dy * a4) * a1 := by grind
          have t2 : N * dx * (ny * a3) * a1 = (N * dx * ny) * (a3 * a1) := by grind
          have t3 : D * nx * dy * (a3 * a1) = D * dy * a3 * (nx * a1) := by grind
          rw [t1, ← m2, t2, i1, t3, m1]; grind
        · exact .inl h4
      · rw [h3, if_pos (by simp)]; exact .inl rfl
    · rw [h2, if_pos (by simp)]; exact .inl rfl
  · rw [h1, if_pos (by simp)]; exact .inl rfl


theorem amp_cases {l : List Vis} (h0 : ck27 l = 0) (a b c d : Int) :
    (¬ apart [a, b, c, d] ∧ amp l a b c d = (f0, 2)) ∨ (apart [a, b, c, d] ∧ (along27 l [⟨a, b⟩, ⟨c, d⟩, ⟨a, c⟩, ⟨b, d⟩]).2 ≠ 0 ∧ amp l a b c d = (f0, (along27 l [⟨a, b⟩, ⟨c, d⟩, ⟨a, c⟩, ⟨b, d⟩]).2)) ∨
    (apart [a, b, c, d] ∧ (along27 l [⟨a, b⟩, ⟨c, d⟩, ⟨a, c⟩, ⟨b, d⟩]).2 = 0 ∧ (amp l a b c d = (f0, 16) ∨ ((amp l a b c d).2 = 0 ∧ 0 < (amp l a b c d).1.num ∧ 0 < (amp l a b c d).1.den ∧ Int.gcd (amp l a b c d).1.num (amp l a b c d).1.den = 1 ∧
      (amp l a b c d).1.num * ((ds (gD l ⟨a, b⟩) * ds (gD l ⟨c, d⟩)) * (ns (gD l ⟨a, c⟩) * ns (gD l ⟨b, d⟩))) = (amp l a b c d).1.den * ((ns (gD l ⟨a, b⟩) * ns (gD l ⟨c, d⟩)) * (ds (gD l ⟨a, c⟩) * ds (gD l ⟨b, d⟩)))))) := by
  obtain ⟨hlen, hgood, _⟩ := ck27_0 h0
  by_cases h1 : apart [a, b, c, d]
  · by_cases h2 : (along27 l [⟨a, b⟩, ⟨c, d⟩, ⟨a, c⟩, ⟨b, d⟩]).2 = 0
    · refine .inr (.inr ⟨h1, h2, ?_⟩)
      have e : amp l a b c d = amp4 (gD l ⟨a, b⟩) (gD l ⟨c, d⟩) (gD l ⟨a, c⟩) (gD l ⟨b, d⟩) := by rw [amp, if_neg (by simp [h0]), if_neg (by simp [h1]), if_neg (by simp [h2])]
      obtain ⟨_, _, e3⟩ := along27_0 hgood h2
      rw [e]
      have hA := e3 ⟨a, b⟩ (by simp)
      have hB := e3 ⟨c, d⟩ (by simp)
      have hC := e3 ⟨a, c⟩ (by simp)
      have hD := e3 ⟨b, d⟩ (by simp)
      exact amp4_spec hA.1 hB.1 hC.1 hD.1 hA.2 hB.2 hC.2 hD.2
    · exact .inr (.inl ⟨h1, h2, by rw [amp, if_neg (by simp [h0]), if_neg (by simp [h1]), if_pos h2]⟩)
  · exact .inl ⟨h1, by rw [amp, if_neg (by simp [h0]), if_pos h1]⟩

/-- Errors of two amplitudes of the same baselines. -/
theorem amp_like {l : List Vis} (h0 : ck27 l = 0) {a b c d a' b' c' d' : Int} (h1 : apart [a, b, c, d] ↔ apart [a', b', c', d'])
    (h2 : (along27 l [⟨a, b⟩, ⟨c, d⟩, ⟨a, c⟩, ⟨b, d⟩]).2 = (along27 l [⟨a', b'⟩, ⟨c', d'⟩, ⟨a', c'⟩, ⟨b', d'⟩]).2) :
    (amp l a b c d).2 = (amp l a' b' c' d').2 ∨ (amp l a b c d).2 = 16 ∨ (amp l a' b' c' d').2 = 16 := by
  rcases amp_cases h0 a b c d with ⟨p1, p2⟩ | ⟨p1, p2, p3⟩ | ⟨p1, p2, p3⟩
  · rcases amp_cases h0 a' b' c' d' with ⟨q1, q2⟩ | ⟨q1, q2, q3⟩ | ⟨q1, q2, q3⟩
    · rw [p2, q2]; exact .inl rfl
    · exact absurd (h1.2 q1) p1
    · exact absurd (h1.2 q1) p1
  · rcases amp_cases h0 a' b' c' d' with ⟨q1, q2⟩ | ⟨q1, q2, q3⟩ | ⟨q1, q2, q3⟩
    · exact absurd (h1.1 p1) q1
    · rw [p3, q3]; exact .inl h2
    · exact absurd (h2.trans q2) p2
  · rcases amp_cases h0 a' b' c' d' with ⟨q1, q2⟩ | ⟨q1, q2, q3⟩ | ⟨q1, q2, q3⟩
    · exact absurd (h1.1 p1) q1
    · exact absurd (h2.symm.trans p2) q2
    · rcases p3 with p3 | p3
      · rw [p3]; exact .inr (.inl rfl)
      · rcases q3 with q3 | q3
        · rw [q3]; exact .inr (.inr rfl)
        · rw [p3.1, q3.1]; exact .inl rfl

theorem amp_ok {l : List Vis} (h0 : ck27 l = 0) {a b c d : Int} (h : (amp l a b c d).2 = 0) : (along27 l [⟨a, b⟩, ⟨c, d⟩, ⟨a, c⟩, ⟨b, d⟩]).2 = 0 ∧ 0 < (amp l a b c d).1.num ∧ 0 < (amp l a b c d).1.den ∧ Int.gcd (amp l a b c d).1.num (amp l a b c d).1.den = 1 ∧
      (amp l a b c d).1.num * ((ds (gD l ⟨a, b⟩) * ds (gD l ⟨c, d⟩)) * (ns (gD l ⟨a, c⟩) * ns (gD l ⟨b, d⟩))) = (amp l a b c d).1.den * ((ns (gD l ⟨a, b⟩) * ns (gD l ⟨c, d⟩)) * (ds (gD l ⟨a, c⟩) * ds (gD l ⟨b, d⟩))) := by
  rcases amp_cases h0 a b c d with ⟨p1, p2⟩ | ⟨p1, p2, p3⟩ | ⟨p1, p2, p3 | p3⟩
  · rw [p2] at h; simp at h
  · rw [p3] at h; exact absurd h p2
  · rw [p3] at h; simp at h
  · exact ⟨p2, p3.2⟩

theorem prod4_pos {x y z w : Int} (h1 : 0 < x) (h2 : 0 < y) (h3 : 0 < z) (h4 : 0 < w) : 0 < (x * y) * (z * w) := Int.mul_pos (Int.mul_pos h1 h2) (Int.mul_pos h3 h4)

/-- Exchanges of stations. -/
theorem amp_swaps {l : List Vis} (h0 : ck27 l = 0) (a b c d : Int) :
    ((amp l a b c d).2 = (amp l a c b d).2 ∨ (amp l a b c d).2 = 16 ∨ (amp l a c b d).2 = 16) ∧ ((amp l a b c d).2 = (amp l d c b a).2 ∨ (amp l a b c d).2 = 16 ∨ (amp l d c b a).2 = 16) ∧
    ((amp l a b c d).2 = 0 → 1 ≤ (amp l a b c d).1.num ∧ 1 ≤ (amp l a b c d).1.den ∧ ((amp l a c b d).2 = 0 → (amp l a b c d).1.num = (amp l a c b d).1.den ∧ (amp l a b c d).1.den = (amp l a c b d).1.num) ∧ ((amp l d c b a).2 = 0 → (amp l a b c d).1 = (amp l d c b a).1)) := by
  obtain ⟨_, hgood, _⟩ := ck27_0 h0
  have P1 : [a, b, c, d].Perm [a, c, b, d] := .cons a (.swap c b [d])
  have P2 : [a, b, c, d].Perm [d, c, b, a] := (List.reverse_perm [a, b, c, d]).symm
  have S1 : List.Perm [Pr.mk a b, ⟨c, d⟩, ⟨a, c⟩, ⟨b, d⟩] [⟨a, c⟩, ⟨b, d⟩, ⟨a, b⟩, ⟨c, d⟩] := List.perm_append_comm (l₁ := [Pr.mk a b, Pr.mk c d]) (l₂ := [Pr.mk a c, Pr.mk b d])
  have S2 : List.Perm ([Pr.mk a b, ⟨c, d⟩, ⟨a, c⟩, ⟨b, d⟩].map swap) [⟨d, c⟩, ⟨b, a⟩, ⟨d, b⟩, ⟨c, a⟩] := (List.Perm.swap (Pr.mk d c) (Pr.mk b a) [Pr.mk c a, Pr.mk d b]).trans (.cons _ (.cons _ (.swap (Pr.mk d b) (Pr.mk c a) [])))
  have L1 := along_perm (l := l) S1
  have L2 : (along27 l [⟨a, b⟩, ⟨c, d⟩, ⟨a, c⟩, ⟨b, d⟩]).2 = (along27 l [⟨d, c⟩, ⟨b, a⟩, ⟨d, b⟩, ⟨c, a⟩]).2 := by rw [← along_swap hgood, along_perm S2]
  refine ⟨amp_like h0 (apart_perm P1) L1, amp_like h0 (apart_perm P2) L2, fun h => ?_⟩
  obtain ⟨k0, k1, k2, k3, k4⟩ := amp_ok h0 h
  obtain ⟨_, _, e3⟩ := along27_0 hgood k0
  have hA := e3 ⟨a, b⟩ (by simp)
  have hB := e3 ⟨c, d⟩ (by simp)
  have hC := e3 ⟨a, c⟩ (by simp)
  have hD := e3 ⟨b, d⟩ (by simp)
  have u1 := prod4_pos (ds_pos hA.1) (ds_pos hB.1) (ns_pos hC.2) (ns_pos hD.2)
  have u2 := prod4_pos (ns_pos hA.2) (ns_pos hB.2) (ds_pos hC.1) (ds_pos hD.1)
  refine ⟨by omega, by omega, fun h' => ?_, fun h' => ?_⟩
  · obtain ⟨_, q1, q2, q3, q4⟩ := amp_ok h0 h'
    generalize (amp l a b c d).1.num = N at *
    generalize (amp l a b c d).1.den = D at *
    generalize (amp l a c b d).1.num = N' at *
    generalize (amp l a c b d).1.den = D' at *
    rw [Int.mul_comm (ds (gD l ⟨a, c⟩) * ds (gD l ⟨b, d⟩)), Int.mul_comm (ns (gD l ⟨a, c⟩) * ns (gD l ⟨b, d⟩))] at q4
    generalize ds (gD l ⟨a, b⟩) * ds (gD l ⟨c, d⟩) * (ns (gD l ⟨a, c⟩) * ns (gD l ⟨b, d⟩)) = B at *
    generalize ns (gD l ⟨a, b⟩) * ns (gD l ⟨c, d⟩) * (ds (gD l ⟨a, c⟩) * ds (gD l ⟨b, d⟩)) = A at *
    refine frac_unique k1 k2 q2 q1 k3 (by rw [Int.gcd_comm]; exact q3) ?_
    apply Int.eq_of_mul_eq_mul_right (a := B) (by omega)
    have t1 : N * N' * B = (N * B) * N' := by grind
    have t2 : D * A * N' = D * (N' * A) := by grind
    rw [t1, k4, t2, q4]; grind
  · obtain ⟨_, q1, q2, q3, q4⟩ := amp_ok h0 h'
    have g1 : gD l ⟨d, c⟩ = conj (gD l ⟨c, d⟩) := gD_swap hgood ⟨c, d⟩
    have g2 : gD l ⟨b, a⟩ = conj (gD l ⟨a, b⟩) := gD_swap hgood ⟨a, b⟩
    have g3 : gD l ⟨d, b⟩ = conj (gD l ⟨b, d⟩) := gD_swap hgood ⟨b, d⟩
    have g4 : gD l ⟨c, a⟩ = conj (gD l ⟨a, c⟩) := gD_swap hgood ⟨a, c⟩
    rw [g1, g2, g3, g4] at q4
    simp only [ns_conj, ds_conj] at q4
    rw [Int.mul_comm (ds (gD l ⟨c, d⟩)), Int.mul_comm (ns (gD l ⟨c, d⟩)), Int.mul_comm (ds (gD l ⟨b, d⟩)), Int.mul_comm (ns (gD l ⟨b, d⟩))] at q4
    have : (amp l a b c d).1.num = (amp l d c b a).1.num ∧ (amp l a b c d).1.den = (amp l d c b a).1.den := by
      generalize (amp l a b c d).1.num = N at *
      generalize (amp l a b c d).1.den = D at *
      generalize (amp l d c b a).1.num = N' at *
      generalize (amp l d c b a).1.den = D' at *
      generalize ds (gD l ⟨a, b⟩) * ds (gD l ⟨c, d⟩) * (ns (gD l ⟨a, c⟩) * ns (gD l ⟨b, d⟩)) = B at *
      generalize ns (gD l ⟨a, b⟩) * ns (gD l ⟨c, d⟩) * (ds (gD l ⟨a, c⟩) * ds (gD l ⟨b, d⟩)) = A at *
      refine frac_unique k1 k2 q1 q2 k3 q3 ?_
      apply Int.eq_of_mul_eq_mul_right (a := B) (by omega)
      have t1 : N * D' * B = (N * B) * D' := by grind
      have t2 : D * A * D' = D * (D' * A) := by grind
      rw [t1, k4, t2, ← q4]; grind
    cases hx : (amp l a b c d).1
    cases hy : (amp l d c b a).1
    rw [hx, hy] at this
    simp only at this
    simp [this.1, this.2]

end Go.Pv

/- No gains change closures. -/
namespace Go.Pv
open Go.Vc

def zpr (l : List Z) : Z := l.foldr zmul (1, 0)
theorem zpr_cons (z : Z) (l : List Z) : zpr (z :: l) = zmul z (zpr l) := rfl
theorem zprod_zpr (l : List Cx) : zprod l = zpr (l.map zn) := by
  induction l with
  | nil => rfl
  | cons v r ih => rw [zprod_cons, List.map_cons, zpr_cons, ih]
theorem zpr_perm {l m : List Z} (h : l.Perm m) : zpr l = zpr m := by
  induction h with
  | nil => rfl
  | cons x _ ih => rw [zpr_cons, zpr_cons, ih]
  | swap x y l =>
    rw [zpr_cons, zpr_cons, zpr_cons, zpr_cons, ← zmul_assoc, zmul_comm y, zmul_assoc]
  | trans _ _ h1 h2 => rw [h1, h2]
theorem zmul4 (a b c d : Z) : zmul (zmul a b) (zmul c d) = zmul (zmul a c) (zmul b d) := by
  rw [zmul_assoc, zmul_assoc, ← zmul_assoc b, zmul_comm b c, zmul_assoc c]
theorem zpr_mul {α : Type} (l : List α) (f h : α → Z) : zpr (l.map fun x => zmul (f x) (h x)) = zmul (zpr (l.map f)) (zpr (l.map h)) := by
  induction l with
  | nil => rfl
  | cons x r ih => rw [List.map_cons, List.map_cons, List.map_cons, zpr_cons, zpr_cons, zpr_cons, ih, zmul4]
theorem zpr_conj {α : Type} (l : List α) (f : α → Z) : zpr (l.map fun x => zconj (f x)) = zconj (zpr (l.map f)) := by
  induction l with
  | nil => rfl
  | cons x r ih => rw [List.map_cons, List.map_cons, zpr_cons, zpr_cons, ih, zmul_conj]
theorem zpr_par {α : Type} {l : List α} {f h : α → Z} (H : ∀ x ∈ l, par (f x) (h x)) : par (zpr (l.map f)) (zpr (l.map h)) := by
  induction l with
  | nil => exact par_refl _
  | cons x r ih =>
    rw [List.map_cons, List.map_cons, zpr_cons, zpr_cons]
    exact par_mul (H x (by simp)) (ih fun y hy => H y (by simp [hy]))

def nz (z : Z) : Int := z.1 * z.1 + z.2 * z.2
theorem nz_mul (a b : Z) : nz (zmul a b) = nz a * nz b := by unfold nz zmul; grind
theorem nz_zpr {l : List Z} (h : ∀ z ∈ l, 0 < nz z) : 0 < nz (zpr l) := by
  induction l with
  | nil => decide
  | cons x r ih =>
    rw [zpr_cons, nz_mul]
    exact Int.mul_pos (h x (by simp)) (ih fun y hy => h y (by simp [hy]))

theorem par_real {a p : Z} (h : 0 < nz p) : par (zmul a (zmul p (zconj p))) a := by
  refine ⟨1, nz p, by decide, h, ?_, ?_⟩
  · unfold zmul zconj nz; grind
  · unfold zmul zconj nz; grind

theorem pairs_a {c : List Int} (h1 : 3 ≤ c.length) (h2 : c.length ≤ 8) : (pairs c).map Pr.a = c ∧ (pairs c).map Pr.b = c.drop 1 ++ c.take 1 := by
  match c, h1, h2 with
  | [a, b, c], _, _ => simp [pairs, List.range, List.range.loop]
  | [a, b, c, d], _, _ => simp [pairs, List.range, List.range.loop]
  | [a, b, c, d, e], _, _ => simp [pairs, List.range, List.range.loop]
  | [a, b, c, d, e, f], _, _ => simp [pairs, List.range, List.range.loop]
  | [a, b, c, d, e, f, g], _, _ => simp [pairs, List.range, List.range.loop]
  | [a, b, c, d, e, f, g, h], _, _ => simp [pairs, List.range, List.range.loop]
  | _ :: _ :: _ :: _ :: _ :: _ :: _ :: _ :: _ :: _, _, h => simp at h

/-- How a visibility of two stations changes. -/
structure Ch (g : List Cx) (i j : Int) (c c' : Cx) : Prop where
  v : c'.valid
  z : c'.zero ↔ c.zero
  p : par (zn c') (zmul (zn c) (zmul (zn (at_ g i)) (zconj (zn (at_ g j)))))
  n : ns c' * (ds c * (ds (at_ g i) * ds (at_ g j))) = ds c' * (ns c * (ns (at_ g i) * ns (at_ g j)))

theorem ch_conj {g : List Cx} {i j : Int} {c c' : Cx} (h : Ch g i j c c') : Ch g j i (conj c) (conj c') := by
  refine ⟨conj_valid h.v, by rw [conj_zero, conj_zero]; exact h.z, ?_, ?_⟩
  · have := par_conj h.p
    rw [← zmul_conj, ← zmul_conj] at this
    have e : zconj (zconj (zn (at_ g j))) = zn (at_ g j) := by unfold zconj; simp
    rw [e, zmul_comm (zconj (zn (at_ g i)))] at this
    exact this
  · rw [ns_conj, ns_conj, ds_conj, ds_conj, Int.mul_comm (ds (at_ g j)), Int.mul_comm (ns (at_ g j))]
    exact h.n

theorem act1_ch {g : List Cx} (hg : ∀ c ∈ g, okG c) (h8 : g.length = 8) {v : Vis} (hv : v.good 8) (h : (act1 g v).2 = 0) : Ch g v.i v.j v.v (act1 g v).1 := by
  obtain ⟨v1, v2, v3, v4, v5⟩ := hv
  obtain ⟨gi, zi⟩ := hg _ (at_mem (g := g) (i := v.i) v1 (by omega))
  obtain ⟨gj, zj⟩ := hg _ (at_mem (g := g) (i := v.j) (by omega) (by omega))
  unfold act1 at h ⊢
  split at h
  · simp at h
  · rename_i h1
    rw [if_neg h1]
    have h1 : (mul (at_ g v.i) v.v).2 = 0 := by simpa using h1
    split at h
    · simp at h
    · rename_i h2
      rw [if_neg h2]
      have o1 := (mul_ok gi v5 h1).2
      have o2 := (mul_ok o1 (conj_valid gj) h).2
      refine ⟨o2, ?_, ?_, ?_⟩
      · rw [mul_zero_iff o1 (conj_valid gj) h, mul_zero_iff gi v5 h1, conj_zero]
        constructor
        · rintro ((h | h) | h)
          · exact absurd h zi
          · exact h
          · exact absurd h zj
        · exact fun h => .inl (.inr h)
      · have p1 := mul_par o1 (conj_valid gj) h
        have p2 := mul_par gi v5 h1
        refine par_trans p1 (par_trans (par_mul p2 (par_refl _)) ?_)
        rw [show zn (conj (at_ g v.j)) = zconj (zn (at_ g v.j)) from rfl, zmul_comm (zn (at_ g v.i)), zmul_assoc]
        exact par_refl _
      · have n1 := mul_ns o1 (conj_valid gj) h
        have n2 := mul_ns gi v5 h1
        rw [ns_conj, ds_conj] at n1
        have w := ds_pos o1
        generalize mul (mul (at_ g v.i) v.v).1 (conj (at_ g v.j)) = y at *
        generalize (mul (at_ g v.i) v.v).1 = x at *
        generalize ns y.1 = ny at *
        generalize ds y.1 = dy at *
        generalize ns x = nx at *
        generalize ds x = dx at *
        generalize ns (at_ g v.i) = a1 at *
        generalize ds (at_ g v.i) = a2 at *
        generalize ns (at_ g v.j) = b1 at *
        generalize ds (at_ g v.j) = b2 at *
        generalize ns v.v = c1 at *
        generalize ds v.v = c2 at *
        apply Int.eq_of_mul_eq_mul_right (a := dx) (by omega)
        have t1 : ny * (c2 * (a2 * b2)) * dx = (ny * (dx * b2)) * (a2 * c2) := by grind
        have t2 : dy * (nx * b1) * (a2 * c2) = dy * b1 * (nx * (a2 * c2)) := by grind
        rw [t1, n1, t2, n2]; grind

theorem got_act {g : List Cx} (hg : ∀ c ∈ g, okG c) (h8 : g.length = 8) {l : List Vis} (hl : ∀ v ∈ l, v.good 8) (h : ∀ v ∈ l, (act1 g v).2 = 0) (i j : Int) :
    (got i j l = none ∧ got i j (l.map fun v => v.set (act1 g v).1) = none) ∨ ∃ c c', got i j l = some c ∧ got i j (l.map fun v => v.set (act1 g v).1) = some c' ∧ Ch g i j c c' := by
  induction l with
  | nil => exact .inl ⟨rfl, rfl⟩
  | cons v r ih =>
    have c := act1_ch hg h8 (hl v (by simp)) (h v (by simp))
    rw [List.map_cons]
    unfold got
    by_cases h1 : v.i = i ∧ v.j = j
    · rw [if_pos h1, if_pos (show (v.set (act1 g v).1).i = i ∧ (v.set (act1 g v).1).j = j from h1)]
      obtain ⟨rfl, rfl⟩ := h1
      exact .inr ⟨_, _, rfl, rfl, c⟩
    · rw [if_neg h1, if_neg (show ¬ ((v.set (act1 g v).1).i = i ∧ (v.set (act1 g v).1).j = j) from h1)]
      by_cases h2 : v.i = j ∧ v.j = i
      · rw [if_pos h2, if_pos (show (v.set (act1 g v).1).i = j ∧ (v.set (act1 g v).1).j = i from h2)]
        obtain ⟨rfl, rfl⟩ := h2
        exact .inr ⟨_, _, rfl, rfl, ch_conj c⟩
      · rw [if_neg h2, if_neg (show ¬ ((v.set (act1 g v).1).i = j ∧ (v.set (act1 g v).1).j = i) from h2)]
        exact ih (fun u hu => hl u (by simp [hu])) fun u hu => h u (by simp [hu])


theorem act26_ok {g : List Cx} {l : List Vis} (h : (act26 g l).2 = 0) : ck26 g = 0 ∧ (act26 g l).1 = (l.map fun v => v.set (act1 g v).1) ∧ ∀ v ∈ l, (act1 g v).2 = 0 := by
  unfold act26 at h ⊢
  split at h
  · rename_i h'; exact absurd h h'
  · rename_i h1
    rw [if_neg h1]
    split at h
    · rename_i h'; exact absurd h h'
    · rename_i h2
      rw [if_neg h2]
      split at h
      · rename_i h3
        rw [if_pos h3]
        rw [List.all_eq_true] at h3
        exact ⟨by simpa using h1, rfl, fun v hv => by simpa using h3 v hv⟩
      · simp at h

theorem act26_err {g : List Cx} {l : List Vis} (h0 : ck27 l = 0) (hg : ck26 g = 0) (h8 : g.length = 8) : (act26 g l).2 = 0 ∨ (act26 g l).2 = 16 := by
  unfold act26
  rw [if_neg (by simp [hg]), if_neg]
  · split
    · exact .inl rfl
    · exact .inr rfl
  · obtain ⟨h1, h2, _⟩ := ck27_0 h0
    rw [h8]
    unfold all26
    rw [if_neg (by omega), if_pos]
    · simp
    · rw [List.all_eq_true]
      intro v hv
      simpa using h2 v hv

/-- What a table makes of valid visibilities is valid. -/
theorem act_ck27 {g : List Cx} {l : List Vis} (h0 : ck27 l = 0) (hg : ∀ c ∈ g, okG c) (h8 : g.length = 8) (h : ∀ v ∈ l, (act1 g v).2 = 0) : ck27 (l.map fun v => v.set (act1 g v).1) = 0 := by
  obtain ⟨h1, h2, h3⟩ := ck27_0 h0
  have e : all26 (l.map fun v => v.set (act1 g v).1) 8 = 0 := by
    unfold all26
    rw [if_neg (by rw [List.length_map]; omega), if_pos]
    rw [List.all_eq_true]
    intro v hv
    rw [List.mem_map] at hv
    obtain ⟨u, hu, rfl⟩ := hv
    have hgood := h2 u hu
    have := (act1_ch hg h8 hgood (h u hu)).v
    exact decide_eq_true ⟨hgood.1, hgood.2.1, hgood.2.2.1, hgood.2.2.2.1, this⟩
  unfold ck27
  rw [if_neg (by simp [e]), if_pos]
  rw [List.map_map]
  exact h3

section
variable {g : List Cx} {l m : List Vis}

/-- A table's action, step by step. -/
structure Acts (g : List Cx) (l m : List Vis) : Prop where
  h0 : ck27 l = 0
  h1 : ck27 m = 0
  hg : ∀ c ∈ g, okG c
  h8 : g.length = 8
  st : ∀ i j, (got i j l = none ∧ got i j m = none) ∨ ∃ c c', got i j l = some c ∧ got i j m = some c' ∧ Ch g i j c c'

theorem acts_along (H : Acts g l m) (st : List Pr) : (along27 m st).2 = (along27 l st).2 := by
  unfold along27
  have e1 : st.all (fun s => (got s.a s.b m).isSome) = st.all (fun s => (got s.a s.b l).isSome) := by
    congr 1
    funext s
    rcases H.st s.a s.b with ⟨h1, h2⟩ | ⟨c, c', h1, h2, _⟩
    · rw [h1, h2]
    · rw [h1, h2]; rfl
  have e2 : st.any (fun s => decide (gD m s).zero) = st.any (fun s => decide (gD l s).zero) := by
    congr 1
    funext s
    unfold gD
    rcases H.st s.a s.b with ⟨h1, h2⟩ | ⟨c, c', h1, h2, h3⟩
    · rw [h1, h2]
    · rw [h1, h2]
      show decide c'.zero = decide c.zero
      rw [Bool.eq_iff_iff]; simp [h3.z]
  rw [e1, e2]
  split
  · split <;> rfl
  · rfl

theorem acts_ch (H : Acts g l m) {s : Pr} (h : (got s.a s.b l).isSome = true) : Ch g s.a s.b (gD l s) (gD m s) := by
  unfold gD
  rcases H.st s.a s.b with ⟨h1, h2⟩ | ⟨c, c', h1, h2, h3⟩
  · rw [h1] at h; cases h
  · rw [h1, h2]; exact h3

/-- No gains change phases. -/
theorem acts_phase (H : Acts g l m) (c : List Int) : ((phase l c).2 = (phase m c).2 ∨ (phase l c).2 = 16 ∨ (phase m c).2 = 16) ∧ ((phase l c).2 = 0 → (phase m c).2 = 0 → (phase l c).1 = (phase m c).1) := by
  by_cases hc : circle c
  · have ha := acts_along H (pairs c)
    refine ⟨?_, fun h1 h2 => ?_⟩
    · rcases phase_cases H.h0 hc with ⟨h1, h2⟩ | ⟨h1, h2⟩
      · rcases phase_cases H.h1 hc with ⟨k1, k2⟩ | ⟨k1, k2⟩
        · rw [h2, k2]; exact .inl ha.symm
        · exact absurd (ha.symm.trans k1) h1
      · rcases phase_cases H.h1 hc with ⟨k1, k2⟩ | ⟨k1, k2⟩
        · exact absurd (ha.trans h1) k1
        · rcases h2 with h2 | h2
          · rw [h2]; exact .inr (.inl rfl)
          · rcases k2 with k2 | k2
            · rw [k2]; exact .inr (.inr rfl)
            · rw [h2.1, k2.1]; exact .inl rfl
    · obtain ⟨_, d1, g1, p1⟩ := phase_ok H.h0 hc h1
      obtain ⟨_, d2, g2, p2⟩ := phase_ok H.h1 hc h2
      have hal : (along27 l (pairs c)).2 = 0 := by
        rcases phase_cases H.h0 hc with ⟨q1, q2⟩ | ⟨q1, _⟩
        · rw [q2] at h1; exact absurd h1 q1
        · exact q1
      obtain ⟨_, hgood, _⟩ := ck27_0 H.h0
      obtain ⟨_, e2, _⟩ := along27_0 hgood hal
      have hp : par (zprod ((pairs c).map (gD m))) (zprod ((pairs c).map (gD l))) := by
        rw [zprod_zpr, zprod_zpr, List.map_map, List.map_map]
        refine par_trans (zpr_par (h := fun s => zmul (zn (gD l s)) (zmul (zn (at_ g s.a)) (zconj (zn (at_ g s.b))))) fun s hs => (acts_ch H (e2 s hs)).p) ?_
        rw [zpr_mul (pairs c) (fun s => zn (gD l s)), zpr_mul (pairs c) (fun s => zn (at_ g s.a)), zpr_conj]
        have eA : (pairs c).map (fun s => zn (at_ g s.a)) = c.map fun i => zn (at_ g i) := by
          rw [show (fun s : Pr => zn (at_ g s.a)) = (fun i => zn (at_ g i)) ∘ Pr.a from rfl, ← List.map_map, (pairs_a hc.1 hc.2.1).1]
        have eB : zpr ((pairs c).map (fun s => zn (at_ g s.b))) = zpr (c.map fun i => zn (at_ g i)) := by
          rw [show (fun s : Pr => zn (at_ g s.b)) = (fun i => zn (at_ g i)) ∘ Pr.b from rfl, ← List.map_map, (pairs_a hc.1 hc.2.1).2]
          exact zpr_perm ((rot_perm c 1).map _)
        rw [eA, eB]
        refine par_real (nz_zpr fun z hz => ?_)
        rw [List.mem_map] at hz
        obtain ⟨i, hi, rfl⟩ := hz
        have hb := hc.2.2.1 i hi
        exact ns_pos (H.hg _ (at_mem hb.1 (by have := H.h8; omega))).2
      exact cx_of_zn (par_unique (par_trans p1 (par_symm (par_trans p2 hp))) g1 g2) (d1.trans d2.symm)
  · have e1 : phase l c = (c0, 2) := by rw [phase, if_neg (by simp [H.h0]), if_pos hc]
    have e2 : phase m c = (c0, 2) := by rw [phase, if_neg (by simp [H.h1]), if_pos hc]
    rw [e1, e2]
    exact ⟨.inl rfl, fun _ _ => rfl⟩

/-- No gains change amplitudes. -/
theorem acts_amp (H : Acts g l m) (a b c d : Int) : ((amp l a b c d).2 = (amp m a b c d).2 ∨ (amp l a b c d).2 = 16 ∨ (amp m a b c d).2 = 16) ∧ ((amp l a b c d).2 = 0 → (amp m a b c d).2 = 0 → (amp l a b c d).1 = (amp m a b c d).1) := by
  have ha := acts_along H [⟨a, b⟩, ⟨c, d⟩, ⟨a, c⟩, ⟨b, d⟩]
  refine ⟨?_, fun h h' => ?_⟩
  · rcases amp_cases H.h0 a b c d with ⟨p1, p2⟩ | ⟨p1, p2, p3⟩ | ⟨p1, p2, p3⟩
    · rcases amp_cases H.h1 a b c d with ⟨q1, q2⟩ | ⟨q1, q2, q3⟩ | ⟨q1, q2, q3⟩
      · rw [p2, q2]; exact .inl rfl
      · exact absurd q1 p1
      · exact absurd q1 p1
    · rcases amp_cases H.h1 a b c d with ⟨q1, q2⟩ | ⟨q1, q2, q3⟩ | ⟨q1, q2, q3⟩
      · exact absurd p1 q1
      · rw [p3, q3]; exact .inl ha.symm
      · exact absurd (ha.symm.trans q2) p2
    · rcases amp_cases H.h1 a b c d with ⟨q1, q2⟩ | ⟨q1, q2, q3⟩ | ⟨q1, q2, q3⟩
      · exact absurd p1 q1
      · exact absurd (ha.trans p2) q2
      · rcases p3 with p3 | p3
        · rw [p3]; exact .inr (.inl rfl)
        · rcases q3 with q3 | q3
          · rw [q3]; exact .inr (.inr rfl)
          · rw [p3.1, q3.1]; exact .inl rfl
  · obtain ⟨k0, k1, k2, k3, k4⟩ := amp_ok H.h0 h
    obtain ⟨_, q1, q2, q3, q4⟩ := amp_ok H.h1 h'
    obtain ⟨_, hgood, _⟩ := ck27_0 H.h0
    obtain ⟨_, e2, e3⟩ := along27_0 hgood k0
    have ap : apart [a, b, c, d] := by
      rcases amp_cases H.h0 a b c d with ⟨p1, p2⟩ | ⟨p1, _⟩ | ⟨p1, _⟩
      · rw [p2] at h; simp at h
      · exact p1
      · exact p1
    have gv : ∀ i ∈ [a, b, c, d], 0 < ns (at_ g i) ∧ 0 < ds (at_ g i) := fun i hi => by
      have hb := ap.1 i hi
      have := H.hg _ (at_mem hb.1 (by have := H.h8; omega))
      exact ⟨ns_pos this.2, ds_pos this.1⟩
    have na := gv a (by simp)
    have nb := gv b (by simp)
    have nc := gv c (by simp)
    have nd := gv d (by simp)
    have x1 := (acts_ch H (e2 ⟨a, b⟩ (by simp))).n
    have x2 := (acts_ch H (e2 ⟨c, d⟩ (by simp))).n
    have x3 := (acts_ch H (e2 ⟨a, c⟩ (by simp))).n
    have x4 := (acts_ch H (e2 ⟨b, d⟩ (by simp))).n
    simp only at x1 x2 x3 x4
    have hA := e3 ⟨a, b⟩ (by simp)
    have hB := e3 ⟨c, d⟩ (by simp)
    have hC := e3 ⟨a, c⟩ (by simp)
    have hD := e3 ⟨b, d⟩ (by simp)
    have u1 := prod4_pos (ds_pos hA.1) (ds_pos hB.1) (ns_pos hC.2) (ns_pos hD.2)
    have u2 := prod4_pos (ns_pos hA.2) (ns_pos hB.2) (ds_pos hC.1) (ds_pos hD.1)
    have v1 := (acts_ch H (e2 ⟨a, b⟩ (by simp)))
    have v2 := (acts_ch H (e2 ⟨c, d⟩ (by simp)))
    have v3 := (acts_ch H (e2 ⟨a, c⟩ (by simp)))
    have v4 := (acts_ch H (e2 ⟨b, d⟩ (by simp)))
    have u3 := prod4_pos (ns_pos fun h => hA.2 (v1.z.1 h)) (ns_pos fun h => hB.2 (v2.z.1 h)) (ds_pos v3.v) (ds_pos v4.v)
    clear v1 v2 v3 v4 hA hB hC hD
    have hfin : (amp l a b c d).1.num * (amp m a b c d).1.den = (amp m a b c d).1.num * (amp l a b c d).1.den := by
      generalize (amp l a b c d).1.num = N at *
      generalize (amp l a b c d).1.den = D at *
      generalize (amp m a b c d).1.num = N' at *
      generalize (amp m a b c d).1.den = D' at *
      generalize ns (gD l ⟨a, b⟩) = np at *
      generalize ds (gD l ⟨a, b⟩) = dp at *
      generalize ns (gD l ⟨c, d⟩) = nq at *
      generalize ds (gD l ⟨c, d⟩) = dq at *
      generalize ns (gD l ⟨a, c⟩) = nr at *
      generalize ds (gD l ⟨a, c⟩) = dr at *
      generalize ns (gD l ⟨b, d⟩) = nt at *
      generalize ds (gD l ⟨b, d⟩) = dt at *
      generalize ns (gD m ⟨a, b⟩) = np' at *
      generalize ds (gD m ⟨a, b⟩) = dp' at *
      generalize ns (gD m ⟨c, d⟩) = nq' at *
      generalize ds (gD m ⟨c, d⟩) = dq' at *
      generalize ns (gD m ⟨a, c⟩) = nr' at *
      generalize ds (gD m ⟨a, c⟩) = dr' at *
      generalize ns (gD m ⟨b, d⟩) = nt' at *
      generalize ds (gD m ⟨b, d⟩) = dt' at *
      generalize ns (at_ g a) = ga at *
      generalize ds (at_ g a) = ha at *
      generalize ns (at_ g b) = gb at *
      generalize ds (at_ g b) = hb at *
      generalize ns (at_ g c) = gc at *
      generalize ds (at_ g c) = hc at *
      generalize ns (at_ g d) = gd at *
      generalize ds (at_ g d) = hd at *
      have cross : (np' * nq' * (dr' * dt')) * (dp * dq * (nr * nt)) = (dp' * dq' * (nr' * nt')) * (np * nq * (dr * dt)) := by
        have hk : (ha * hb * (hc * hd)) * (ga * gb * (gc * gd)) ≠ 0 := by
          have := Int.mul_pos (prod4_pos na.2 nb.2 nc.2 nd.2) (prod4_pos na.1 nb.1 nc.1 nd.1)
          omega
        apply Int.eq_of_mul_eq_mul_right hk
        have t1 : (np' * nq' * (dr' * dt')) * (dp * dq * (nr * nt)) * ((ha * hb * (hc * hd)) * (ga * gb * (gc * gd))) = (np' * (dp * (ha * hb))) * (nq' * (dq * (hc * hd))) * ((dr' * (nr * (ga * gc))) * (dt' * (nt * (gb * gd)))) := by ac_rfl
        rw [t1, x1, x2, ← x3, ← x4]
        ac_rfl
      have hk : (np' * nq' * (dr' * dt')) * (dp * dq * (nr * nt)) ≠ 0 := by
        have := Int.mul_pos u3 u1
        omega
      apply Int.eq_of_mul_eq_mul_right hk
      generalize np' * nq' * (dr' * dt') = A' at *
      generalize dp * dq * (nr * nt) = B at *
      generalize dp' * dq' * (nr' * nt') = B' at *
      generalize np * nq * (dr * dt) = A at *
      have t1 : N * D' * (A' * B) = (N * B) * (D' * A') := by ac_rfl
      rw [t1, k4, ← q4, cross]
      ac_rfl
    have := frac_unique k1 k2 q1 q2 k3 q3 hfin
    cases hx : (amp l a b c d).1
    cases hy : (amp m a b c d).1
    rw [hx, hy] at this
    simp only at this
    simp [this.1, this.2]
end

theorem acts_of {g : List Cx} {l : List Vis} (h0 : ck27 l = 0) (h8 : g.length = 8) (h : (act26 g l).2 = 0) : Acts g l (act26 g l).1 := by
  obtain ⟨k1, k2, k3⟩ := act26_ok h
  obtain ⟨_, hgood, _⟩ := ck27_0 h0
  have hg := (ck26_0 k1).2.2
  rw [k2]
  exact ⟨h0, act_ck27 h0 hg h8 k3, hg, h8, got_act hg h8 hgood k3⟩

end Go.Pv

/- Norms under tables of gains, in plain Lean. -/
namespace Go.Pv
open Go.Vc

theorem nrm_frac {a : Cx} (ha : a.valid) (h : (nrm a).2 = 0) : (nrm a).1.num * ds a = (nrm a).1.den * ns a ∧ 0 < (nrm a).1.den ∧ 0 ≤ (nrm a).1.num := by
  rw [nrm, if_pos ha] at h ⊢
  split at h
  · cases h
  rename_i hle
  rw [if_neg hle]
  simp only
  have hd : 0 < a.den * a.den := Int.mul_pos (by have := ha.1; omega) (by have := ha.1; omega)
  have hn : 0 ≤ a.re * a.re + a.im * a.im := by have := sq_nonneg a.re; have := sq_nonneg a.im; omega
  have hns : ns a = a.re * a.re + a.im * a.im := rfl
  have hds : ds a = a.den * a.den := rfl
  rw [hns, hds]
  generalize a.re * a.re + a.im * a.im = n at *
  generalize a.den * a.den = d at *
  have hg : 0 < Int.gcd n d := Int.gcd_pos_of_ne_zero_right _ (by omega)
  obtain ⟨u, hu⟩ := Int.gcd_dvd_left n d
  obtain ⟨v, hv⟩ := Int.gcd_dvd_right n d
  generalize hG : (Int.gcd n d : Int) = G at *
  have hGp : 0 < G := by omega
  have e1 : n / G = u := by rw [hu]; exact Int.mul_ediv_cancel_left _ (by omega)
  have e2 : d / G = v := by rw [hv]; exact Int.mul_ediv_cancel_left _ (by omega)
  rw [e1, e2]
  refine ⟨by rw [hu, hv]; grind, ?_, ?_⟩
  · rw [hv] at hd
    exact Int.pos_of_mul_pos_right hd (by omega)
  · rw [hu] at hn
    exact Int.nonneg_of_mul_nonneg_right hn hGp

theorem act1_ok {g : List Cx} {v : Vis} (h : (act1 g v).2 = 0) : (mul (at_ g v.i) v.v).2 = 0 ∧ (mul (mul (at_ g v.i) v.v).1 (conj (at_ g v.j))).2 = 0 ∧ act1 g v = mul (mul (at_ g v.i) v.v).1 (conj (at_ g v.j)) := by
  unfold act1 at h ⊢
  split at h
  · cases h
  rename_i h1
  split at h
  · cases h
  rename_i h2
  rw [if_neg h1, if_neg h2]
  exact ⟨by omega, by omega, rfl⟩

theorem act1_valid {g : List Cx} (hg : ck26 g = 0) {v : Vis} (hv : v.good g.length) (h : (act1 g v).2 = 0) : (act1 g v).1.valid := by
  obtain ⟨_, _, hc⟩ := ck26_0 hg
  obtain ⟨h1, h2, h3⟩ := act1_ok h
  unfold Vis.good at hv
  have hi := (hc _ (at_mem (g := g) (i := v.i) (by omega) (by omega))).1
  have hj := (hc _ (at_mem (g := g) (i := v.j) (by omega) (by omega))).1
  rw [h3]
  exact (mul_ok (mul_ok hi hv.2.2.2.2 h1).2 (conj_valid hj) h2).2

theorem act1_ns {g : List Cx} (hg : ck26 g = 0) {v : Vis} (hv : v.good g.length) (h : (act1 g v).2 = 0) :
    ns (act1 g v).1 * (ds (at_ g v.i) * ds v.v * ds (at_ g v.j)) = ds (act1 g v).1 * (ns (at_ g v.i) * ns v.v * ns (at_ g v.j)) := by
  obtain ⟨_, _, hc⟩ := ck26_0 hg
  obtain ⟨h1, h2, h3⟩ := act1_ok h
  unfold Vis.good at hv
  have hi := (hc _ (at_mem (g := g) (i := v.i) (by omega) (by omega))).1
  have hj := (hc _ (at_mem (g := g) (i := v.j) (by omega) (by omega))).1
  have vp := (mul_ok hi hv.2.2.2.2 h1).2
  have e1 := mul_ns hi hv.2.2.2.2 h1
  have e2 := mul_ns vp (conj_valid hj) h2
  rw [ns_conj, ds_conj] at e2
  rw [h3]
  have hd := ds_pos vp
  generalize mul (mul (at_ g v.i) v.v).1 (conj (at_ g v.j)) = w at *
  generalize ns (mul (at_ g v.i) v.v).1 = np at *
  generalize ds (mul (at_ g v.i) v.v).1 = dp at *
  generalize ns w.1 = nw at *
  generalize ds w.1 = dw at *
  generalize ns (at_ g v.i) = ni at *
  generalize ds (at_ g v.i) = di at *
  generalize ns (at_ g v.j) = nj at *
  generalize ds (at_ g v.j) = dj at *
  generalize ns v.v = nv at *
  generalize ds v.v = dv at *
  have : dp * (nw * (di * dv * dj)) = dp * (dw * (ni * nv * nj)) := by grind
  exact Int.eq_of_mul_eq_mul_left (by omega) this

/-- Norms change by both gains. -/
theorem act1_norms {g : List Cx} (hg : ck26 g = 0) {v : Vis} (hv : v.good g.length) (h : (act1 g v).2 = 0)
    (hx : (nrm v.v).2 = 0) (hy : (nrm (act1 g v).1).2 = 0) (hp : (nrm (at_ g v.i)).2 = 0) (hq : (nrm (at_ g v.j)).2 = 0) :
    (nrm v.v).1.num * (nrm (at_ g v.i)).1.num * (nrm (at_ g v.j)).1.num * (nrm (act1 g v).1).1.den = (nrm v.v).1.den * (nrm (at_ g v.i)).1.den * (nrm (at_ g v.j)).1.den * (nrm (act1 g v).1).1.num := by
  have hw := act1_valid hg hv h
  have e := act1_ns hg hv h
  obtain ⟨_, _, hc⟩ := ck26_0 hg
  have hv' := hv
  unfold Vis.good at hv'
  have hi := (hc _ (at_mem (g := g) (i := v.i) (by omega) (by omega))).1
  have hj := (hc _ (at_mem (g := g) (i := v.j) (by omega) (by omega))).1
  obtain ⟨x1, x2, x3⟩ := nrm_frac hv'.2.2.2.2 hx
  obtain ⟨y1, y2, y3⟩ := nrm_frac hw hy
  obtain ⟨p1, p2, p3⟩ := nrm_frac hi hp
  obtain ⟨q1, q2, q3⟩ := nrm_frac hj hq
  have dv := ds_pos hv'.2.2.2.2
  have dw := ds_pos hw
  have di := ds_pos hi
  have dj := ds_pos hj
  generalize (nrm v.v).1.num = xn at *
  generalize (nrm v.v).1.den = xd at *
  generalize (nrm (act1 g v).1).1.num = yn at *
  generalize (nrm (act1 g v).1).1.den = yd at *
  generalize (nrm (at_ g v.i)).1.num = pn at *
  generalize (nrm (at_ g v.i)).1.den = pd at *
  generalize (nrm (at_ g v.j)).1.num = qn at *
  generalize (nrm (at_ g v.j)).1.den = qd at *
  generalize ns (act1 g v).1 = nw at *
  generalize ds (act1 g v).1 = dw' at *
  generalize ns (at_ g v.i) = ni at *
  generalize ds (at_ g v.i) = di' at *
  generalize ns (at_ g v.j) = nj at *
  generalize ds (at_ g v.j) = dj' at *
  generalize ns v.v = nv at *
  generalize ds v.v = dv' at *
  have hpos : 0 < dv' * di' * dj' * dw' := Int.mul_pos (Int.mul_pos (Int.mul_pos dv di) dj) dw
  have k : (dv' * di' * dj' * dw') * (xn * pn * qn * yd) = (dv' * di' * dj' * dw') * (xd * pd * qd * yn) := by
    have l : (dv' * di' * dj' * dw') * (xn * pn * qn * yd) = (xn * dv') * (pn * di') * (qn * dj') * (yd * dw') := by grind
    have r : (dv' * di' * dj' * dw') * (xd * pd * qd * yn) = (yn * dw') * (xd * pd * qd * (di' * dv' * dj')) := by grind
    rw [l, r, x1, p1, q1, y1]
    have : yd * (xd * pd * qd) * (dw' * (ni * nv * nj)) = yd * (xd * pd * qd) * (nw * (di' * dv' * dj')) := by rw [e]
    grind
  exact Int.eq_of_mul_eq_mul_left (by omega) k

theorem le_max_if (a b c : Int) : (if b > a then b else a) ≤ c ↔ a ≤ c ∧ b ≤ c := by
  split <;> omega

theorem four_bound {a b c d : Int} (ha : 0 ≤ a ∧ a ≤ 10000) (hb : 0 ≤ b ∧ b ≤ 10000) (hc : 0 ≤ c ∧ c ≤ 10000) (hd : 0 ≤ d ∧ d ≤ 10000) :
    IntKind.i64.wrap (IntKind.i64.wrap (IntKind.i64.wrap (a * b) * c) * d) = a * b * c * d := by
  have b1 : 0 ≤ a * b ∧ a * b ≤ 100000000 := ⟨Int.mul_nonneg ha.1 hb.1, by have := Int.mul_le_mul ha.2 hb.2 hb.1 (by omega); omega⟩
  have b2 : 0 ≤ a * b * c ∧ a * b * c ≤ 1000000000000 := ⟨Int.mul_nonneg b1.1 hc.1, by have := Int.mul_le_mul b1.2 hc.2 hc.1 (by omega); omega⟩
  have b3 : 0 ≤ a * b * c * d ∧ a * b * c * d ≤ 10000000000000000 := ⟨Int.mul_nonneg b2.1 hd.1, by have := Int.mul_le_mul b2.2 hd.2 hd.1 (by omega); omega⟩
  rw [wrap_id (n := a * b) (by omega) (by omega), wrap_id (n := a * b * c) (by omega) (by omega), wrap_id (by omega) (by omega)]

theorem act26_len {g : List Cx} {l : List Vis} (h : (act26 g l).2 = 0) : (act26 g l).1.length = l.length := by
  rw [(act26_ok h).2.1]; simp

theorem act26_err' {g : List Cx} {l : List Vis} (h0 : ck26 g = 0) (h1 : all26 l g.length = 0) : (act26 g l).2 = 0 ∨ act26 g l = ([], 16) := by
  rw [act26, if_neg (by simp [h0]), if_neg (by simp [h1])]
  split
  · exact .inl rfl
  · exact .inr rfl
end Go.Pv

/- Complex numbers with rational parts: what the machine's numbers mean. -/
namespace Go.Pv
open Go.Vc

def vre (c : Cx) : Rat := (c.re : Rat) / (c.den : Rat)
def vim (c : Cx) : Rat := (c.im : Rat) / (c.den : Rat)

theorem cast_ne {n : Int} (h : 0 < n) : (n : Rat) ≠ 0 := by
  intro e
  have : (n : Rat) = ((0 : Int) : Rat) := by rw [e]; rfl
  rw [Rat.intCast_inj] at this
  omega

theorem vden {c : Cx} (h : c.valid) : (c.den : Rat) ≠ 0 := cast_ne (by have := h.1; omega)

theorem norm_v {x y z : Int} (hz : 0 < z) : vre (norm x y z) = (x : Rat) / (z : Rat) ∧ vim (norm x y z) = (y : Rat) / (z : Rat) := by
  obtain ⟨g, hg, e1, e2, e3, hd, _⟩ := norm_spec (x := x) (y := y) hz
  have hg' : ((g : Int) : Rat) ≠ 0 := cast_ne (by omega)
  have hd' : ((norm x y z).den : Rat) ≠ 0 := cast_ne hd
  have c1 : (x : Rat) = ((norm x y z).re : Rat) * ((g : Int) : Rat) := by rw [← Rat.intCast_mul, ← e1]
  have c2 : (y : Rat) = ((norm x y z).im : Rat) * ((g : Int) : Rat) := by rw [← Rat.intCast_mul, ← e2]
  have c3 : (z : Rat) = ((norm x y z).den : Rat) * ((g : Int) : Rat) := by rw [← Rat.intCast_mul, ← e3]
  unfold vre vim
  rw [c1, c2, c3]
  generalize ((norm x y z).re : Rat) = a at *
  generalize ((norm x y z).im : Rat) = b at *
  generalize ((norm x y z).den : Rat) = c at *
  generalize ((g : Int) : Rat) = d at *
  constructor <;> grind

theorem make_v {x y z : Int} (hz : 0 < z) (h : (make x y z).2 = 0) : vre (make x y z).1 = (x : Rat) / (z : Rat) ∧ vim (make x y z).1 = (y : Rat) / (z : Rat) ∧ (make x y z).1.valid := by
  obtain ⟨h1, h2⟩ := make_ok hz h
  rw [h1]
  exact ⟨(norm_v hz).1, (norm_v hz).2, h2⟩

/-- Numbers with the same value are the same. -/
theorem v_inj {a b : Cx} (ha : a.valid) (hb : b.valid) (h1 : vre a = vre b) (h2 : vim a = vim b) : a = b := by
  have da := vden ha
  have db := vden hb
  unfold vre at h1
  unfold vim at h2
  refine Cx.eq_of ha hb ?_ ?_
  · rw [← Rat.intCast_inj, Rat.intCast_mul, Rat.intCast_mul]; grind
  · rw [← Rat.intCast_inj, Rat.intCast_mul, Rat.intCast_mul]; grind

theorem mul_v {a b : Cx} (ha : a.valid) (hb : b.valid) (h : (mul a b).2 = 0) : vre (mul a b).1 = vre a * vre b - vim a * vim b ∧ vim (mul a b).1 = vre a * vim b + vim a * vre b ∧ (mul a b).1.valid := by
  have da := vden ha
  have db := vden hb
  rw [mul, if_pos ⟨ha, hb⟩] at h ⊢
  obtain ⟨h1, h2, h3⟩ := make_v (mul_pos' ha.1 hb.1) h
  rw [h1, h2]
  unfold vre vim
  simp only [Rat.intCast_mul, Rat.intCast_sub, Rat.intCast_add]
  exact ⟨by grind, by grind, h3⟩

theorem add_v {a b : Cx} (ha : a.valid) (hb : b.valid) (h : (add a b).2 = 0) : vre (add a b).1 = vre a + vre b ∧ vim (add a b).1 = vim a + vim b ∧ (add a b).1.valid := by
  have da := vden ha
  have db := vden hb
  rw [add, if_pos ⟨ha, hb⟩] at h ⊢
  obtain ⟨h1, h2, h3⟩ := make_v (mul_pos' ha.1 hb.1) h
  rw [h1, h2]
  unfold vre vim
  simp only [Rat.intCast_mul, Rat.intCast_sub, Rat.intCast_add]
  exact ⟨by grind, by grind, h3⟩

theorem sub_v {a b : Cx} (ha : a.valid) (hb : b.valid) (h : (sub a b).2 = 0) : vre (sub a b).1 = vre a - vre b ∧ vim (sub a b).1 = vim a - vim b ∧ (sub a b).1.valid := by
  have da := vden ha
  have db := vden hb
  rw [sub, if_pos ⟨ha, hb⟩] at h ⊢
  obtain ⟨h1, h2, h3⟩ := make_v (mul_pos' ha.1 hb.1) h
  rw [h1, h2]
  unfold vre vim
  simp only [Rat.intCast_mul, Rat.intCast_sub, Rat.intCast_add]
  exact ⟨by grind, by grind, h3⟩

theorem conj_v (a : Cx) : vre (conj a) = vre a ∧ vim (conj a) = - vim a := by
  unfold vre vim conj
  simp only [Rat.intCast_neg]
  exact ⟨trivial, by grind⟩

theorem zero_v {a : Cx} (ha : a.valid) : a.zero ↔ vre a = 0 ∧ vim a = 0 := by
  have da := vden ha
  have z : ∀ n : Int, (n : Rat) = 0 ↔ n = 0 := fun n => by
    rw [← Rat.intCast_inj]; rfl
  unfold vre vim Cx.zero
  rw [← z a.re, ← z a.im]
  constructor
  · rintro ⟨h1, h2⟩; exact ⟨by rw [h1]; grind, by rw [h2]; grind⟩
  · rintro ⟨h1, h2⟩; exact ⟨by grind, by grind⟩

theorem ns_pos_of {a : Cx} (hz : ¬ a.zero) : 0 < a.re * a.re + a.im * a.im := ns_pos hz

theorem v_nz {a : Cx} (ha : a.valid) (hz : ¬ a.zero) : vre a * vre a + vim a * vim a ≠ 0 := by
  have da := vden ha
  have hp : ((a.re * a.re + a.im * a.im : Int) : Rat) ≠ 0 := cast_ne (ns_pos_of hz)
  simp only [Rat.intCast_mul, Rat.intCast_add] at hp
  unfold vre vim
  intro e
  apply hp
  have : ((a.re : Rat) * a.re + (a.im : Rat) * a.im) = ((a.re : Rat) / a.den * (a.re / a.den) + (a.im : Rat) / a.den * (a.im / a.den)) * ((a.den : Rat) * a.den) := by grind
  rw [this, e]; grind

theorem div_v {a b : Cx} (ha : a.valid) (hb : b.valid) (hz : ¬ b.zero) (h : (div a b).2 = 0) :
    vre (div a b).1 * (vre b * vre b + vim b * vim b) = vre a * vre b + vim a * vim b ∧ vim (div a b).1 * (vre b * vre b + vim b * vim b) = vim a * vre b - vre a * vim b ∧ (div a b).1.valid := by
  have da := vden ha
  have db := vden hb
  have hp : ((b.re * b.re + b.im * b.im : Int) : Rat) ≠ 0 := cast_ne (ns_pos_of hz)
  have hpos : 0 < (b.re * b.re + b.im * b.im) * a.den := Int.mul_pos (ns_pos_of hz) (by have := ha.1; omega)
  rw [div, if_pos ⟨ha, hb⟩, if_neg hz] at h ⊢
  obtain ⟨h1, h2, h3⟩ := make_v hpos h
  rw [h1, h2]
  unfold vre vim
  simp only [Rat.intCast_mul, Rat.intCast_sub, Rat.intCast_add] at hp ⊢
  exact ⟨by grind, by grind, h3⟩

/-- A product is 0 only if a factor is. -/
theorem v_mul_nz {a b c : Cx} (ha : a.valid) (hb : b.valid) (hc : c.valid) (za : ¬ a.zero) (zb : ¬ b.zero) (h1 : vre c = vre a * vre b - vim a * vim b) (h2 : vim c = vre a * vim b + vim a * vre b) : ¬ c.zero := by
  intro hz
  rw [zero_v hc] at hz
  have na := v_nz ha za
  have nb := v_nz hb zb
  have : (vre a * vre a + vim a * vim a) * (vre b * vre b + vim b * vim b) = 0 := by
    have e : (vre a * vre a + vim a * vim a) * (vre b * vre b + vim b * vim b) = vre c * vre c + vim c * vim c := by rw [h1, h2]; grind
    rw [e, hz.1, hz.2]; grind
  grind
end Go.Pv

/- Tables referred to a station; tables act as a group: in plain Lean. -/
namespace Go.Pv
open Go.Vc

theorem prods_ok {m : Cx → Cx → Cx × Int} {u v : Nat → Cx} {n : Nat} (h : (prods m u v n).2 = 0) : (prods m u v n).1 = (List.range n).map (fun k => (m (u k) (v k)).1) ∧ ∀ k, k < n → (m (u k) (v k)).2 = 0 := by
  unfold prods at h ⊢
  split at h
  · rename_i e
    rw [if_pos e]
    exact ⟨rfl, perr_0.1 e⟩
  · rename_i e; exact absurd h e

theorem gat_map {n k : Nat} (f : Nat → Cx) (hk : k < n) : gat ((List.range n).map f) k = f k := by
  simp [gat, hk]

theorem tconj_v {a b : Cx} (ha : a.valid) (hb : b.valid) (h : (tconj a b).2 = 0) : vre (tconj a b).1 = vre a * vre b + vim a * vim b ∧ vim (tconj a b).1 = vim a * vre b - vre a * vim b ∧ (tconj a b).1.valid := by
  rw [tconj, if_pos hb] at h ⊢
  obtain ⟨h1, h2, h3⟩ := mul_v ha (conj_valid hb) h
  rw [h1, h2, (conj_v b).1, (conj_v b).2]
  exact ⟨by grind, by grind, h3⟩

theorem trefer_ok {g : List Cx} {s : Nat} (hg : ck26 g = 0) (hs : s < g.length) (h : (trefer g s).2 = 0) :
    (trefer g s).1.length = g.length ∧ ∀ k, k < g.length → gat (trefer g s).1 k = (tconj (gat g k) (gat g s)).1 ∧ (tconj (gat g k) (gat g s)).2 = 0 := by
  have e : trefer g s = prods tconj (gat g) (fun _ => gat g s) g.length := by
    rw [trefer, if_neg (by simp [hg]), if_neg (by omega), at_get hs, gat_get hs]
  rw [e] at h ⊢
  obtain ⟨h1, h2⟩ := prods_ok h
  rw [h1]
  exact ⟨by simp, fun k hk => ⟨by rw [gat_map _ hk], h2 k hk⟩⟩

theorem trefer_err {g : List Cx} {s : Nat} (hg : ck26 g = 0) (hs : s < g.length) : (trefer g s).2 = 0 ∨ (trefer g s).2 = 16 := by
  have e : trefer g s = prods tconj (gat g) (fun _ => gat g s) g.length := by
    rw [trefer, if_neg (by simp [hg]), if_neg (by omega), at_get hs, gat_get hs]
  rw [e]
  have := perr_16 (m := tconj) (u := gat g) (v := fun _ => gat g s) (n := g.length) fun k hk => tconj_err (gat_valid hg hk).1 (gat_valid hg hs).1
  unfold prods
  split
  · exact .inl rfl
  · rename_i hne
    exact this

theorem tconj_nz {a b : Cx} (ha : a.valid) (hb : b.valid) (za : ¬ a.zero) (zb : ¬ b.zero) (h : (tconj a b).2 = 0) : ¬ (tconj a b).1.zero := by
  rw [tconj, if_pos hb] at h ⊢
  rw [mul_zero_iff ha (conj_valid hb) h]
  rintro (h | h)
  · exact za h
  · exact zb ((conj_zero b).1 h)

theorem trefer_ck {g : List Cx} {s : Nat} (hg : ck26 g = 0) (hs : s < g.length) (h : (trefer g s).2 = 0) : ck26 (trefer g s).1 = 0 := by
  obtain ⟨hl, hk⟩ := trefer_ok hg hs h
  obtain ⟨c1, c2, _⟩ := ck26_0 hg
  refine ck26_ok (by omega) (by omega) fun c hc => ?_
  obtain ⟨k, hk', rfl⟩ := List.getElem_of_mem hc
  obtain ⟨e1, e2⟩ := hk k (by omega)
  rw [gat_get hk'] at e1
  rw [e1]
  obtain ⟨v1, z1⟩ := gat_valid hg (i := k) (by omega)
  obtain ⟨v2, z2⟩ := gat_valid hg hs
  exact ⟨(tconj_v v1 v2 e2).2.2, tconj_nz v1 v2 z1 z2 e2⟩

theorem trefer_own {g : List Cx} {s : Nat} (hg : ck26 g = 0) (hs : s < g.length) (h : (trefer g s).2 = 0) : (gat (trefer g s).1 s).im = 0 ∧ 0 < (gat (trefer g s).1 s).re := by
  obtain ⟨e1, e2⟩ := (trefer_ok hg hs h).2 s hs
  obtain ⟨v, z⟩ := gat_valid hg hs
  rw [e1]
  rw [tconj, if_pos v] at e2 ⊢
  obtain ⟨k1, _⟩ := mul_ok v (conj_valid v) e2
  rw [k1]
  have hd : 0 < (gat g s).den * (conj (gat g s)).den := mul_pos' v.1 v.1
  obtain ⟨G, hG, x1, x2, _⟩ := norm_spec (x := (gat g s).re * (conj (gat g s)).re - (gat g s).im * (conj (gat g s)).im) (y := (gat g s).re * (conj (gat g s)).im + (gat g s).im * (conj (gat g s)).re) hd
  generalize norm _ _ _ = c at *
  have hn := ns_pos_of z
  have y0 : c.im * (G : Int) = 0 := by rw [← x2]; simp only [conj]; grind
  have r0 : c.re * (G : Int) = (gat g s).re * (gat g s).re + (gat g s).im * (gat g s).im := by rw [← x1]; simp only [conj]; grind
  refine ⟨?_, ?_⟩
  · rcases Int.mul_eq_zero.1 y0 with h | h
    · exact h
    · omega
  · have : 0 < c.re * (G : Int) := by rw [r0]; exact hn
    exact Int.pos_of_mul_pos_left this (by omega)

theorem trefer_mul {g : List Cx} {s : Nat} (hg : ck26 g = 0) (hs : s < g.length) (h : (trefer g s).2 = 0) {k : Nat} (hk : k < g.length)
    (h1 : (mul (gat (trefer g s).1 k) (gat g s)).2 = 0) (h2 : (mul (gat (trefer g s).1 s) (gat g k)).2 = 0) : (mul (gat (trefer g s).1 k) (gat g s)).1 = (mul (gat (trefer g s).1 s) (gat g k)).1 := by
  obtain ⟨e1, e2⟩ := (trefer_ok hg hs h).2 k hk
  obtain ⟨e3, e4⟩ := (trefer_ok hg hs h).2 s hs
  obtain ⟨vk, _⟩ := gat_valid hg hk
  obtain ⟨vs, _⟩ := gat_valid hg hs
  rw [e1] at h1 ⊢
  rw [e3] at h2 ⊢
  obtain ⟨a1, a2, a3⟩ := tconj_v vk vs e2
  obtain ⟨b1, b2, b3⟩ := tconj_v vs vs e4
  obtain ⟨p1, p2, p3⟩ := mul_v a3 vs h1
  obtain ⟨q1, q2, q3⟩ := mul_v b3 vk h2
  refine v_inj p3 q3 ?_ ?_
  · rw [p1, q1, a1, a2, b1, b2]; grind
  · rw [p2, q2, a1, a2, b1, b2]; grind

theorem ray_same {a b : Cx} (ha : a.valid) (hb : b.valid) (za : ¬ a.zero) (zb : ¬ b.zero) (h : par (zn a) (zn b)) : ray a = ray b := by
  obtain ⟨a1, a2, a3, a4, a5⟩ := ray_ok ha za
  obtain ⟨b1, b2, b3, b4, b5⟩ := ray_ok hb zb
  have p := par_trans (ray_par ha za) (par_trans h (par_symm (ray_par hb zb)))
  have e := par_unique p a5 b5
  have e1 : (ray a).1 = (ray b).1 := cx_of_zn e (by rw [a4, b4])
  exact Prod.ext e1 (by rw [a1, b1])

/-- Referring twice changes no ray. -/
theorem trefer_ray {g : List Cx} {s : Nat} (hg : ck26 g = 0) (hs : s < g.length) (h : (trefer g s).2 = 0) (h2 : (trefer (trefer g s).1 s).2 = 0) {k : Nat} (hk : k < g.length) :
    ray (gat (trefer g s).1 k) = ray (gat (trefer (trefer g s).1 s).1 k) ∧ (ray (gat (trefer g s).1 k)).2 = 0 := by
  have hr := trefer_ck hg hs h
  have hl := (trefer_ok hg hs h).1
  have hk' : k < (trefer g s).1.length := by omega
  have hs' : s < (trefer g s).1.length := by omega
  have own := trefer_own hg hs h
  generalize trefer g s = r at *
  obtain ⟨e1, e2⟩ := (trefer_ok hr hs' h2).2 k hk'
  rw [e1]
  obtain ⟨vk, zk⟩ := gat_valid hr hk'
  obtain ⟨vs, zs⟩ := gat_valid hr hs'
  have v2 := (tconj_v vk vs e2).2.2
  have z2 := tconj_nz vk vs zk zs e2
  refine ⟨ray_same vk v2 zk z2 ?_, (ray_ok vk zk).1⟩
  rw [tconj, if_pos vs] at e2 ⊢
  have p := mul_par vk (conj_valid vs) e2
  refine par_symm (par_trans p ⟨1, (gat r.1 s).re, by decide, own.2, ?_, ?_⟩)
  · simp only [zmul, zn, conj, own.1]; grind
  · simp only [zmul, zn, conj, own.1]; grind
end Go.Pv

/- Tables act as a group; tables that act alike: in plain Lean. -/
namespace Go.Pv
open Go.Vc

theorem mul_comm' (a b : Cx) : mul a b = mul b a := by
  unfold mul
  by_cases h : a.valid ∧ b.valid
  · rw [if_pos h, if_pos ⟨h.2, h.1⟩]
    congr 1 <;> grind
  · rw [if_neg h, if_neg (fun h' => h ⟨h'.2, h'.1⟩)]

theorem prods_congr {m m' : Cx → Cx → Cx × Int} {u v u' v' : Nat → Cx} {n : Nat} (h : ∀ k, k < n → m (u k) (v k) = m' (u' k) (v' k)) : prods m u v n = prods m' u' v' n := by
  have e : ∀ j, j ≤ n → perr m u v j = perr m' u' v' j := fun j => by
    induction j with
    | zero => intro _; rfl
    | succ j ih => intro hj; rw [perr, perr, ih (by omega), h j (by omega)]
  unfold prods
  rw [e n (Nat.le_refl _)]
  congr 2
  exact List.map_congr_left fun k hk => by rw [h k (List.mem_range.1 hk)]

theorem tmul_comm {g h : List Cx} (e : both26 g h = 0) : tmul g h = tmul h g := by
  obtain ⟨b1, b2, b3⟩ := both26_0 e
  have e' : both26 h g = 0 := by rw [both26, if_neg (by simp [b2]), if_neg (by simp [b1]), if_neg (by simp [b3])]
  rw [tmul, if_neg (by simp [e]), tmul, if_neg (by simp [e']), b3]
  exact prods_congr fun k _ => mul_comm' _ _

theorem tmul_ok {g h : List Cx} (e : both26 g h = 0) (h0 : (tmul g h).2 = 0) : (tmul g h).1.length = g.length ∧ ∀ k, k < g.length → gat (tmul g h).1 k = (mul (gat g k) (gat h k)).1 ∧ (mul (gat g k) (gat h k)).2 = 0 := by
  rw [tmul, if_neg (by simp [e])] at h0 ⊢
  obtain ⟨h1, h2⟩ := prods_ok h0
  rw [h1]
  exact ⟨by simp, fun k hk => ⟨by rw [gat_map _ hk], h2 k hk⟩⟩

theorem tinv_ok {g : List Cx} (e : ck26 g = 0) (h0 : (tinv g).2 = 0) : (tinv g).1.length = g.length ∧ ∀ k, k < g.length → gat (tinv g).1 k = (div one (gat g k)).1 ∧ (div one (gat g k)).2 = 0 := by
  rw [tinv, if_neg (by simp [e])] at h0 ⊢
  obtain ⟨h1, h2⟩ := prods_ok h0
  rw [h1]
  exact ⟨by simp, fun k hk => ⟨by rw [gat_map _ hk], h2 k hk⟩⟩

theorem at_gat (g : List Cx) (i : Int) : at_ g i = gat g i.toNat := rfl

theorem act1_v {g : List Cx} (hg : ck26 g = 0) {v : Vis} (hv : v.good g.length) (h : (act1 g v).2 = 0) :
    vre (act1 g v).1 = (vre (at_ g v.i) * vre v.v - vim (at_ g v.i) * vim v.v) * vre (at_ g v.j) + (vre (at_ g v.i) * vim v.v + vim (at_ g v.i) * vre v.v) * vim (at_ g v.j) ∧
    vim (act1 g v).1 = (vre (at_ g v.i) * vim v.v + vim (at_ g v.i) * vre v.v) * vre (at_ g v.j) - (vre (at_ g v.i) * vre v.v - vim (at_ g v.i) * vim v.v) * vim (at_ g v.j) ∧ (act1 g v).1.valid := by
  obtain ⟨_, _, hc⟩ := ck26_0 hg
  obtain ⟨h1, h2, h3⟩ := act1_ok h
  unfold Vis.good at hv
  have hi := (hc _ (at_mem (g := g) (i := v.i) (by omega) (by omega))).1
  have hj := (hc _ (at_mem (g := g) (i := v.j) (by omega) (by omega))).1
  obtain ⟨p1, p2, p3⟩ := mul_v hi hv.2.2.2.2 h1
  obtain ⟨q1, q2, q3⟩ := mul_v p3 (conj_valid hj) h2
  rw [h3, q1, q2, p1, p2, (conj_v _).1, (conj_v _).2]
  exact ⟨by grind, by grind, q3⟩

theorem good_set {v : Vis} {n : Int} (h : v.good n) {c : Cx} (hc : c.valid) : (v.set c).good n := by
  unfold Vis.good at *
  exact ⟨h.1, h.2.1, h.2.2.1, h.2.2.2.1, hc⟩

theorem one_v : vre one = 1 ∧ vim one = 0 := by
  unfold vre vim one
  constructor <;> simp <;> grind

/-- Acting by two tables is acting by their product. -/
theorem act_mul {g h : List Cx} (e : both26 g h = 0) {l : List Vis} (hl : all26 l g.length = 0) (h1 : (act26 g l).2 = 0) (h2 : (tmul g h).2 = 0) (h3 : (act26 h (act26 g l).1).2 = 0) (h4 : (act26 (tmul g h).1 l).2 = 0) :
    (act26 h (act26 g l).1).1 = (act26 (tmul g h).1 l).1 := by
  obtain ⟨b1, b2, b3⟩ := both26_0 e
  obtain ⟨tl, tk⟩ := tmul_ok e h2
  obtain ⟨_, a1, a2⟩ := act26_ok h1
  obtain ⟨_, c1, c2⟩ := act26_ok h3
  obtain ⟨ckp, d1, d2⟩ := act26_ok h4
  obtain ⟨_, lg⟩ := all26_0 hl
  rw [c1, d1, a1, List.map_map]
  refine List.map_congr_left fun v hv => ?_
  have gv := lg v hv
  obtain ⟨x1, x2, x3⟩ := act1_v b1 gv (a2 v hv)
  have gs := good_set gv x3
  have gs' : (v.set (act1 g v).1).good h.length := by rw [← b3]; exact gs
  have ok2 : (act1 h (v.set (act1 g v).1)).2 = 0 := c2 _ (by rw [a1]; exact List.mem_map.2 ⟨v, hv, rfl⟩)
  obtain ⟨y1, y2, y3⟩ := act1_v b2 gs' ok2
  have gp : v.good (tmul g h).1.length := by rw [tl]; exact gv
  obtain ⟨z1, z2, z3⟩ := act1_v ckp gp (d2 v hv)
  have hval : (act1 h (v.set (act1 g v).1)).1 = (act1 (tmul g h).1 v).1 := by
    have gv' := gv
    unfold Vis.good at gv'
    have hi : v.i.toNat < g.length := by omega
    have hj : v.j.toNat < g.length := by omega
    obtain ⟨i1, i2⟩ := tk _ hi
    obtain ⟨j1, j2⟩ := tk _ hj
    obtain ⟨p1, p2, _⟩ := mul_v (gat_valid b1 hi).1 (gat_valid b2 (by omega)).1 i2
    obtain ⟨q1, q2, _⟩ := mul_v (gat_valid b1 hj).1 (gat_valid b2 (by omega)).1 j2
    rw [← i1] at p1 p2
    rw [← j1] at q1 q2
    simp only [at_gat] at *
    refine v_inj y3 z3 ?_ ?_
    · rw [y1, z1, p1, p2, q1, q2]
      show (vre (gat h v.i.toNat) * vre (act1 g v).1 - vim (gat h v.i.toNat) * vim (act1 g v).1) * vre (gat h v.j.toNat) + (vre (gat h v.i.toNat) * vim (act1 g v).1 + vim (gat h v.i.toNat) * vre (act1 g v).1) * vim (gat h v.j.toNat) = _
      rw [x1, x2]; grind
    · rw [y2, z2, p1, p2, q1, q2]
      show (vre (gat h v.i.toNat) * vim (act1 g v).1 + vim (gat h v.i.toNat) * vre (act1 g v).1) * vre (gat h v.j.toNat) - (vre (gat h v.i.toNat) * vre (act1 g v).1 - vim (gat h v.i.toNat) * vim (act1 g v).1) * vim (gat h v.j.toNat) = _
      rw [x1, x2]; grind
  show (v.set (act1 g v).1).set (act1 h (v.set (act1 g v).1)).1 = _
  rw [hval]; rfl

theorem div_one_nz {a : Cx} (ha : a.valid) (za : ¬ a.zero) (h : (div one a).2 = 0) : ¬ (div one a).1.zero := by
  obtain ⟨h1, h2, h3⟩ := div_v (a := one) (by decide +kernel) ha za h
  rw [zero_v h3]
  rintro ⟨z1, z2⟩
  rw [z1, one_v.1, one_v.2] at h1
  rw [z2, one_v.1, one_v.2] at h2
  have : vre a = 0 ∧ vim a = 0 := ⟨by grind, by grind⟩
  exact za ((zero_v ha).2 this)

theorem tinv_ck {g : List Cx} (e : ck26 g = 0) (h0 : (tinv g).2 = 0) : ck26 (tinv g).1 = 0 := by
  obtain ⟨hl, hk⟩ := tinv_ok e h0
  obtain ⟨c1, c2, _⟩ := ck26_0 e
  refine ck26_ok (by omega) (by omega) fun c hc => ?_
  obtain ⟨k, hk', rfl⟩ := List.getElem_of_mem hc
  obtain ⟨e1, e2⟩ := hk k (by omega)
  rw [gat_get hk'] at e1
  rw [e1]
  obtain ⟨v1, z1⟩ := gat_valid e (i := k) (by omega)
  exact ⟨(div_v (a := one) (by decide +kernel) v1 z1 e2).2.2, div_one_nz v1 z1 e2⟩

theorem inv_cancel {a b u w : Rat} (n : u * u + w * w ≠ 0) (p1 : a * (u * u + w * w) = 1 * u + 0 * w) (p2 : b * (u * u + w * w) = 0 * u - 1 * w) : a * u - b * w = 1 ∧ a * w + b * u = 0 := by
  constructor
  · have : (a * u - b * w) * (u * u + w * w) = 1 * (u * u + w * w) := by grind
    grind
  · have : (a * w + b * u) * (u * u + w * w) = 0 * (u * u + w * w) := by grind
    grind

/-- Acting by the inverse undoes it. -/
theorem act_inv {g : List Cx} (e : ck26 g = 0) {l : List Vis} (hl : all26 l g.length = 0) (h1 : (act26 g l).2 = 0) (h2 : (tinv g).2 = 0) (h3 : (act26 (tinv g).1 (act26 g l).1).2 = 0) : (act26 (tinv g).1 (act26 g l).1).1 = l := by
  obtain ⟨tl, tk⟩ := tinv_ok e h2
  obtain ⟨_, a1, a2⟩ := act26_ok h1
  obtain ⟨cki, c1, c2⟩ := act26_ok h3
  obtain ⟨_, lg⟩ := all26_0 hl
  rw [c1, a1, List.map_map]
  conv => rhs; rw [← List.map_id l]
  refine List.map_congr_left fun v hv => ?_
  have gv := lg v hv
  obtain ⟨x1, x2, x3⟩ := act1_v e gv (a2 v hv)
  have gs : (v.set (act1 g v).1).good (tinv g).1.length := by rw [tl]; exact good_set gv x3
  have ok2 : (act1 (tinv g).1 (v.set (act1 g v).1)).2 = 0 := c2 _ (by rw [a1]; exact List.mem_map.2 ⟨v, hv, rfl⟩)
  obtain ⟨y1, y2, y3⟩ := act1_v cki gs ok2
  have hval : (act1 (tinv g).1 (v.set (act1 g v).1)).1 = v.v := by
    have gv' := gv
    unfold Vis.good at gv'
    have hi : v.i.toNat < g.length := by omega
    have hj : v.j.toNat < g.length := by omega
    obtain ⟨i1, i2⟩ := tk _ hi
    obtain ⟨j1, j2⟩ := tk _ hj
    obtain ⟨vi_, zi⟩ := gat_valid e hi
    obtain ⟨vj_, zj⟩ := gat_valid e hj
    obtain ⟨p1, p2, _⟩ := div_v (a := one) (by decide +kernel) vi_ zi i2
    obtain ⟨q1, q2, _⟩ := div_v (a := one) (by decide +kernel) vj_ zj j2
    have ni := v_nz vi_ zi
    have nj := v_nz vj_ zj
    rw [← i1, one_v.1, one_v.2] at p1 p2
    rw [← j1, one_v.1, one_v.2] at q1 q2
    simp only [at_gat] at *
    refine v_inj y3 gv'.2.2.2.2 ?_ ?_
    · rw [y1]
      show (vre (gat (tinv g).1 v.i.toNat) * vre (act1 g v).1 - vim (gat (tinv g).1 v.i.toNat) * vim (act1 g v).1) * vre (gat (tinv g).1 v.j.toNat) + (vre (gat (tinv g).1 v.i.toNat) * vim (act1 g v).1 + vim (gat (tinv g).1 v.i.toNat) * vre (act1 g v).1) * vim (gat (tinv g).1 v.j.toNat) = _
      rw [x1, x2]
      generalize vre (gat (tinv g).1 v.i.toNat) = a at *
      generalize vim (gat (tinv g).1 v.i.toNat) = b at *
      generalize vre (gat (tinv g).1 v.j.toNat) = c at *
      generalize vim (gat (tinv g).1 v.j.toNat) = d at *
      generalize vre (gat g v.i.toNat) = u at *
      generalize vim (gat g v.i.toNat) = w at *
      generalize vre (gat g v.j.toNat) = s at *
      generalize vim (gat g v.j.toNat) = t at *
      generalize vre v.v = m at *
      generalize vim v.v = n at *
      have ea : a = u / (u * u + w * w) := by grind
      have eb : b = -w / (u * u + w * w) := by grind
      have ec : c = s / (s * s + t * t) := by grind
      have ed : d = -t / (s * s + t * t) := by grind
      subst ea eb ec ed
      generalize hU : u * u + w * w = U at *
      generalize hS : s * s + t * t = S' at *
      have k1 : u / U * u - -w / U * w = 1 := by rw [← hU] at ni ⊢; grind
      grind
    · rw [y2]
      show (vre (gat (tinv g).1 v.i.toNat) * vim (act1 g v).1 + vim (gat (tinv g).1 v.i.toNat) * vre (act1 g v).1) * vre (gat (tinv g).1 v.j.toNat) - (vre (gat (tinv g).1 v.i.toNat) * vre (act1 g v).1 - vim (gat (tinv g).1 v.i.toNat) * vim (act1 g v).1) * vim (gat (tinv g).1 v.j.toNat) = _
      rw [x1, x2]
      generalize vre (gat (tinv g).1 v.i.toNat) = a at *
      generalize vim (gat (tinv g).1 v.i.toNat) = b at *
      generalize vre (gat (tinv g).1 v.j.toNat) = c at *
      generalize vim (gat (tinv g).1 v.j.toNat) = d at *
      generalize vre (gat g v.i.toNat) = u at *
      generalize vim (gat g v.i.toNat) = w at *
      generalize vre (gat g v.j.toNat) = s at *
      generalize vim (gat g v.j.toNat) = t at *
      generalize vre v.v = m at *
      generalize vim v.v = n at *
      obtain ⟨k1, k2⟩ := inv_cancel ni p1 p2
      obtain ⟨k3, k4⟩ := inv_cancel nj q1 q2
      clear p1 p2 q1 q2 ni nj x1 x2 y1 y2
      grind
  show (v.set (act1 g v).1).set (act1 (tinv g).1 (v.set (act1 g v).1)).1 = v
  rw [hval]; rfl

theorem mul_div_one {a : Cx} (ha : a.valid) (za : ¬ a.zero) (h : (div one a).2 = 0) : mul a (div one a).1 = (one, 0) := by
  obtain ⟨h1, h2, h3⟩ := div_v (a := one) (by decide +kernel) ha za h
  rw [one_v.1, one_v.2] at h1 h2
  obtain ⟨k1, k2⟩ := inv_cancel (v_nz ha za) h1 h2
  generalize div one a = d at *
  have da := vden ha
  have dd := vden h3
  have hp : 0 < a.den * d.1.den := mul_pos' ha.1 h3.1
  have e1 : (a.re * d.1.re - a.im * d.1.im) * 1 = 1 * (a.den * d.1.den) := by
    rw [← Rat.intCast_inj]
    simp only [Rat.intCast_mul, Rat.intCast_sub]
    unfold vre vim at k1
    have : ((1 : Int) : Rat) = 1 := rfl
    rw [this]
    grind
  have e2 : (a.re * d.1.im + a.im * d.1.re) * 1 = 0 * (a.den * d.1.den) := by
    rw [← Rat.intCast_inj]
    simp only [Rat.intCast_mul, Rat.intCast_add]
    unfold vre vim at k2
    have : ((0 : Int) : Rat) = 0 := rfl
    rw [this]
    grind
  have hn := norm_eq hp (by decide) (by decide : g3 1 0 1 = 1) e1 e2
  rw [mul, if_pos ⟨ha, h3⟩, make_valid hp, hn, if_pos (by decide +kernel)]
  rfl

theorem tmul_inv {g : List Cx} (e : ck26 g = 0) (h0 : (tinv g).2 = 0) : tmul g (tinv g).1 = (List.replicate g.length one, 0) := by
  obtain ⟨tl, tk⟩ := tinv_ok e h0
  have ck := tinv_ck e h0
  have b : both26 g (tinv g).1 = 0 := by rw [both26, if_neg (by simp [e]), if_neg (by simp [ck]), if_neg (by simp [tl])]
  rw [tmul, if_neg (by simp [b])]
  have hk : ∀ k, k < g.length → mul (gat g k) (gat (tinv g).1 k) = (one, 0) := fun k hk => by
    obtain ⟨e1, e2⟩ := tk k hk
    rw [e1]
    exact mul_div_one (gat_valid e hk).1 (gat_valid e hk).2 e2
  have hp : perr mul (gat g) (gat (tinv g).1) g.length = 0 := perr_0.2 fun k hk' => by rw [hk k hk']
  rw [prods, if_pos hp]
  congr 1
  rw [show (List.range g.length).map (fun k => (mul (gat g k) (gat (tinv g).1 k)).1) = (List.range g.length).map (fun _ => one) from List.map_congr_left fun k hk' => by rw [hk k (List.mem_range.1 hk')]]
  simp [List.map_const']
end Go.Pv
namespace Go.Pv
theorem fits_I64 {x : Int} (h : fits x) : I64 x := by unfold fits at h; exact ⟨by omega, by omega⟩

theorem ok_of_valid {a : Cx} (h : a.valid) : Enc.ok a := by
  obtain ⟨h1, h2, h3, h4, _⟩ := h
  exact ⟨fits_I64 h3, fits_I64 h4, ⟨by omega, by omega⟩⟩

theorem act26_enc {g : List Cx} {l : List Vis} (hg : ck26 g = 0) (hl : all26 l g.length = 0) (h : (act26 g l).2 = 0) (ok : ∀ v ∈ l, Enc.ok v) : ∀ v ∈ (act26 g l).1, Enc.ok v := by
  obtain ⟨_, a1, a2⟩ := act26_ok h
  obtain ⟨_, lg⟩ := all26_0 hl
  intro v hv
  rw [a1, List.mem_map] at hv
  obtain ⟨u, hu, rfl⟩ := hv
  obtain ⟨o1, o2, _, o4⟩ := ok u hu
  exact ⟨o1, o2, ok_of_valid (act1_valid hg (lg u hu) (a2 u hu)), o4⟩

theorem tmul_valid {g h : List Cx} (e : both26 g h = 0) (h0 : (tmul g h).2 = 0) : ∀ c ∈ (tmul g h).1, c.valid := by
  obtain ⟨b1, b2, b3⟩ := both26_0 e
  obtain ⟨tl, tk⟩ := tmul_ok e h0
  intro c hc
  obtain ⟨k, hk', rfl⟩ := List.getElem_of_mem hc
  obtain ⟨e1, e2⟩ := tk k (by omega)
  rw [gat_get hk'] at e1
  rw [e1]
  exact (mul_ok (gat_valid b1 (by omega)).1 (gat_valid b2 (by omega)).1 e2).2

theorem tinv_valid {g : List Cx} (e : ck26 g = 0) (h0 : (tinv g).2 = 0) : ∀ c ∈ (tinv g).1, c.valid := fun c hc => ((ck26_0 (tinv_ck e h0)).2.2 c hc).1
end Go.Pv

/- Bandpasses: acting by an inverse and by a product, channel by channel. -/
namespace Go.Pv

theorem built_0 {n m : Nat} {col : Nat → List Cx × Int} (h : (built n m col).2 = 0) : berr col m = 0 ∧ (built n m col).1 = (List.range n).map fun j => brow col m j := by
  unfold built at h ⊢
  split
  · rename_i h1; exact ⟨h1, rfl⟩
  · rename_i h1; rw [if_neg h1] at h; exact absurd h h1

theorem built_len {n m : Nat} {col : Nat → List Cx × Int} (h : (built n m col).2 = 0) : (built n m col).1.length = n := by rw [(built_0 h).2]; simp

theorem built_row0 {n m : Nat} {col : Nat → List Cx × Int} (hn : 0 < n) (h : (built n m col).2 = 0) : (row0 (built n m col).1).length = m := by
  rw [row0_get (by rw [built_len h]; exact hn)]
  simp only [(built_0 h).2, List.getElem_map, brow_length]

theorem col_built {n m c : Nat} {col : Nat → List Cx × Int} (h : (built n m col).2 = 0) (hc : c < m) (hl : (col c).1.length = n) : col32 (built n m col).1 c = (col c).1 := by
  rw [(built_0 h).2]
  apply List.ext_getElem
  · simp [col32, hl]
  · intro j h1 h2
    simp only [col32, List.getElem_map, List.getElem_range, brow, gat_map _ hc]
    exact gat_get h2

/-- What acting comes to, channel by channel. -/
theorem bact_chans {b : List (List Cx)} {l : List Spec} (h : (bact b l).2 = 0) : ck32 b = 0 ∧ all32 l b.length (row0 b).length = 0 ∧ (bact b l).1.length = l.length ∧ (∀ s ∈ (bact b l).1, s.v.length = (row0 b).length) ∧
    ∀ c, c < (row0 b).length → (act26 (col32 b c) (l.map fun s => s.vis c)).2 = 0 ∧ (act26 (col32 b c) (l.map fun s => s.vis c)).1 = (bact b l).1.map fun s => s.vis c := by
  unfold bact at h
  split at h
  · rename_i h1; exact absurd h h1
  rename_i h1
  have h1 : ck32 b = 0 := Classical.not_not.1 h1
  split at h
  · rename_i h2; exact absurd h h2
  rename_i h2
  have h2 : all32 l b.length (row0 b).length = 0 := Classical.not_not.1 h2
  split at h
  · rename_i h3
    rw [bact_ok h1 h2 h3]
    refine ⟨h1, h2, by simp, fun s hs => ?_, fun c hc => ?_⟩
    · rw [List.mem_map] at hs
      obtain ⟨s', _, rfl⟩ := hs
      simp [Spec.set]
    · obtain ⟨c1, c2⟩ := act_chan h1 h2 hc
      have hz : (act26 (col32 b c) (l.map fun s => s.vis c)).2 = 0 := by
        refine Classical.byContradiction fun q => ?_
        have := (c1 q).2
        rw [bact_ok h1 h2 h3] at this
        simp at this
      refine ⟨hz, ?_⟩
      rw [(c2 hz).2, List.map_map]
      refine List.map_congr_left fun s hs => ?_
      simp only [Function.comp, Spec.vis, Spec.set, Vis.set, gat_map _ hc]
  · simp at h

/-- Spectra that are the same in every channel. -/
theorem specs_eq {m : Nat} (hm : 0 < m) {x y : List Spec} (hx : ∀ s ∈ x, s.v.length = m) (hy : ∀ s ∈ y, s.v.length = m) (h : ∀ c, c < m → (x.map fun s => s.vis c) = y.map fun s => s.vis c) : x = y := by
  have hl : x.length = y.length := by have := congrArg List.length (h 0 hm); simpa using this
  apply List.ext_getElem hl
  intro k h1 h2
  have e : ∀ c, c < m → x[k].vis c = y[k].vis c := fun c hc => by
    have e1 := h c hc
    have e2 : (x.map fun s => s.vis c)[k]'(by simpa using h1) = (y.map fun s => s.vis c)[k]'(by simpa using h2) := by simp only [e1]
    simpa using e2
  have lx := hx _ (List.getElem_mem h1)
  have ly := hy _ (List.getElem_mem h2)
  revert e lx ly
  generalize x[k] = s
  generalize y[k] = t
  intro e lx ly
  obtain ⟨si, sj, sv, sn⟩ := s
  obtain ⟨ti, tj, tv, tn⟩ := t
  have e0 := e 0 hm
  simp only [Spec.vis, Vis.mk.injEq] at e0
  obtain ⟨rfl, rfl, _, rfl⟩ := e0
  have : sv = tv := by
    apply List.ext_getElem (by simpa [ly] using lx)
    intro c c1 c2
    have ec := e c (by simp only at lx; omega)
    simp only [Spec.vis, Vis.mk.injEq] at ec
    rw [← gat_get c1, ← gat_get c2]
    exact ec.2.2.1
  rw [this]

theorem all_vlen {l : List Spec} {n m : Nat} (h : all32 l n m = 0) : ∀ s ∈ l, s.v.length = m := fun s hs => by
  have := ((all32_0 h).2 s hs).2.2.2.2.1; omega

theorem band_inv {a : List (List Cx)} {l : List Spec} (h1 : (bact a l).2 = 0) (h2 : (binv a).2 = 0) (h3 : (bact (binv a).1 (bact a l).1).2 = 0) : (bact (binv a).1 (bact a l).1).1 = l := by
  obtain ⟨ka, kl, _, pl, pc⟩ := bact_chans h1
  obtain ⟨ki, _, _, rl, rc⟩ := bact_chans h3
  obtain ⟨a1, a2, a3, a4, a5, a6⟩ := ck32_0 ka
  have e : binv a = built a.length (row0 a).length fun c => tinv (col32 a c) := by rw [binv, if_neg (by simp [ka])]
  rw [e] at h2 h3 ki rl rc ⊢
  have hm := built_row0 a2 h2
  rw [hm] at rl rc
  refine specs_eq a3 rl (all_vlen kl) fun c hc => ?_
  obtain ⟨p1, p2⟩ := pc c hc
  obtain ⟨r1, r2⟩ := rc c hc
  have hcol := berr_0 (built_0 h2).1 c hc
  rw [col_built h2 hc (by rw [tinv_len hcol, col32_length]), ← p2] at r1 r2
  rw [← r2]
  exact act_inv (col32_ck ka hc) (vis_all kl hc) p1 hcol r1

theorem band_mul {a b : List (List Cx)} {l : List Spec} (hb : both32 a b = 0) (hn : a.length = b.length) (hm : (row0 a).length = (row0 b).length) (h1 : (bact a l).2 = 0) (h2 : (bmul a b).2 = 0) (h3 : (bact b (bact a l).1).2 = 0) (h4 : (bact (bmul a b).1 l).2 = 0) :
    (bact b (bact a l).1).1 = (bact (bmul a b).1 l).1 := by
  obtain ⟨ka, kl, _, pl, pc⟩ := bact_chans h1
  obtain ⟨kb, _, _, ql, qc⟩ := bact_chans h3
  obtain ⟨km, _, _, rl, rc⟩ := bact_chans h4
  obtain ⟨a1, a2, a3, a4, a5, a6⟩ := ck32_0 ka
  have e : bmul a b = built a.length (row0 a).length fun c => tmul (col32 a c) (col32 b c) := by rw [bmul, if_neg (by simp [hb]), if_neg (by omega)]
  rw [e] at h2 h4 km rl rc ⊢
  have hmr := built_row0 a2 h2
  rw [hmr] at rl rc
  refine specs_eq a3 (fun s hs => by rw [ql s hs, hm]) rl fun c hc => ?_
  obtain ⟨p1, p2⟩ := pc c hc
  obtain ⟨q1, q2⟩ := qc c (by omega)
  obtain ⟨r1, r2⟩ := rc c hc
  have hcol := berr_0 (built_0 h2).1 c hc
  have e26 : both26 (col32 a c) (col32 b c) = 0 := by
    have e1 := col32_ck ka hc
    have e2 := col32_ck kb (show c < (row0 b).length by omega)
    rw [both26, if_neg (by simp [e1]), if_neg (by simp [e2]), if_neg (by rw [col32_length, col32_length]; omega)]
  rw [col_built h2 hc (by rw [tmul_len hcol, col32_length])] at r1 r2
  rw [← p2] at q1 q2
  rw [← q2, ← r2]
  exact act_mul e26 (vis_all kl hc) p1 hcol q1 r1

/-- A grid's numbers are valid. -/
theorem grid_enc {n m : Nat} {f : Nat → Nat → Cx × Int} (h : ∀ i, i < n → ∀ c, c < m → (f i c).2 = 0 → (f i c).1.valid) : ∀ r ∈ (grid n m f).1, ∀ c ∈ r, c.valid := by
  intro r hr c hc
  unfold grid at hr
  split at hr
  · rename_i hz
    rw [List.mem_map] at hr
    obtain ⟨i, hi, rfl⟩ := hr
    rw [List.mem_map] at hc
    obtain ⟨j, hj, rfl⟩ := hc
    exact h i (List.mem_range.1 hi) j (List.mem_range.1 hj) (hz i (List.mem_range.1 hi) j (List.mem_range.1 hj))
  · simp at hr

theorem rw_valid {b : List (List Cx)} (h : ck32 b = 0) {i c : Nat} (hi : i < b.length) (hc : c < (row0 b).length) : okG (gat (rw32 b i) c) := by
  obtain ⟨a1, a2, a3, a4, a5, a6⟩ := ck32_0 h
  have hl := a5 _ (List.getElem_mem hi)
  rw [rw32_get hi, gat_get (by omega)]
  exact a6 _ (List.getElem_mem hi) _ (List.getElem_mem _)

theorem bmul_valid (a b : List (List Cx)) : ∀ r ∈ (bmul a b).1, ∀ c ∈ r, c.valid := by
  by_cases h : both32 a b = 0 ∧ a.length = b.length ∧ (row0 a).length = (row0 b).length
  · obtain ⟨h0, h1, h2⟩ := h
    obtain ⟨ka, kb⟩ := both32_0 h0
    rw [bmul_grid h0 h1 h2]
    exact grid_enc fun i hi c hc hz => (mul_ok (rw_valid ka hi hc).1 (rw_valid kb (by omega) (by omega)).1 hz).2
  · unfold bmul
    split
    · simp
    · split
      · simp
      · rename_i h1 h2
        exact absurd ⟨Classical.not_not.1 h1, by omega, by omega⟩ h

theorem binv_valid (a : List (List Cx)) : ∀ r ∈ (binv a).1, ∀ c ∈ r, c.valid := by
  by_cases h : ck32 a = 0
  · rw [binv_grid h]
    exact grid_enc fun i hi c hc hz => (div_v one_validB (rw_valid h hi hc).1 (rw_valid h hi hc).2 hz).2.2
  · rw [binv, if_pos h]; simp

theorem bact_enc {b : List (List Cx)} {l : List Spec} (hl : ∀ s ∈ l, Enc.ok s) : ∀ s ∈ (bact b l).1, Enc.ok s := by
  intro s hs
  unfold bact at hs
  split at hs
  · simp at hs
  rename_i h1
  have h1 : ck32 b = 0 := Classical.not_not.1 h1
  split at hs
  · simp at hs
  rename_i h2
  have h2 : all32 l b.length (row0 b).length = 0 := Classical.not_not.1 h2
  split at hs
  · rename_i h3
    rw [List.mem_map] at hs
    obtain ⟨s', hs', rfl⟩ := hs
    obtain ⟨o1, o2, o3, o4⟩ := hl s' hs'
    obtain ⟨b1, b2, b3, b4, _, _⟩ := ck32_0 h1
    refine ⟨o1, o2, ⟨by simp [Spec.set, maxLen]; omega, fun c hc => ?_⟩, o4⟩
    simp only [Spec.set, List.mem_map, List.mem_range] at hc
    obtain ⟨j, hj, rfl⟩ := hc
    have hall := vis_all h2 hj
    have hg := (all26_0 hall).2 (s'.vis j) (List.mem_map.2 ⟨s', hs', rfl⟩)
    exact ok_of_valid (act1_v (col32_ck h1 hj) hg (h3 s' hs' j hj)).2.2
  · simp at hs

theorem bact_vlen (b : List (List Cx)) (l : List Spec) : ∀ s ∈ (bact b l).1, s.v.length ≤ 9223372036854775807 := fun s hs => by
  have := (sz_act b l).2 s hs; omega
end Go.Pv

/- Bandpasses: parts and joins. -/
namespace Go.Pv

theorem cut_len (b : List (List Cx)) (p q : Nat) : (cut32 b p q).length = b.length := by simp [cut32]

theorem cut_row0 {b : List (List Cx)} (h : 0 < b.length) (p q : Nat) : row0 (cut32 b p q) = cutR (row0 b) p q := by
  rw [row0_get (by rw [cut_len]; exact h), row0_get h]; simp [cut32]

theorem cut_ck {b : List (List Cx)} (h : ck32 b = 0) {p q : Nat} (h1 : p < q) (h2 : q ≤ (row0 b).length) : ck32 (cut32 b p q) = 0 ∧ (row0 (cut32 b p q)).length = q - p := by
  obtain ⟨b1, b2, b3, b4, b5, b6⟩ := ck32_0 h
  have e : (row0 (cut32 b p q)).length = q - p := by rw [cut_row0 b2, cutR_length h2]
  have hl : ∀ r ∈ cut32 b p q, r.length = q - p := fun r hr => by
    rw [cut32, List.mem_map] at hr
    obtain ⟨r', hr', rfl⟩ := hr
    exact cutR_length (by rw [b5 r' hr']; exact h2)
  refine ⟨ck32_ok (by rw [cut_len]; exact b1) (fun r hr => by rw [hl r hr]; omega) (by rw [cut_len]; exact b2) (by omega) (fun r hr => by rw [hl r hr, e]) (fun r hr c hc => ?_), e⟩
  rw [cut32, List.mem_map] at hr
  obtain ⟨r', hr', rfl⟩ := hr
  exact b6 r' hr' c (List.mem_of_mem_drop (List.mem_of_mem_take hc))

theorem rw_cut {b : List (List Cx)} {i : Nat} (hi : i < b.length) (p q : Nat) : rw32 (cut32 b p q) i = cutR b[i] p q := by
  rw [rw32_get (by rw [cut_len]; exact hi)]; simp [cut32]

theorem cut_join {r : List Cx} {n : Nat} : cutR r 0 n ++ cutR r n r.length = r := by
  unfold cutR
  rw [List.drop_zero, Nat.sub_zero, List.take_of_length_le (l := r.drop n) (by rw [List.length_drop]; exact Nat.le_refl _), List.take_append_drop]

theorem split_join {b : List (List Cx)} {n : Nat} (h : ck32 b = 0) (h1 : 1 ≤ n) (h2 : n < (row0 b).length) : bjoin (cut32 b 0 n) (cut32 b n (row0 b).length) = (b, 0) := by
  obtain ⟨b1, b2, b3, b4, b5, b6⟩ := ck32_0 h
  obtain ⟨c1, c2⟩ := cut_ck h (show 0 < n by omega) (show n ≤ _ by omega)
  obtain ⟨d1, d2⟩ := cut_ck h h2 (Nat.le_refl _)
  rw [bjoin, if_neg (by simp [both32, c1, d1]), if_neg (by simp [cut_len]), if_neg (by omega)]
  congr 1
  unfold jn
  apply List.ext_getElem (by simp [cut_len])
  intro i hi hi2
  simp only [List.getElem_map, List.getElem_range]
  rw [rw_cut hi2, rw_cut hi2, ← b5 _ (List.getElem_mem hi2), cut_join]

theorem jn_len (a b : List (List Cx)) : (jn a b).length = a.length := by simp [jn]
theorem rw_jn {a : List (List Cx)} (b : List (List Cx)) {i : Nat} (hi : i < a.length) : rw32 (jn a b) i = rw32 a i ++ rw32 b i := by
  rw [rw32_get (by rw [jn_len]; exact hi)]; simp [jn]

theorem jn_ck {a b : List (List Cx)} (ka : ck32 a = 0) (kb : ck32 b = 0) (hn : a.length = b.length) (hm : (row0 a).length + (row0 b).length ≤ 16) : ck32 (jn a b) = 0 ∧ (row0 (jn a b)).length = (row0 a).length + (row0 b).length := by
  obtain ⟨a1, a2, a3, a4, a5, a6⟩ := ck32_0 ka
  obtain ⟨b1, b2, b3, b4, b5, b6⟩ := ck32_0 kb
  have hl : ∀ i, i < a.length → (rw32 a i ++ rw32 b i).length = (row0 a).length + (row0 b).length := fun i hi => by
    rw [List.length_append, rw32_get hi, rw32_get (by omega), a5 _ (List.getElem_mem hi), b5 _ (List.getElem_mem (by omega))]
  have hr : ∀ r ∈ jn a b, r.length = (row0 a).length + (row0 b).length := fun r hr => by
    rw [jn, List.mem_map] at hr
    obtain ⟨i, hi, rfl⟩ := hr
    exact hl i (List.mem_range.1 hi)
  have e : (row0 (jn a b)).length = (row0 a).length + (row0 b).length := by
    rw [row0_get (by rw [jn_len]; exact a2)]; exact hr _ (List.getElem_mem _)
  refine ⟨ck32_ok (by rw [jn_len]; exact a1) (fun r h => by rw [hr r h]; exact hm) (by rw [jn_len]; exact a2) (by omega) (fun r h => by rw [hr r h, e]) (fun r h c hc => ?_), e⟩
  rw [jn, List.mem_map] at h
  obtain ⟨i, hi, rfl⟩ := h
  have hi := List.mem_range.1 hi
  rw [List.mem_append, rw32_get hi, rw32_get (by omega)] at hc
  rcases hc with hc | hc
  · exact a6 _ (List.getElem_mem hi) _ hc
  · exact b6 _ (List.getElem_mem _) _ hc

theorem join_split {a b : List (List Cx)} (ka : ck32 a = 0) (kb : ck32 b = 0) (hn : a.length = b.length) (hm : (row0 a).length + (row0 b).length ≤ 16) : bsplit (jn a b) (row0 a).length = (a, b, 0) := by
  obtain ⟨a1, a2, a3, a4, a5, a6⟩ := ck32_0 ka
  obtain ⟨b1, b2, b3, b4, b5, b6⟩ := ck32_0 kb
  obtain ⟨j1, j2⟩ := jn_ck ka kb hn hm
  rw [bsplit, if_neg (by simp [j1]), if_neg (by rw [j2]; omega), j2, Int.toNat_natCast]
  have e1 : cut32 (jn a b) 0 (row0 a).length = a := by
    apply List.ext_getElem (by rw [cut_len, jn_len])
    intro i h1 h2
    have l1 := a5 _ (List.getElem_mem h2)
    simp only [cut32, List.getElem_map, jn, List.getElem_range, rw32_get h2]
    unfold cutR
    rw [List.drop_zero, Nat.sub_zero, ← l1, List.take_left]
  have e2 : cut32 (jn a b) (row0 a).length ((row0 a).length + (row0 b).length) = b := by
    apply List.ext_getElem (by rw [cut_len, jn_len, hn])
    intro i h1 h2
    have h3 : i < a.length := by omega
    have l1 := a5 _ (List.getElem_mem h3)
    have l2 := b5 _ (List.getElem_mem h2)
    simp only [cut32, List.getElem_map, jn, List.getElem_range, rw32_get h2, rw32_get h3]
    unfold cutR
    rw [← l1, List.drop_left, ← l2, Nat.add_sub_cancel_left, List.take_length]
  rw [e1, e2]

theorem grid_0 {n m : Nat} {f : Nat → Nat → Cx × Int} : (grid n m f).2 = 0 ↔ ∀ i, i < n → ∀ c, c < m → (f i c).2 = 0 := by
  unfold grid
  split
  · rename_i h; exact ⟨fun _ => h, fun _ => rfl⟩
  · rename_i h; exact ⟨fun q => by simp at q, fun q => absurd q h⟩

theorem grid_ck {n m : Nat} {f : Nat → Nat → Cx × Int} (hn : 1 ≤ n ∧ n ≤ 8) (hm : 1 ≤ m ∧ m ≤ 16) (h0 : (grid n m f).2 = 0) (h : ∀ i, i < n → ∀ c, c < m → okG (f i c).1) :
    ck32 (grid n m f).1 = 0 ∧ (grid n m f).1.length = n ∧ (row0 (grid n m f).1).length = m := by
  have hn' := hn
  rw [grid_ok (grid_0.1 h0)]
  have e : (row0 ((List.range n).map fun i => (List.range m).map fun c => (f i c).1)).length = m := by
    rw [row0_get (by simp; omega)]; simp
  refine ⟨ck32_ok (by simp; omega) (fun r hr => ?_) (by simp; omega) (by rw [e]; omega) (fun r hr => ?_) (fun r hr c hc => ?_), by simp, e⟩
  · simp only [List.mem_map] at hr
    obtain ⟨i, _, rfl⟩ := hr
    simp; omega
  · rw [e]
    simp only [List.mem_map] at hr
    obtain ⟨i, _, rfl⟩ := hr
    simp
  · simp only [List.mem_map] at hr
    obtain ⟨i, hi, rfl⟩ := hr
    simp only [List.mem_map] at hc
    obtain ⟨j, hj, rfl⟩ := hc
    exact h i (List.mem_range.1 hi) j (List.mem_range.1 hj)

theorem mul_okG {a b : Cx} (ha : okG a) (hb : okG b) (h : (mul a b).2 = 0) : okG (mul a b).1 := by
  obtain ⟨h1, h2, h3⟩ := mul_v ha.1 hb.1 h
  exact ⟨h3, v_mul_nz ha.1 hb.1 h3 ha.2 hb.2 h1 h2⟩

theorem bmul_ck {a b : List (List Cx)} (h0 : both32 a b = 0) (h1 : a.length = b.length) (h2 : (row0 a).length = (row0 b).length) (h : (bmul a b).2 = 0) :
    ck32 (bmul a b).1 = 0 ∧ (bmul a b).1.length = a.length ∧ (row0 (bmul a b).1).length = (row0 a).length := by
  obtain ⟨ka, kb⟩ := both32_0 h0
  obtain ⟨a1, a2, a3, a4, a5, a6⟩ := ck32_0 ka
  rw [bmul_grid h0 h1 h2] at h ⊢
  exact grid_ck ⟨by omega, by omega⟩ ⟨by omega, by omega⟩ h fun i hi c hc => mul_okG (rw_valid ka hi hc) (rw_valid kb (by omega) (by omega)) (grid_0.1 h i hi c hc)

theorem both_self {a : List (List Cx)} (h : ck32 a = 0) : both32 a a = 0 := by simp [both32, h]

theorem gat_app1 {x y : List Cx} {c : Nat} (h : c < x.length) : gat (x ++ y) c = gat x c := by
  unfold gat; simp [List.getD, List.getElem?_append_left h]
theorem gat_app2 {x y : List Cx} {c m : Nat} (h : x.length = m) : gat (x ++ y) (m + c) = gat y c := by
  unfold gat; subst h; simp [List.getD, List.getElem?_append_right]

/-- The square of joined bandpasses. -/
theorem jn_mul {a b : List (List Cx)} (ka : ck32 a = 0) (kb : ck32 b = 0) (hn : a.length = b.length) (hm : (row0 a).length + (row0 b).length ≤ 16) :
    bmul (jn a b) (jn a b) = if (bmul a a).2 = 0 ∧ (bmul b b).2 = 0 then (jn (bmul a a).1 (bmul b b).1, 0) else ([], 16) := by
  obtain ⟨a1, a2, a3, a4, a5, a6⟩ := ck32_0 ka
  obtain ⟨b1, b2, b3, b4, b5, b6⟩ := ck32_0 kb
  obtain ⟨j1, j2⟩ := jn_ck ka kb hn hm
  have la : ∀ i, i < a.length → (rw32 a i).length = (row0 a).length := fun i hi => by rw [rw32_get hi, a5 _ (List.getElem_mem hi)]
  rw [bmul_grid (both_self j1) rfl rfl, bmul_grid (both_self ka) rfl rfl, bmul_grid (both_self kb) rfl rfl, jn_len, j2, ← hn]
  have e1 : ∀ i, i < a.length → ∀ c, c < (row0 a).length → gat (rw32 (jn a b) i) c = gat (rw32 a i) c := fun i hi c hc => by
    rw [rw_jn b hi, gat_app1 (by rw [la i hi]; exact hc)]
  have e2 : ∀ i, i < a.length → ∀ c, gat (rw32 (jn a b) i) ((row0 a).length + c) = gat (rw32 b i) c := fun i hi c => by
    rw [rw_jn b hi, gat_app2 (la i hi)]
  split
  · rename_i h
    obtain ⟨h1, h2⟩ := h
    have h1 := grid_0.1 h1
    have h2 := grid_0.1 h2
    rw [grid_ok h1, grid_ok h2, grid_ok]
    · congr 1
      generalize hq : (fun i c => (mul (gat (rw32 (jn a b) i) c) (gat (rw32 (jn a b) i) c)).1) = q
      have q1 : ∀ i, i < a.length → ∀ c, c < (row0 a).length → q i c = (mul (gat (rw32 a i) c) (gat (rw32 a i) c)).1 := fun i hi c hc => by
        subst hq; simp only [e1 i hi c hc]
      have q2 : ∀ i, i < a.length → ∀ c, q i ((row0 a).length + c) = (mul (gat (rw32 b i) c) (gat (rw32 b i) c)).1 := fun i hi c => by
        subst hq; simp only [e2 i hi c]
      have hq' : ((List.range a.length).map fun i => (List.range ((row0 a).length + (row0 b).length)).map fun c => (mul (gat (rw32 (jn a b) i) c) (gat (rw32 (jn a b) i) c)).1) = (List.range a.length).map fun i => (List.range ((row0 a).length + (row0 b).length)).map fun c => q i c := by rw [← hq]
      rw [hq']
      unfold jn
      simp only [List.length_map, List.length_range]
      apply List.map_congr_left
      intro i hi
      have hi := List.mem_range.1 hi
      rw [rw32_get (b := List.map _ (List.range a.length)) (j := i) (by simpa using hi), rw32_get (b := List.map _ (List.range a.length)) (j := i) (by simpa using hi)]
      simp only [List.getElem_map, List.getElem_range]
      rw [List.range_add, List.map_append, List.map_map]
      congr 1
      · apply List.map_congr_left
        intro c hc
        exact q1 i hi c (List.mem_range.1 hc)
      · apply List.map_congr_left
        intro c hc
        exact q2 i hi c
    · intro i hi c hc
      by_cases q : c < (row0 a).length
      · rw [e1 i hi c q]; exact h1 i hi c q
      · obtain ⟨d, rfl⟩ : ∃ d, c = (row0 a).length + d := ⟨c - (row0 a).length, by omega⟩
        rw [e2 i hi d]; exact h2 i hi d (by omega)
  · rename_i h
    rw [grid, if_neg]
    intro q
    refine h ⟨grid_0.2 fun i hi c hc => ?_, grid_0.2 fun i hi c hc => ?_⟩
    · have := q i hi c (by omega)
      rwa [e1 i hi c hc] at this
    · have := q i hi ((row0 a).length + c) (by omega)
      rwa [e2 i hi c] at this

theorem bmul_err {a : List (List Cx)} (ka : ck32 a = 0) : (bmul a a).2 = 0 ∨ (bmul a a).2 = 16 := by
  rw [bmul_grid (both_self ka) rfl rfl]
  unfold grid
  split
  · exact .inl rfl
  · exact .inr rfl

/-- The products joined. -/
theorem join_muls {a b : List (List Cx)} (ka : ck32 a = 0) (kb : ck32 b = 0) (hn : a.length = b.length) (hm : (row0 a).length + (row0 b).length ≤ 16) (h1 : (bmul a a).2 = 0) (h2 : (bmul b b).2 = 0) :
    bjoin (bmul a a).1 (bmul b b).1 = (jn (bmul a a).1 (bmul b b).1, 0) := by
  obtain ⟨p1, p2, p3⟩ := bmul_ck (both_self ka) rfl rfl h1
  obtain ⟨q1, q2, q3⟩ := bmul_ck (both_self kb) rfl rfl h2
  rw [bjoin, if_neg (by simp [both32, p1, q1]), if_neg (by omega), if_neg (by omega)]
end Go.Pv

/- Bandpasses: averages, and flat bandpasses. -/
namespace Go.Pv

def sre : List Cx → Rat
  | [] => 0
  | a :: r => vre a + sre r
def sim : List Cx → Rat
  | [] => 0
  | a :: r => vim a + sim r

theorem sums_v : ∀ {l : List Cx} {s : Cx}, s.valid → (∀ c ∈ l, c.valid) → (sums s l).2 = 0 → vre (sums s l).1 = vre s + sre l ∧ vim (sums s l).1 = vim s + sim l ∧ (sums s l).1.valid
  | [], s, hs, _, _ => ⟨by rw [sre]; show vre s = _; grind, by rw [sim]; show vim s = _; grind, hs⟩
  | a :: r, s, hs, hl, h => by
    have ha := hl a List.mem_cons_self
    by_cases hz : (add s a).2 = 0
    · have e : sums s (a :: r) = sums (add s a).1 r := by
        unfold sums
        rw [List.foldl_cons, addS, if_neg (by simp), if_neg (by simp [hz])]
        congr 1
        exact Prod.ext rfl hz
      rw [e] at h ⊢
      obtain ⟨v1, v2, v3⟩ := add_v hs ha hz
      obtain ⟨h1, h2, h3⟩ := sums_v v3 (fun c hc => hl c (List.mem_cons_of_mem _ hc)) h
      rw [h1, h2, v1, v2, sre, sim]
      exact ⟨by grind, by grind, h3⟩
    · have e : sums s (a :: r) = (c0, (add s a).2) := by
        unfold sums
        rw [List.foldl_cons, addS, if_neg (by simp), if_pos hz]
        exact addS_bad (p := (c0, (add s a).2)) hz r
      rw [e] at h
      exact absurd h hz

theorem sums_err {s : Cx} {l : List Cx} (hs : s.valid) (hl : ∀ c ∈ l, c.valid) : (sums s l).2 = 0 ∨ (sums s l).2 = 16 := by
  induction l generalizing s with
  | nil => exact .inl rfl
  | cons a r ih =>
    have ha := hl a List.mem_cons_self
    by_cases hz : (add s a).2 = 0
    · have e : sums s (a :: r) = sums (add s a).1 r := by
        unfold sums
        rw [List.foldl_cons, addS, if_neg (by simp), if_neg (by simp [hz])]
        congr 1
        exact Prod.ext rfl hz
      rw [e]
      exact ih (add_v hs ha hz).2.2 fun c hc => hl c (List.mem_cons_of_mem _ hc)
    · have e : sums s (a :: r) = (c0, (add s a).2) := by
        unfold sums
        rw [List.foldl_cons, addS, if_neg (by simp), if_pos hz]
        exact addS_bad (p := (c0, (add s a).2)) hz r
      rw [e]
      rcases add_err hs ha with h | h
      · exact absurd h hz
      · right; rw [h]

theorem numC_valid {n : Nat} (h : n ≤ 1000000000) : (numC n).valid := by
  refine ⟨(by decide : (1 : Int) ≤ 1), (by decide : (1 : Int) ≤ 1000000000), ⟨?_, ?_⟩, (by decide : fits 0), ?_⟩
  · show (-1000000000 : Int) ≤ (n : Int); omega
  · show (n : Int) ≤ 1000000000; omega
  · show Int.gcd _ 1 = 1
    exact Int.gcd_one_right _

theorem numC_v (n : Nat) : vre (numC n) = n ∧ vim (numC n) = 0 := by
  unfold vre vim numC
  constructor
  · show ((n : Int) : Rat) / ((1 : Int) : Rat) = _
    have e : ((1 : Int) : Rat) = 1 := rfl
    have e2 : ((n : Int) : Rat) = (n : Rat) := rfl
    rw [e, e2]; grind
  · show ((0 : Int) : Rat) / ((1 : Int) : Rat) = 0
    have e : ((0 : Int) : Rat) = 0 := rfl
    rw [e]; grind

theorem natR_ne {n : Nat} (h : 0 < n) : (n : Rat) ≠ 0 := by
  have e2 : ((n : Int) : Rat) = (n : Rat) := rfl
  rw [← e2]
  exact cast_ne (by omega)

theorem numC_nz {n : Nat} (h : 0 < n) : ¬ (numC n).zero := by
  intro q
  have := q.1
  simp only [numC] at this
  omega

theorem head_tail {l : List Cx} (h : 0 < l.length) : sre l = vre (l.headD c0) + sre l.tail ∧ sim l = vim (l.headD c0) + sim l.tail ∧ ∀ (P : Cx → Prop), (∀ c ∈ l, P c) → P (l.headD c0) ∧ ∀ c ∈ l.tail, P c := by
  cases l with
  | nil => simp at h
  | cons a r => exact ⟨rfl, rfl, fun P hp => ⟨hp a List.mem_cons_self, fun c hc => hp c (List.mem_cons_of_mem _ hc)⟩⟩

/-- An average's value. -/
theorem avg_v {l : List Cx} (h0 : 0 < l.length) (hn : l.length ≤ 1000) (hl : ∀ c ∈ l, c.valid) (h : (avg l).2 = 0) : vre (avg l).1 * (l.length : Rat) = sre l ∧ vim (avg l).1 * (l.length : Rat) = sim l ∧ okG (avg l).1 := by
  obtain ⟨e1, e2, e3⟩ := head_tail h0
  obtain ⟨e3, e4⟩ := e3 _ hl
  unfold avg at h ⊢
  split at h
  · rename_i hz; exact absurd h hz
  rename_i hz
  rw [if_neg hz]
  have hz : (sums (l.headD c0) l.tail).2 = 0 := Classical.not_not.1 hz
  obtain ⟨v1, v2, v3⟩ := sums_v e3 e4 hz
  rw [← e1] at v1
  rw [← e2] at v2
  unfold finC at h ⊢
  split at h
  · rename_i hd; exact absurd h hd
  rename_i hd
  rw [if_neg hd]
  have hd : (div (sums (l.headD c0) l.tail).1 (numC l.length)).2 = 0 := Classical.not_not.1 hd
  split at h
  · simp at h
  rename_i hq
  rw [if_neg hq]
  obtain ⟨d1, d2, d3⟩ := div_v v3 (numC_valid (by omega)) (numC_nz h0) hd
  obtain ⟨n1, n2⟩ := numC_v l.length
  rw [n1, n2, v1, v2] at d1 d2
  have hne := natR_ne h0
  exact ⟨by grind, by grind, d3, hq⟩

theorem sre_rep (x : Cx) : ∀ n : Nat, sre (List.replicate n x) = n * vre x ∧ sim (List.replicate n x) = n * vim x
  | 0 => ⟨by show (0 : Rat) = ((0 : Nat) : Rat) * _; rw [show ((0 : Nat) : Rat) = 0 from rfl]; grind, by show (0 : Rat) = ((0 : Nat) : Rat) * _; rw [show ((0 : Nat) : Rat) = 0 from rfl]; grind⟩
  | n + 1 => by
    obtain ⟨h1, h2⟩ := sre_rep x n
    have e : ((n + 1 : Nat) : Rat) = (n : Rat) + 1 := by
      have : (((n + 1 : Nat) : Int) : Rat) = ((n : Int) : Rat) + ((1 : Int) : Rat) := by rw [← Rat.intCast_add]; rfl
      exact this
    rw [List.replicate_succ, sre, sim, h1, h2, e]
    exact ⟨by grind, by grind⟩

/-- The average of equal numbers. -/
theorem avg_rep {x : Cx} (hx : okG x) {n : Nat} (h1 : 1 ≤ n) (h2 : n ≤ 1000) : avg (List.replicate n x) = (x, 0) ∨ avg (List.replicate n x) = (c0, 16) := by
  have hl : ∀ c ∈ List.replicate n x, c.valid := fun c hc => by rw [List.eq_of_mem_replicate hc]; exact hx.1
  have hlen : (List.replicate n x).length = n := List.length_replicate
  have hz0 : 0 < (List.replicate n x).length := by omega
  by_cases h : (avg (List.replicate n x)).2 = 0
  · left
    obtain ⟨v1, v2, v3⟩ := avg_v hz0 (by omega) hl h
    obtain ⟨r1, r2⟩ := sre_rep x n
    rw [hlen, r1] at v1
    rw [hlen, r2] at v2
    have hne := natR_ne (show 0 < n by omega)
    exact Prod.ext (v_inj v3.1 hx.1 (by grind) (by grind)) h
  · right
    obtain ⟨e1, e2, e3⟩ := head_tail hz0
    obtain ⟨e3, e4⟩ := e3 _ hl
    unfold avg at h ⊢
    by_cases hz : (sums ((List.replicate n x).headD c0) (List.replicate n x).tail).2 = 0
    · rw [if_neg (fun q => q hz)] at h ⊢
      obtain ⟨v1, v2, v3⟩ := sums_v e3 e4 hz
      obtain ⟨r1, r2⟩ := sre_rep x n
      rw [← e1, r1] at v1
      rw [← e2, r2] at v2
      rw [hlen] at h ⊢
      unfold finC at h ⊢
      by_cases hd : (div (sums ((List.replicate n x).headD c0) (List.replicate n x).tail).1 (numC n)).2 = 0
      · rw [if_neg (fun q => q hd)] at h ⊢
        obtain ⟨d1, d2, d3⟩ := div_v v3 (numC_valid (by omega)) (numC_nz (by omega)) hd
        obtain ⟨n1, n2⟩ := numC_v n
        rw [n1, n2, v1, v2] at d1 d2
        have hne := natR_ne (show 0 < n by omega)
        have ex : (div (sums ((List.replicate n x).headD c0) (List.replicate n x).tail).1 (numC n)).1 = x := v_inj d3 hx.1 (by grind) (by grind)
        rw [ex, if_neg hx.2] at h
        exact absurd rfl h
      · rw [if_pos hd]
        rcases div_err v3 (numC_valid (show n ≤ 1000000000 by omega)) (numC_nz (show 0 < n by omega)) with q | q
        · exact absurd q hd
        · rw [q]
    · rw [if_pos hz]
      rcases sums_err e3 e4 with q | q
      · exact absurd q hz
      · rw [q]

theorem ferr_16 {α : Type} {f : Nat → α × Int} : ∀ {n : Nat}, (∀ i, i < n → (f i).2 = 0 ∨ (f i).2 = 16) → ferr f n = 0 ∨ ferr f n = 16
  | 0, _ => .inl rfl
  | n + 1, h => by
    rw [ferr]
    split
    · exact ferr_16 fun i hi => h i (by omega)
    · exact h n (by omega)

theorem cutR_rep {x : Cx} {n p q : Nat} (h : q ≤ n) : cutR (List.replicate n x) p q = List.replicate (q - p) x := by
  unfold cutR
  rw [List.drop_replicate, List.take_replicate]
  congr 1
  omega

theorem means_rep {x : Cx} (hx : okG x) {n w : Nat} (h1 : 1 ≤ w) (hn : n ≤ 1000) : means (List.replicate n x) w = (List.replicate (n / w) x, 0) ∨ means (List.replicate n x) w = ([], 16) := by
  unfold means gath
  rw [List.length_replicate]
  have key : ∀ j, j < n / w → avg (cutR (List.replicate n x) (j * w) (j * w + w)) = (x, 0) ∨ avg (cutR (List.replicate n x) (j * w) (j * w + w)) = (c0, 16) := fun j hj => by
    have h2 : j * w + w ≤ n := by
      have h3 : (j + 1) * w ≤ n / w * w := Nat.mul_le_mul_right w hj
      have h4 := Nat.div_mul_le_self n w
      rw [Nat.add_mul] at h3
      omega
    rw [cutR_rep h2, Nat.add_sub_cancel_left]
    exact avg_rep hx h1 (by omega)
  split
  · rename_i hz
    left
    congr 1
    rw [List.eq_replicate_iff]
    refine ⟨by simp, fun c hc => ?_⟩
    simp only [List.mem_map] at hc
    obtain ⟨j, hj, rfl⟩ := hc
    have hj := List.mem_range.1 hj
    rcases key j hj with h | h
    · rw [h]
    · have := ferr_0.1 hz j hj
      rw [h] at this
      simp at this
  · rename_i hz
    right
    rcases ferr_16 (f := fun j => avg (cutR (List.replicate n x) (j * w) (j * w + w))) (n := n / w) (fun j hj => by rcases key j hj with h | h <;> rw [h] <;> simp) with h | h
    · exact absurd h hz
    · rw [h]

/-- A flat bandpass. -/
def flatB (g : List Cx) (n : Nat) : List (List Cx) := g.map fun x => List.replicate n x

theorem flatB_of {g : List Cx} {n : Nat} (hg : ck26 g = 0) (h1 : 1 ≤ n) (h2 : n ≤ 16) : bflat g n = (flatB g n, 0) := by
  rw [bflat_grid hg h1 h2, grid_ok fun _ _ _ _ => rfl]
  congr 1
  unfold flatB
  apply List.ext_getElem (by simp)
  intro i hi hi2
  have hi3 : i < g.length := by simpa using hi2
  simp only [List.getElem_map, List.getElem_range, gat_get hi3]
  rw [List.eq_replicate_iff]
  refine ⟨by simp, fun c hc => ?_⟩
  simp only [List.mem_map] at hc
  obtain ⟨_, _, rfl⟩ := hc
  rfl

theorem flatB_ck {g : List Cx} {n : Nat} (hg : ck26 g = 0) (h1 : 1 ≤ n) (h2 : n ≤ 16) : ck32 (flatB g n) = 0 ∧ (flatB g n).length = g.length ∧ (row0 (flatB g n)).length = n := by
  obtain ⟨g1, g2, g3⟩ := ck26_0 hg
  have hr : ∀ r ∈ flatB g n, r.length = n := fun r hr => by
    rw [flatB, List.mem_map] at hr
    obtain ⟨x, _, rfl⟩ := hr
    exact List.length_replicate
  have hl : (flatB g n).length = g.length := by simp [flatB]
  have e : (row0 (flatB g n)).length = n := by rw [row0_get (by omega)]; exact hr _ (List.getElem_mem _)
  refine ⟨ck32_ok (by omega) (fun r h => by rw [hr r h]; exact h2) (by omega) (by omega) (fun r h => by rw [hr r h, e]) (fun r h c hc => ?_), hl, e⟩
  rw [flatB, List.mem_map] at h
  obtain ⟨x, hx, rfl⟩ := h
  rw [List.eq_of_mem_replicate hc]
  exact g3 x hx

theorem flatB_col {g : List Cx} {n c : Nat} (h : c < n) : col32 (flatB g n) c = g := by
  unfold col32 flatB
  rw [List.map_map]
  have : (fun r => gat r c) ∘ (fun x => List.replicate n x) = id := by
    funext x
    simp [Function.comp, gat, h]
  rw [this, List.map_id]

/-- The average of a flat bandpass. -/
theorem flatB_mean {g : List Cx} {n : Nat} (hg : ck26 g = 0) (h1 : 1 ≤ n) (h2 : n ≤ 16) (w : Int) :
    (bmean (flatB g n) w).2 = 2 ∨ (bmean (flatB g n) w).2 = 16 ∨ (1 ≤ w ∧ bmean (flatB g n) w = (g.map fun x => List.replicate (n / w.toNat) x, 0)) := by
  obtain ⟨k1, k2, k3⟩ := flatB_ck hg h1 h2
  obtain ⟨g1, g2, g3⟩ := ck26_0 hg
  rw [bmean, if_neg (by simp [k1])]
  split
  · exact .inl rfl
  · rename_i hw
    right
    have hr : ∀ i, (hi : i < g.length) → rw32 (flatB g n) i = List.replicate n g[i] := fun i hi => by
      rw [rw32_get (by omega)]; simp [flatB]
    have key : ∀ i, (hi : i < g.length) → means (rw32 (flatB g n) i) w.toNat = (List.replicate (n / w.toNat) g[i], 0) ∨ means (rw32 (flatB g n) i) w.toNat = ([], 16) := fun i hi => by
      rw [hr i hi]
      exact means_rep (g3 _ (List.getElem_mem hi)) (by omega) (by omega)
    rw [k2]
    unfold gath
    split
    · rename_i hz
      right
      refine ⟨by omega, ?_⟩
      congr 1
      apply List.ext_getElem (by simp)
      intro i hi hi2
      have hi3 : i < g.length := by simpa using hi2
      simp only [List.getElem_map, List.getElem_range]
      rcases key i hi3 with h | h
      · rw [h]
      · have := ferr_0.1 hz i hi3
        rw [h] at this
        simp at this
    · rename_i hz
      left
      rcases ferr_16 (f := fun i => means (rw32 (flatB g n) i) w.toNat) (n := g.length) (fun i hi => by rcases key i hi with h | h <;> rw [h] <;> simp) with h | h
      · exact absurd h hz
      · exact h
end Go.Pv

/- Bandpasses: averages of averages, and of products. -/
namespace Go.Pv

def sumF (f : Nat → Rat) : Nat → Rat
  | 0 => 0
  | n + 1 => sumF f n + f n

theorem sumF_add (f : Nat → Rat) (m : Nat) : ∀ n : Nat, sumF f (m + n) = sumF f m + sumF (fun i => f (m + i)) n
  | 0 => by show sumF f m = sumF f m + 0; grind
  | n + 1 => by rw [show m + (n + 1) = (m + n) + 1 from rfl, sumF, sumF_add f m n, sumF]; grind

theorem sumF_chunks (f : Nat → Rat) (v : Nat) : ∀ w : Nat, sumF f (w * v) = sumF (fun t => sumF (fun i => f (t * v + i)) v) w
  | 0 => by rw [Nat.zero_mul]; rfl
  | w + 1 => by rw [Nat.add_mul, Nat.one_mul, sumF_add, sumF_chunks f v w, sumF]

theorem sumF_congr {f g : Nat → Rat} : ∀ {n : Nat}, (∀ i, i < n → f i = g i) → sumF f n = sumF g n
  | 0, _ => rfl
  | n + 1, h => by rw [sumF, sumF, sumF_congr fun i hi => h i (by omega), h n (by omega)]

theorem sumF_lin (a b : Rat) (f g : Nat → Rat) : ∀ n : Nat, sumF (fun i => a * f i + b * g i) n = a * sumF f n + b * sumF g n
  | 0 => by show (0 : Rat) = a * 0 + b * 0; grind
  | n + 1 => by rw [sumF, sumF_lin a b f g n, sumF, sumF]; grind

theorem sre_snoc (l : List Cx) (a : Cx) : sre (l ++ [a]) = sre l + vre a ∧ sim (l ++ [a]) = sim l + vim a := by
  induction l with
  | nil => exact ⟨by show vre a + 0 = 0 + vre a; grind, by show vim a + 0 = 0 + vim a; grind⟩
  | cons x r ih =>
    obtain ⟨h1, h2⟩ := ih
    exact ⟨by show vre x + sre (r ++ [a]) = (vre x + sre r) + vre a; rw [h1]; grind, by show vim x + sim (r ++ [a]) = (vim x + sim r) + vim a; rw [h2]; grind⟩

theorem sre_cut {r : List Cx} {p : Nat} : ∀ {k : Nat}, p + k ≤ r.length → sre (cutR r p (p + k)) = sumF (fun i => vre (gat r (p + i))) k ∧ sim (cutR r p (p + k)) = sumF (fun i => vim (gat r (p + i))) k
  | 0, _ => by unfold cutR; rw [Nat.add_zero, Nat.sub_self, List.take_zero]; exact ⟨rfl, rfl⟩
  | k + 1, h => by
    obtain ⟨h1, h2⟩ := sre_cut (r := r) (p := p) (k := k) (by omega)
    have hk : k < (r.drop p).length := by rw [List.length_drop]; omega
    have e : cutR r p (p + (k + 1)) = cutR r p (p + k) ++ [gat r (p + k)] := by
      unfold cutR
      rw [Nat.add_sub_cancel_left, Nat.add_sub_cancel_left, List.take_succ_eq_append_getElem hk, List.getElem_drop, gat_get (by omega)]
    rw [e, (sre_snoc _ _).1, (sre_snoc _ _).2, h1, h2, sumF, sumF]
    exact ⟨rfl, rfl⟩

/-- Tables with the same numbers are the same. -/
theorem tab_eq {x y : List (List Cx)} (kx : ck32 x = 0) (ky : ck32 y = 0) (hl : x.length = y.length) (hr : (row0 x).length = (row0 y).length)
    (h : ∀ i, i < x.length → ∀ j, j < (row0 x).length → gat (rw32 x i) j = gat (rw32 y i) j) : x = y := by
  obtain ⟨x1, x2, x3, x4, x5, x6⟩ := ck32_0 kx
  obtain ⟨y1, y2, y3, y4, y5, y6⟩ := ck32_0 ky
  apply List.ext_getElem hl
  intro i h1 h2
  have lx := x5 _ (List.getElem_mem h1)
  have ly := y5 _ (List.getElem_mem h2)
  apply List.ext_getElem (by rw [lx, ly, hr])
  intro j j1 j2
  have := h i h1 j (by omega)
  rwa [rw32_get h1, rw32_get h2, gat_get j1, gat_get j2] at this

/-- What an average of a bandpass is. -/
theorem bmean_ok {b : List (List Cx)} {w : Nat} (h0 : (bmean b (w : Int)).2 = 0) : ck32 b = 0 ∧ 1 ≤ w ∧ ∃ d, 1 ≤ d ∧ (row0 b).length = d * w ∧ (bmean b (w : Int)).1.length = b.length ∧ ck32 (bmean b (w : Int)).1 = 0 ∧ (row0 (bmean b (w : Int)).1).length = d ∧
    ∀ i, i < b.length → ∀ j, j < d → vre (gat (rw32 (bmean b (w : Int)).1 i) j) * (w : Rat) = sumF (fun k => vre (gat (rw32 b i) (j * w + k))) w ∧ vim (gat (rw32 (bmean b (w : Int)).1 i) j) * (w : Rat) = sumF (fun k => vim (gat (rw32 b i) (j * w + k))) w := by
  unfold bmean at h0
  split at h0
  · rename_i h; exact absurd h0 h
  rename_i hk
  have hk : ck32 b = 0 := Classical.not_not.1 hk
  split at h0
  · simp at h0
  rename_i hw
  rw [Int.toNat_natCast] at h0
  have e : bmean b (w : Int) = gath (fun i => means (rw32 b i) w) b.length := by
    rw [bmean, if_neg (by simp [hk]), if_neg hw, Int.toNat_natCast]
  have hw1 : 1 ≤ w := by omega
  have hm : ((row0 b).length : Int) % (w : Int) = 0 := Classical.not_not.1 fun q => hw (.inr q)
  obtain ⟨b1, b2, b3, b4, b5, b6⟩ := ck32_0 hk
  obtain ⟨d, ed⟩ : w ∣ (row0 b).length := Int.ofNat_dvd.1 (Int.dvd_of_emod_eq_zero hm)
  rw [Nat.mul_comm] at ed
  have hd : 1 ≤ d := by
    refine Nat.pos_of_ne_zero fun q => ?_
    rw [q, Nat.zero_mul] at ed
    omega
  have hw16 : w ≤ 16 := by
    have := Nat.le_mul_of_pos_left w hd
    omega
  have hd16 : d ≤ 16 := by
    have := Nat.le_mul_of_pos_right d hw1
    omega
  have z1 : ferr (fun i => means (rw32 b i) w) b.length = 0 := by
    unfold gath at h0
    split at h0
    · rename_i q; exact q
    · exact h0
  have z2 := ferr_0.1 z1
  have len : ∀ i, (hi : i < b.length) → b[i].length / w = d := fun i hi => by
    rw [b5 _ (List.getElem_mem hi), ed, Nat.mul_div_cancel _ hw1]
  have row : ∀ i, (hi : i < b.length) → means (rw32 b i) w = ((List.range d).map fun j => (avg (cutR b[i] (j * w) (j * w + w))).1, 0) ∧ ∀ j, j < d → (avg (cutR b[i] (j * w) (j * w + w))).2 = 0 := fun i hi => by
    have h := z2 i hi
    rw [rw32_get hi] at h ⊢
    unfold means gath at h ⊢
    rw [len i hi] at h ⊢
    split at h
    · rename_i q
      rw [if_pos q]
      exact ⟨rfl, ferr_0.1 q⟩
    · rename_i q; exact absurd h q
  have e1 : (bmean b (w : Int)).1 = (List.range b.length).map fun i => (means (rw32 b i) w).1 := by rw [e, gath, if_pos z1]
  have hlen : (bmean b (w : Int)).1.length = b.length := by rw [e1]; simp
  have rwm : ∀ i, (hi : i < b.length) → rw32 (bmean b (w : Int)).1 i = (List.range d).map fun j => (avg (cutR b[i] (j * w) (j * w + w))).1 := fun i hi => by
    rw [rw32_get (by rw [hlen]; exact hi)]
    simp only [e1, List.getElem_map, List.getElem_range, (row i hi).1]
  have le : ∀ j, j < d → j * w + w ≤ d * w := fun j hj => by
    have : (j + 1) * w ≤ d * w := Nat.mul_le_mul_right w hj
    rwa [Nat.add_mul, Nat.one_mul] at this
  have av : ∀ i, (hi : i < b.length) → ∀ j, j < d → vre (avg (cutR b[i] (j * w) (j * w + w))).1 * (w : Rat) = sre (cutR b[i] (j * w) (j * w + w)) ∧ vim (avg (cutR b[i] (j * w) (j * w + w))).1 * (w : Rat) = sim (cutR b[i] (j * w) (j * w + w)) ∧ okG (avg (cutR b[i] (j * w) (j * w + w))).1 := fun i hi j hj => by
    have hb := b5 _ (List.getElem_mem hi)
    have hl : (cutR b[i] (j * w) (j * w + w)).length = w := by
      rw [cutR_length (by rw [hb, ed]; exact le j hj), Nat.add_sub_cancel_left]
    have := avg_v (l := cutR b[i] (j * w) (j * w + w)) (by omega) (by omega) (fun c hc => (b6 _ (List.getElem_mem hi) c (List.mem_of_mem_drop (List.mem_of_mem_take hc))).1) ((row i hi).2 j hj)
    rwa [hl] at this
  have rl : ∀ r ∈ (bmean b (w : Int)).1, r.length = d := fun r hr => by
    obtain ⟨i, hi, rfl⟩ := List.getElem_of_mem hr
    have := rwm i (by omega)
    rw [rw32_get hi] at this
    rw [this]; simp
  have r0 : (row0 (bmean b (w : Int)).1).length = d := by rw [row0_get (by omega)]; exact rl _ (List.getElem_mem _)
  refine ⟨hk, hw1, d, hd, ed, hlen, ck32_ok (by omega) (fun r hr => by rw [rl r hr]; exact hd16) (by omega) (by omega) (fun r hr => by rw [rl r hr, r0]) (fun r hr c hc => ?_), r0, fun i hi j hj => ?_⟩
  · obtain ⟨i, hi, rfl⟩ := List.getElem_of_mem hr
    have := rwm i (by omega)
    rw [rw32_get hi] at this
    rw [this] at hc
    simp only [List.mem_map, List.mem_range] at hc
    obtain ⟨j, hj, rfl⟩ := hc
    exact (av i (by omega) j hj).2.2
  · have hb := b5 _ (List.getElem_mem hi)
    obtain ⟨v1, v2, _⟩ := av i hi j hj
    obtain ⟨c1, c2⟩ := sre_cut (r := b[i]) (p := j * w) (k := w) (by rw [hb, ed]; exact le j hj)
    rw [rwm i hi, gat_map _ hj, v1, v2, c1, c2, rw32_get hi]
    exact ⟨rfl, rfl⟩

theorem natR_mul (a b : Nat) : ((a * b : Nat) : Rat) = (a : Rat) * (b : Rat) := by
  have : (((a * b : Nat) : Int) : Rat) = ((a : Int) : Rat) * ((b : Int) : Rat) := by rw [← Rat.intCast_mul]; rfl
  exact this

/-- The average of an average. -/
theorem mean_mean {b : List (List Cx)} {v w : Nat} (h1 : (bmean b (v : Int)).2 = 0) (h2 : (bmean b ((v * w : Nat) : Int)).2 = 0) (h3 : (bmean (bmean b (v : Int)).1 (w : Int)).2 = 0) :
    (bmean b ((v * w : Nat) : Int)).1 = (bmean (bmean b (v : Int)).1 (w : Int)).1 := by
  obtain ⟨kb, hv, d, hd, ed, l1, k1, r1, e1⟩ := bmean_ok h1
  obtain ⟨_, hvw, d2, hd2, ed2, l2, k2, r2, e2⟩ := bmean_ok h2
  obtain ⟨_, hw, d3, hd3, ed3, l3, k3, r3, e3⟩ := bmean_ok h3
  have dd : d2 = d3 := by
    rw [r1] at ed3
    rw [ed, ed3, Nat.mul_comm v w, ← Nat.mul_assoc] at ed2
    have hv' : 0 < v := hv
    have hw' : 0 < w := hw
    exact (Nat.eq_of_mul_eq_mul_right hw' (Nat.eq_of_mul_eq_mul_right hv' ed2)).symm
  subst dd
  refine tab_eq k2 k3 (by rw [l2, l3, l1]) (by rw [r2, r3]) fun i hi j hj => ?_
  rw [l2] at hi
  rw [r2] at hj
  obtain ⟨b1, b2, b3, b4, b5, b6⟩ := ck32_0 kb
  obtain ⟨p1, p2⟩ := e2 i hi j hj
  obtain ⟨q1, q2⟩ := e3 i (by rw [l1]; exact hi) j hj
  have hjw : ∀ t, t < w → j * w + t < d := fun t ht => by
    rw [r1] at ed3
    have : (j + 1) * w ≤ d2 * w := Nat.mul_le_mul_right w hj
    rw [Nat.add_mul, Nat.one_mul] at this
    omega
  have ix : ∀ t i, j * (v * w) + (t * v + i) = (j * w + t) * v + i := fun t i => by
    rw [Nat.add_mul, Nat.mul_comm v w, Nat.mul_assoc]; omega
  have n1 := natR_ne (show 0 < v from hv)
  have n2 := natR_ne (show 0 < w from hw)
  rw [Nat.mul_comm v w, sumF_chunks, natR_mul] at p1 p2
  have s1 : sumF (fun t => sumF (fun k => vre (gat (rw32 b i) (j * (w * v) + (t * v + k)))) v) w = sumF (fun t => (v : Rat) * vre (gat (rw32 (bmean b (v : Int)).1 i) (j * w + t)) + 0 * (fun _ => (0 : Rat)) t) w := sumF_congr fun t ht => by
    have := (e1 i hi (j * w + t) (hjw t ht)).1
    rw [show (v : Rat) * vre (gat (rw32 (bmean b (v : Int)).1 i) (j * w + t)) + 0 * (fun _ => (0 : Rat)) t = vre (gat (rw32 (bmean b (v : Int)).1 i) (j * w + t)) * (v : Rat) by grind, this]
    exact sumF_congr fun k _ => by rw [Nat.mul_comm w v, ix]
  have s2 : sumF (fun t => sumF (fun k => vim (gat (rw32 b i) (j * (w * v) + (t * v + k)))) v) w = sumF (fun t => (v : Rat) * vim (gat (rw32 (bmean b (v : Int)).1 i) (j * w + t)) + 0 * (fun _ => (0 : Rat)) t) w := sumF_congr fun t ht => by
    have := (e1 i hi (j * w + t) (hjw t ht)).2
    rw [show (v : Rat) * vim (gat (rw32 (bmean b (v : Int)).1 i) (j * w + t)) + 0 * (fun _ => (0 : Rat)) t = vim (gat (rw32 (bmean b (v : Int)).1 i) (j * w + t)) * (v : Rat) by grind, this]
    exact sumF_congr fun k _ => by rw [Nat.mul_comm w v, ix]
  rw [s1, sumF_lin, ← q1] at p1
  rw [s2, sumF_lin, ← q2] at p2
  have va := rw_valid k2 (i := i) (c := j) (by rw [l2]; exact hi) (by rw [r2]; exact hj)
  have vb := rw_valid k3 (i := i) (c := j) (by rw [l3, l1]; exact hi) (by rw [r3]; exact hj)
  rw [Nat.mul_comm w v] at p1 p2
  exact v_inj va.1 vb.1 (by grind) (by grind)

/-- The same factor everywhere. -/
def facs (b : List (List Cx)) (f : Cx) : List (List Cx) := b.map fun r => List.replicate r.length f

theorem facs_ck {b : List (List Cx)} {f : Cx} (h : ck32 b = 0) (hf : okG f) : ck32 (facs b f) = 0 ∧ (facs b f).length = b.length ∧ (row0 (facs b f)).length = (row0 b).length ∧ ∀ i, i < b.length → ∀ c, c < (row0 b).length → gat (rw32 (facs b f) i) c = f := by
  obtain ⟨b1, b2, b3, b4, b5, b6⟩ := ck32_0 h
  have hr : ∀ r ∈ facs b f, r.length = (row0 b).length := fun r hr => by
    rw [facs, List.mem_map] at hr
    obtain ⟨x, hx, rfl⟩ := hr
    rw [List.length_replicate]; exact b5 x hx
  have hl : (facs b f).length = b.length := by simp [facs]
  have e : (row0 (facs b f)).length = (row0 b).length := by rw [row0_get (by omega)]; exact hr _ (List.getElem_mem _)
  refine ⟨ck32_ok (by omega) (fun r h => by rw [hr r h]; exact b4) (by omega) (by omega) (fun r h => by rw [hr r h, e]) (fun r h c hc => ?_), hl, e, fun i hi c hc => ?_⟩
  · rw [facs, List.mem_map] at h
    obtain ⟨x, hx, rfl⟩ := h
    rw [List.eq_of_mem_replicate hc]; exact hf
  · rw [rw32_get (by omega)]
    have := b5 _ (List.getElem_mem hi)
    simp only [facs, List.getElem_map]
    rw [gat_get (by rw [List.length_replicate]; omega), List.getElem_replicate]

/-- The average of a product by a factor. -/
theorem mean_fac {b : List (List Cx)} {f : Cx} {v : Nat} (hf : okG f) (h1 : (bmean b (v : Int)).2 = 0) (h2 : (bmul b (facs b f)).2 = 0) (h3 : (bmean (bmul b (facs b f)).1 (v : Int)).2 = 0) :
    (bmean (bmul b (facs b f)).1 (v : Int)).1.length = (bmean b (v : Int)).1.length ∧ (row0 (bmean (bmul b (facs b f)).1 (v : Int)).1).length = (row0 (bmean b (v : Int)).1).length ∧
    ∀ i, i < (bmean b (v : Int)).1.length → ∀ j, j < (row0 (bmean b (v : Int)).1).length → (mul (gat (rw32 (bmean b (v : Int)).1 i) j) f).2 = 0 → (mul (gat (rw32 (bmean b (v : Int)).1 i) j) f).1 = gat (rw32 (bmean (bmul b (facs b f)).1 (v : Int)).1 i) j := by
  obtain ⟨kb, hv, d, hd, ed, l1, k1, r1, e1⟩ := bmean_ok h1
  obtain ⟨kp, _, d2, hd2, ed2, l2, k2, r2, e2⟩ := bmean_ok h3
  obtain ⟨f1, f2, f3, f4⟩ := facs_ck kb hf
  have h0 : both32 b (facs b f) = 0 := by simp [both32, kb, f1]
  obtain ⟨_, p2, p3⟩ := bmul_ck h0 f2.symm f3.symm h2
  have hv' : 0 < v := hv
  have dd : d2 = d := by
    rw [p3, ed] at ed2
    exact (Nat.eq_of_mul_eq_mul_right hv' ed2).symm
  subst dd
  refine ⟨by rw [l1, l2, p2], by rw [r1, r2], fun i hi j hj hz => ?_⟩
  rw [l1] at hi
  rw [r1] at hj
  have va := rw_valid k1 (i := i) (c := j) (by rw [l1]; exact hi) (by rw [r1]; exact hj)
  have vb := rw_valid k2 (i := i) (c := j) (by rw [l2, p2]; exact hi) (by rw [r2]; exact hj)
  obtain ⟨m1, m2, m3⟩ := mul_v va.1 hf.1 hz
  obtain ⟨q1, q2⟩ := e1 i hi j hj
  obtain ⟨s1, s2⟩ := e2 i (by rw [p2]; exact hi) j hj
  have n1 := natR_ne hv'
  have le : ∀ k, k < v → j * v + k < (row0 b).length := fun k hk => by
    have : (j + 1) * v ≤ d2 * v := Nat.mul_le_mul_right v hj
    rw [Nat.add_mul, Nat.one_mul] at this
    rw [ed]; omega
  have ent : ∀ k, k < v → vre (gat (rw32 (bmul b (facs b f)).1 i) (j * v + k)) = vre (gat (rw32 b i) (j * v + k)) * vre f - vim (gat (rw32 b i) (j * v + k)) * vim f ∧ vim (gat (rw32 (bmul b (facs b f)).1 i) (j * v + k)) = vre (gat (rw32 b i) (j * v + k)) * vim f + vim (gat (rw32 b i) (j * v + k)) * vre f := fun k hk => by
    have hc := le k hk
    have hg := h2
    rw [bmul_grid h0 f2.symm f3.symm] at hg ⊢
    have hz := grid_0.1 hg
    rw [grid_ok hz, rw32_get (by simpa using hi)]
    simp only [List.getElem_map, List.getElem_range]
    rw [gat_map _ hc, f4 i hi _ hc]
    have := hz i hi _ hc
    rw [f4 i hi _ hc] at this
    obtain ⟨v1, v2, _⟩ := mul_v (rw_valid kb hi hc).1 hf.1 this
    exact ⟨v1, v2⟩
  have t1 : sumF (fun k => vre (gat (rw32 (bmul b (facs b f)).1 i) (j * v + k))) v = sumF (fun k => vre f * (fun k => vre (gat (rw32 b i) (j * v + k))) k + (- vim f) * (fun k => vim (gat (rw32 b i) (j * v + k))) k) v := sumF_congr fun k hk => by
    rw [(ent k hk).1]; grind
  have t2 : sumF (fun k => vim (gat (rw32 (bmul b (facs b f)).1 i) (j * v + k))) v = sumF (fun k => vim f * (fun k => vre (gat (rw32 b i) (j * v + k))) k + vre f * (fun k => vim (gat (rw32 b i) (j * v + k))) k) v := sumF_congr fun k hk => by
    rw [(ent k hk).2]; grind
  rw [t1, sumF_lin, ← q1, ← q2] at s1
  rw [t2, sumF_lin, ← q1, ← q2] at s2
  exact v_inj m3 vb.1 (by rw [m1]; grind) (by rw [m2]; grind)
end Go.Pv
