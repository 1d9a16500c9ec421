/- Loops. -/
import Derived.Test.YtljahbpkhienkaaPvH
import Derived.Deep.LoopGhost
namespace Go.Pv
open Go.Vc
open Go.RowKit (Below)

def clearL (W : List Nat) (sl : Slots) : Slots := sl.filter fun p => !memN p.1 W

theorem clear_iff (W : List Nat) (sl : Slots) (k : Slots → Prop) : clear W sl k ↔ k (clearL W sl) := by
  induction sl generalizing k with
  | nil => exact Iff.rfl
  | cons p r ih =>
    obtain ⟨t, x⟩ := p
    cases h : memN t W <;> simp [clear, clearL, h, ih]

theorem get_clearL (W : List Nat) (sl : Slots) (t : Nat) : (clearL W sl).get t = if t ∈ W then .any else sl.get t := by
  induction sl with
  | nil => simp [clearL, Slots.get]
  | cons p r ih =>
    obtain ⟨d, x⟩ := p
    by_cases h : memN d W = true
    · have : clearL W ((d, x) :: r) = clearL W r := by simp [clearL, h]
      rw [this, ih, get_cons]
      rw [memN_iff] at h
      by_cases hdt : d = t
      · subst hdt; simp [h]
      · simp [hdt]
    · have : clearL W ((d, x) :: r) = (d, x) :: clearL W r := by simp [clearL, h]
      rw [this, get_cons, get_cons, ih]
      rw [memN_iff] at h
      by_cases hdt : d = t
      · subst hdt; simp [h]
      · simp [hdt]

/-- A slot behind entries of other slots. -/
theorem get_append_other {sl : Slots} {t : Nat} : ∀ {a : Slots}, (∀ p ∈ a, p.1 ≠ t) → Slots.get (a ++ sl) t = Slots.get sl t
  | [], _ => rfl
  | (d, x) :: r, h => by
    rw [List.cons_append, get_cons, if_neg (h (d, x) (by simp)), get_append_other fun p hp => h p (by simp [hp])]

theorem allIn_spec {W : List Nat} : ∀ {sl : Slots}, allIn W sl = true → ∀ p ∈ sl, p.1 ∈ W
  | [], _, p, h => by cases h
  | (t, x) :: r, hb, p, h => by
    simp only [allIn, Bool.and_eq_true, memN_iff] at hb
    rcases List.mem_cons.1 h with rfl | h
    · exact hb.1
    · exact allIn_spec hb.2 p h

section
variable {w0 : World} {S0 : Fr} {N : Nat} {obs obs' : Obs} {ρ : Nat → Value} {S : Nat → Prop} {w : World} {a : Act} {sl : Slots}

theorem setAt_length (i o : Nat) (y : SV) : ∀ obs : Obs, (setAt i o y obs).length = obs.length := by
  intro obs
  induction obs generalizing i with
  | nil => cases i <;> simp [setAt]
  | cons x r ih => cases i <;> simp [setAt, ih]

theorem setAt_get (i o : Nat) (y : SV) : ∀ (obs : Obs) (j : Nat), (setAt i o y obs)[j]? = if j = i then (obs[j]?).map (setCell o y) else obs[j]? := by
  intro obs
  induction obs generalizing i with
  | nil => intro j; simp [setAt]
  | cons x r ih =>
    intro j
    cases i with
    | zero => cases j <;> simp [setAt]
    | succ i =>
      cases j with
      | zero => simp [setAt]
      | succ j => simp [setAt, ih]

theorem owns_setCell {o : Nat} {y : SV} {ob : Ob} {x : Value} {b : Nat} (h : Owns w (setCell o y ob) x b) : Owns w ob x b := by
  cases ob <;> first | exact h | exact .inl (h.flat rfl)

theorem setCell_live (o : Nat) (y : SV) (ob : Ob) : (setCell o y ob).live = ob.live := by cases ob <;> rfl

/-- A cell of a variable is told in another way. -/
theorem SatW.cellAs (h : SatW w0 S0 obs ρ S w) (i o : Nat) (y : SV) (hy : ∀ (t : TypeId) (cs : List SV) (xs : List Value) (b : Nat) (v : Value), obs[i]? = some (.box t cs) → ρ i = .pointer (some ⟨b, 0, none⟩) → w.heap[b]? = some (.cells xs.toArray t (0, 0)) → xs[o]? = some v → Den ρ (Lt obs.length) w S y v) : SatW w0 S0 (setAt i o y obs) ρ S w := by
  have get : ∀ (j : Nat) (c : Ob), (setAt i o y obs)[j]? = some c → ∃ c', obs[j]? = some c' ∧ c.live = c'.live ∧ ((j ≠ i ∧ c = c') ∨ (j = i ∧ c = setCell o y c')) := by
    intro j c hc
    rw [setAt_get] at hc
    split at hc
    · rename_i e
      rw [Option.map_eq_some_iff] at hc
      obtain ⟨c', h1, h2⟩ := hc
      exact ⟨c', h1, by rw [← h2, setCell_live], .inr ⟨e, h2.symm⟩⟩
    · rename_i e; exact ⟨c, hc, rfl, .inl ⟨e, rfl⟩⟩
  have back : ∀ {c c' : Ob} {j b : Nat}, ((j ≠ i ∧ c = c') ∨ (j = i ∧ c = setCell o y c')) → Owns w c (ρ j) b → Owns w c' (ρ j) b := by
    rintro c c' j b (⟨_, rfl⟩ | ⟨_, rfl⟩) h
    · exact h
    · exact owns_setCell h
  refine ⟨fun j c hc => ?_, fun j k oj ok b hj hk lj lk bj bk => ?_, fun j c b hc hl hb => ?_, h.sub, h.lt, h.new, h.le, by rw [setAt_length]; exact h.plain, by rw [setAt_length]; exact h.pins⟩
  · rw [setAt_length]
    obtain ⟨c', h1, _, h2⟩ := get j c hc
    have hob := h.objs j c' h1
    rcases h2 with ⟨_, rfl⟩ | ⟨rfl, rfl⟩
    · exact hob
    · cases c' with
      | box t cs =>
        obtain ⟨b, xs, hx, hb, hd, h3⟩ := hob
        refine ⟨b, xs, hx, hb, ⟨by simpa using hd.1, fun k p z hp hz => ?_⟩, h3⟩
        by_cases hk : o = k
        · subst hk
          have hlt : o < cs.length := by simpa using (List.getElem?_eq_some_iff.1 hp).1
          rw [List.getElem?_set_self hlt] at hp
          cases hp
          exact hy t cs xs b z h1 hx hb hz
        · rw [List.getElem?_set_ne hk] at hp
          exact hd.2 k p z hp hz
      | _ => exact hob
  · obtain ⟨cj, h1, h2, g1⟩ := get j oj hj
    obtain ⟨ck, h3, h4, g2⟩ := get k ok hk
    exact h.dist j k cj ck b h1 h3 (by rw [← h2]; exact lj) (by rw [← h4]; exact lk) (back g1 bj) (back g2 bk)
  · obtain ⟨c', h1, h2, g1⟩ := get j c hc
    exact h.own j c' b h1 (by rw [← h2]; exact hl) (back g1 hb)

theorem SatW.mask {X : Type} (h : SatW w0 S0 obs ρ S w) : ∀ (l : List (CellSpec X)), SatW w0 S0 (mask l obs) ρ S w := by
  intro l
  induction l generalizing obs with
  | nil => exact h
  | cons c r ih =>
    obtain ⟨i, o, q⟩ := c
    exact ih (h.cellAs i o .any (fun _ _ _ _ v _ _ _ _ => .any v))

theorem mask_length {X : Type} : ∀ (l : List (CellSpec X)) (obs : Obs), (mask l obs).length = obs.length
  | [], _ => rfl
  | (i, o, q) :: r, obs => by rw [Pv.mask, mask_length r, setAt_length]

theorem mask_dead {X : Type} : ∀ (l : List (CellSpec X)) (obs : Obs) (j : Nat) (c : Ob), (mask l obs)[j]? = some c → ∃ c', obs[j]? = some c' ∧ c.live = c'.live
  | [], _, j, c, h => ⟨c, h, rfl⟩
  | (i, o, q) :: r, obs, j, c, h => by
    obtain ⟨c1, h1, h2⟩ := mask_dead r _ j c h
    rw [setAt_get] at h1
    split at h1
    · rw [Option.map_eq_some_iff] at h1
      obtain ⟨c', h3, h4⟩ := h1
      exact ⟨c', h3, by rw [h2, ← h4, setCell_live]⟩
    · exact ⟨c1, h1, h2⟩

theorem mask_owns {X : Type} : ∀ (l : List (CellSpec X)) (obs : Obs) (j : Nat) (c : Ob), (mask l obs)[j]? = some c → ∃ c', obs[j]? = some c' ∧ c.live = c'.live ∧ ∀ w x b, Owns w c x b → Owns w c' x b
  | [], _, j, c, h => ⟨c, h, rfl, fun _ _ _ h => h⟩
  | (i, o, q) :: r, obs, j, c, h => by
    obtain ⟨c1, h1, h2, h5⟩ := mask_owns r _ j c h
    rw [setAt_get] at h1
    split at h1
    · rw [Option.map_eq_some_iff] at h1
      obtain ⟨c', h3, h4⟩ := h1
      exact ⟨c', h3, by rw [h2, ← h4, setCell_live], fun w x b hb => by have := h5 w x b hb; rw [← h4] at this; exact owns_setCell this⟩
    · exact ⟨c1, h1, h2, h5⟩

theorem refs_setCell {B : Nat → Prop} {o : Nat} {y : SV} {ob : Ob} (h : RefsOb B ob) (hy : RefsIn B y) : RefsOb B (setCell o y ob) := by
  cases ob with
  | box t cs =>
    intro k p hp
    by_cases hk : o = k
    · subst hk
      have hlt : o < cs.length := by simpa using (List.getElem?_eq_some_iff.1 hp).1
      rw [List.getElem?_set_self hlt] at hp
      cases hp
      exact hy
    · rw [List.getElem?_set_ne hk] at hp
      exact h k p hp
  | nest e sz m cs hole => exact h
  | _ => trivial

theorem mask_refs {X : Type} {B : Nat → Prop} : ∀ (l : List (CellSpec X)) (obs : Obs), (∀ (i : Nat) (o : Ob), obs[i]? = some o → RefsOb B o) → ∀ (i : Nat) (o : Ob), (mask l obs)[i]? = some o → RefsOb B o
  | [], _, h => h
  | (i, o, q) :: r, obs, h => mask_refs r _ (by
    intro j c hc
    rw [setAt_get] at hc
    split at hc
    · rw [Option.map_eq_some_iff] at hc
      obtain ⟨c', h3, rfl⟩ := hc
      exact refs_setCell (h j c' h3) .any
    · exact h j c hc)

theorem overB_live {X : Type} (x : X) (bx : List (Nat × (X → List PV))) (i : Nat) (o : Ob) : (overB x bx i o).live = o.live := by
  induction bx with
  | nil => rfl
  | cons p r ih =>
    obtain ⟨j, l⟩ := p
    simp only [overB]
    cases Nat.beq j i
    · exact ih
    · cases o <;> rfl

theorem overB_refs {X : Type} {B : Nat → Prop} (x : X) (bx : List (Nat × (X → List PV))) (i : Nat) (o : Ob) (h : RefsOb B o) : RefsOb B (overB x bx i o) := by
  induction bx with
  | nil => exact h
  | cons p r ih =>
    obtain ⟨j, l⟩ := p
    simp only [overB]
    cases Nat.beq j i
    · exact ih
    · cases o with
      | box t cs =>
        intro k p hp
        rw [mapP_eq, List.getElem?_map, Option.map_eq_some_iff] at hp
        obtain ⟨q, _, rfl⟩ := hp
        exact .p q
      | nest e sz m cs hole => exact h
      | _ => trivial

theorem overN_live {X : Type} (x : X) (bx : List (Nat × (X → List NC))) (i : Nat) (o : Ob) : (overN x bx i o).live = o.live := by
  induction bx with
  | nil => rfl
  | cons p r ih =>
    obtain ⟨j, l⟩ := p
    simp only [overN]
    cases Nat.beq j i
    · exact ih
    · cases o <;> rfl

theorem overN_refs {X : Type} {B : Nat → Prop} (x : X) (bx : List (Nat × (X → List NC))) (i : Nat) (o : Ob) (h : RefsOb B o) : RefsOb B (overN x bx i o) := by
  induction bx with
  | nil => exact h
  | cons p r ih =>
    obtain ⟨j, l⟩ := p
    simp only [overN]
    cases Nat.beq j i
    · exact ih
    · cases o <;> exact h

theorem setNs_length {X : Type} (x : X) (bx : List (Nat × (X → List NC))) : ∀ (i : Nat) (obs : Obs), (setNs x bx i obs).length = obs.length
  | _, [] => rfl
  | i, o :: r => by simp [setNs, setNs_length x bx (i + 1) r]

theorem setNs_get {X : Type} (x : X) (bx : List (Nat × (X → List NC))) : ∀ (i : Nat) (obs : Obs) (j : Nat), (setNs x bx i obs)[j]? = (obs[j]?).map (overN x bx (i + j))
  | _, [], j => by simp [setNs]
  | i, o :: r, j => by
    cases j with
    | zero => simp [setNs]
    | succ j => simp [setNs, setNs_get x bx (i + 1) r j, Nat.add_assoc, Nat.add_comm 1 j]

theorem setBoxes_length {X : Type} (x : X) (bx : List (Nat × (X → List PV))) : ∀ (i : Nat) (obs : Obs), (setBoxes x bx i obs).length = obs.length
  | _, [] => rfl
  | i, o :: r => by simp [setBoxes, setBoxes_length x bx (i + 1) r]

theorem setBoxes_get {X : Type} (x : X) (bx : List (Nat × (X → List PV))) : ∀ (i : Nat) (obs : Obs) (j : Nat), (setBoxes x bx i obs)[j]? = (obs[j]?).map (overB x bx (i + j))
  | _, [], j => by simp [setBoxes]
  | i, o :: r, j => by
    cases j with
    | zero => simp [setBoxes]
    | succ j => simp [setBoxes, setBoxes_get x bx (i + 1) r j, Nat.add_assoc, Nat.add_comm 1 j]

theorem sameOb_eq {o c : Ob} (h : sameOb o c) (hl : o.live = true) : c = o := by
  cases o with
  | box t cs =>
    cases c <;> simp only [sameOb] at h <;> first | exact h.elim | skip
    rw [cond_false_iff] at h
    rw [Nat.eq_of_beq_eq_true h.1, h.2]
  | arr t cs =>
    cases c <;> simp only [sameOb] at h <;> first | exact h.elim | skip
    rw [cond_false_iff] at h
    rw [Nat.eq_of_beq_eq_true h.1, h.2]
  | row e sz n ex cs =>
    cases c <;> simp only [sameOb] at h <;> first | exact h.elim | skip
    rw [cond_false_iff, Bool.and_eq_true, Bool.and_eq_true, beq_iff_eq] at h
    obtain ⟨⟨⟨h1, h2⟩, h3⟩, h4, h5⟩ := h
    rw [Nat.eq_of_beq_eq_true h1, Nat.eq_of_beq_eq_true h2, h3, h4, h5]
  | nest e sz n cs hole =>
    cases c <;> simp only [sameOb] at h <;> first | exact h.elim | skip
    rw [cond_false_iff, Bool.and_eq_true] at h
    obtain ⟨⟨h1, h2⟩, h3, h4, h5⟩ := h
    rw [Nat.eq_of_beq_eq_true h1, Nat.eq_of_beq_eq_true h2, h3, h4, h5]
  | dead => cases hl

theorem sameObs_get : ∀ {l c : Obs}, sameObs l c → l.length ≤ c.length ∧ ∀ (i : Nat) (o : Ob), l[i]? = some o → o.live = true → c[i]? = some o
  | [], c, _ => ⟨by simp, fun i o h => by simp at h⟩
  | _ :: _, [], h => h.elim
  | o :: r, d :: s, h => by
    obtain ⟨h1, h2⟩ := sameObs_get h.2
    refine ⟨by simp; omega, fun i o' hi hl => ?_⟩
    cases i with
    | zero => simp at hi; subst hi; simp [sameOb_eq h.1 hl]
    | succ i => simpa using h2 i o' (by simpa using hi) hl

theorem putAll_sat {X : Type} (x : X) {n : Nat → Prop} : ∀ (l : List (Nat × (X → PV))) {sl : Slots} {k : Slots → Prop}, putAll N x l sl k → SatA N sl n ρ S w a → (∀ p ∈ l, Rep w S (p.2 x) (a.tmps.getD p.1 undef)) → ∃ sl', k sl' ∧ SatA N sl' n ρ S w a
  | [], sl, k, h, hA, _ => ⟨sl, h, hA⟩
  | (t, y) :: r, sl, k, h, hA, hr => by
    simp only [putAll, cond_false_iff] at h
    refine putAll_sat x r h.2 ⟨hA.size, hA.defs, fun t' => ?_⟩ fun p hp => hr p (by simp [hp])
    rw [get_cons]
    split
    · rename_i e; subst e; exact .p (hr (t, y) (by simp))
    · exact hA.slots t'

theorem hasAll_rep {X : Type} (x : X) {n : Nat → Prop} (hA : SatA N sl n ρ S w a) : ∀ {l : List (Nat × (X → PV))}, hasAll sl x l → ∀ p ∈ l, Rep w S (p.2 x) (a.tmps.getD p.1 undef)
  | [], _, p, hp => by cases hp
  | (t, y) :: r, h, p, hp => by
    rcases List.mem_cons.1 hp with rfl | hp
    · have hs := hA.slots t
      have h := h.1
      generalize hv : a.tmps.getD t undef = v at hs
      generalize sl.get t = sv at hs h
      cases hs with
      | p hr => show Rep w S (y x) _; rw [← h]; exact hr
      | kb b => show Rep w S (y x) _; rw [← h]; exact .v _
      | nil => show Rep w S (y x) _; rw [← h]; exact Rep.nil0 _
      | _ => exact h.elim
    · exact hasAll_rep x hA h.2 p hp

/-- Where the objects come from. -/
def SrcW (w : World) (obsc : Obs) (ρc : Nat → Value) (obsE : Obs) (seen : List Nat) (obs : Obs) (ρ : Nat → Value) : Prop :=
  ∀ (i : Nat) (o : Ob) (b : Nat), obs[i]? = some o → o.live = true → Owns w o (ρ i) b → ∃ (s : Nat) (os : Ob), obsc[s]? = some os ∧ os.live = true ∧ Owns w os (ρc s) b ∧ (s ∈ seen ∨ deadAt obsE s = false)

theorem deadAt_of_live {obs : Obs} {i : Nat} {o : Ob} (h : obs[i]? = some o) (hl : o.live = true) : deadAt obs i = false := by simp [deadAt, h, hl]

/-- A row that a loop carries, under its new number. -/
theorem add_row {obsc obsE : Obs} {ρc : Nat → Value} (hWc : SatW w0 S0 obsc ρc S w) {y : SV} {v : Value} (hd : Den ρc (Lt obsc.length) w S y v) {e : TypeId} {sz m : Nat} {cs : List PV} {seen : List Nat} {k : List Nat → Prop} (h : hasRow y obsc obsE e sz m cs seen k)
    (hW : SatW w0 S0 obs ρ S w) (hsrc : SrcW w obsc ρc obsE seen obs ρ) :
    ∃ seen', k seen' ∧ SatW w0 S0 (obs ++ [.row e sz m false cs]) (updρ ρ obs.length v) S w ∧ SrcW w obsc ρc obsE seen' (obs ++ [.row e sz m false cs]) (updρ ρ obs.length v) := by
  unfold hasRow at h
  cases hd with
  | nil =>
    obtain ⟨⟨rfl, rfl⟩, h⟩ := h
    refine ⟨seen, h, hW.snoc' (ob := .row e sz 0 false []) (x := .slice none 0 0) ⟨[], ⟨by simp, .inl ⟨rfl, rfl⟩⟩, repL_nil, fun _ h => by simp at h⟩ (fun b hb => by cases hb.flat rfl) ⟨rfl, rfl⟩, fun i o b hi hl hb => ?_⟩
    rcases get_snoc hi with ⟨h1, h2⟩ | ⟨rfl, rfl⟩
    · rw [updρ_lt h1] at hb; exact hsrc i o b h2 hl hb
    · rw [updρ_eq] at hb; cases hb.flat rfl
  | ob hj =>
    rename_i j
    simp only [cond_false_iff, Bool.and_eq_true, Bool.not_eq_true'] at h
    obtain ⟨⟨hdead, hseen⟩, h, hk⟩ := h
    have hnot : j ∉ seen := by
      intro hin
      rw [(memN_iff j seen).2 hin] at hseen
      cases hseen
    rw [at_iff] at h
    obtain ⟨ob, hob, h⟩ := h
    cases ob <;> simp only at h <;> first | exact h.elim | skip
    rename_i e' sz' n' ex' cs'
    obtain ⟨⟨h1, h2⟩, rfl, rfl⟩ := h
    have h1 : sz' = sz := Nat.eq_of_beq_eq_true h1
    have h2 : e' = e := Nat.eq_of_beq_eq_true h2
    subst h1 h2
    obtain ⟨xs, hrow, hr, ho⟩ := hWc.objs j _ hob
    have hrow' : RowOk w e' sz' n' xs false (ρc j) := by
      refine ⟨hrow.1, ?_⟩
      rcases hrow.2 with h | ⟨g, cap, cur, r1, r2, r3, r4, r5, r6, _⟩
      · exact .inl h
      · exact .inr ⟨g, cap, cur, r1, r2, r3, r4, r5, r6, by simp⟩
    refine ⟨j :: seen, hk, hW.snoc' ⟨xs, hrow', hr, ho⟩ (fun b hb => ?_) (hWc.plain j hj), fun i o b hi hl hb => ?_⟩
    · have hb := hb.flat rfl
      obtain ⟨o1, o2⟩ := hWc.own j _ b hob rfl (.inl hb)
      refine ⟨o1, o2, fun i oi hi hl hbi => ?_⟩
      obtain ⟨s, os, s1, s2, s3, s4⟩ := hsrc i oi b hi hl hbi
      have := hWc.dist s j os _ b s1 hob s2 rfl s3 (.inl hb)
      subst this
      rcases s4 with s4 | s4
      · exact hnot s4
      · rw [hdead] at s4; cases s4
    · rcases get_snoc hi with ⟨h1, h2⟩ | ⟨rfl, rfl⟩
      · rw [updρ_lt h1] at hb
        obtain ⟨s, os, s1, s2, s3, s4⟩ := hsrc i o b h2 hl hb
        exact ⟨s, os, s1, s2, s3, s4.imp (fun h => by simp [h]) id⟩
      · rw [updρ_eq] at hb
        exact ⟨j, _, hob, rfl, .inl (hb.flat rfl), .inl (by simp)⟩
  | _ => exact h.elim

/-- A row, told as a row of rows. -/
theorem row_nest {ρ : Nat → Value} {n : Nat → Prop} {e : TypeId} {sz m : Nat} {ex : Bool} {cs : List PV} {x : Value} (h : ObOk ρ n w S (.row e sz m ex cs) x) : ObOk ρ n w S (.nest e sz m (cs.map NC.pu) none) x ∧ ∀ b, Owns w (.nest e sz m (cs.map NC.pu) none) x b → blk x = some b := by
  obtain ⟨xs, hrow, hr, ho⟩ := h
  have hrow' : RowOk w e sz m xs false x := by
    refine ⟨hrow.1, ?_⟩
    rcases hrow.2 with h | ⟨g, cap, cur, r1, r2, r3, r4, r5, r6, _⟩
    · exact .inl h
    · exact .inr ⟨g, cap, cur, r1, r2, r3, r4, r5, r6, by simp⟩
  have no : ∀ xs j b, ¬ Inn (cs.map NC.pu) none xs j b := by
    rintro xs j b ⟨c, v, hc, how, _⟩
    rw [List.getElem?_map, Option.map_eq_some_iff] at hc
    obtain ⟨p, _, rfl⟩ := hc
    cases how
  refine ⟨⟨xs, hrow', by simpa using hr.1, ho, fun j c v hc hv _ => ?_, fun p y hp => (by cases hp), fun j j' b hj => (no _ _ _ hj).elim, fun j b hj => (no _ _ _ hj).elim⟩, fun b hb => ?_⟩
  · rw [List.getElem?_map, Option.map_eq_some_iff] at hc
    obtain ⟨p, hp, rfl⟩ := hc
    exact hr.2 j p v hp hv
  · rcases hb with hb | ⟨e', sz', m', cs', h', xs', j, he, _, hin⟩
    · exact hb
    · cases he
      exact (no _ _ _ hin).elim

/-- The same of a row of rows. -/
theorem add_nrow {obsc obsE : Obs} {ρc : Nat → Value} (hWc : SatW w0 S0 obsc ρc S w) {y : SV} {v : Value} (hd : Den ρc (Lt obsc.length) w S y v) {e : TypeId} {sz m : Nat} {cs : List NC} {seen : List Nat} {k : List Nat → Prop} (h : hasNRow y obsc obsE e sz m cs seen k)
    (hW : SatW w0 S0 obs ρ S w) (hsrc : SrcW w obsc ρc obsE seen obs ρ) :
    ∃ seen', k seen' ∧ SatW w0 S0 (obs ++ [.nest e sz m cs none]) (updρ ρ obs.length v) S w ∧ SrcW w obsc ρc obsE seen' (obs ++ [.nest e sz m cs none]) (updρ ρ obs.length v) := by
  unfold hasNRow at h
  cases hd with
  | nil =>
    obtain ⟨⟨rfl, rfl⟩, h⟩ := h
    have hob := row_nest (ρ := ρ) (n := Lt obs.length) (w := w) (S := S) (e := e) (sz := sz) (m := 0) (ex := false) (cs := []) (x := .slice none 0 0) ⟨[], ⟨by simp, .inl ⟨rfl, rfl⟩⟩, repL_nil, fun _ h => by simp at h⟩
    refine ⟨seen, h, hW.snoc' (ob := .nest e sz 0 [] none) (x := .slice none 0 0) hob.1 (fun b hb => by cases hob.2 b hb) ⟨rfl, rfl⟩, fun i o b hi hl hb => ?_⟩
    rcases get_snoc hi with ⟨h1, h2⟩ | ⟨rfl, rfl⟩
    · rw [updρ_lt h1] at hb; exact hsrc i o b h2 hl hb
    · rw [updρ_eq] at hb; cases hob.2 b hb
  | ob hj =>
    rename_i j
    simp only [cond_false_iff, Bool.and_eq_true, Bool.not_eq_true'] at h
    obtain ⟨⟨hdead, hseen⟩, h, hk⟩ := h
    have hnot : j ∉ seen := by
      intro hin
      rw [(memN_iff j seen).2 hin] at hseen
      cases hseen
    rw [at_iff] at h
    obtain ⟨ob, hob, h⟩ := h
    have main : ObOk ρc (Lt obsc.length) w S (.nest e sz m cs none) (ρc j) → (∀ b, Owns w (.nest e sz m cs none) (ρc j) b → Owns w ob (ρc j) b) → ob.live = true →
        ∃ seen', k seen' ∧ SatW w0 S0 (obs ++ [.nest e sz m cs none]) (updρ ρ obs.length (ρc j)) S w ∧ SrcW w obsc ρc obsE seen' (obs ++ [.nest e sz m cs none]) (updρ ρ obs.length (ρc j)) := by
      intro hok hown hlive
      refine ⟨j :: seen, hk, hW.snoc' (hok.free (.inr ⟨_, _, _, _, rfl⟩)) (fun b hb => ?_) (hWc.plain j hj), fun i o b hi hl hb => ?_⟩
      · obtain ⟨o1, o2⟩ := hWc.own j _ b hob hlive (hown b hb)
        refine ⟨o1, o2, fun i oi hi hl hbi => ?_⟩
        obtain ⟨s, os, s1, s2, s3, s4⟩ := hsrc i oi b hi hl hbi
        have := hWc.dist s j os _ b s1 hob s2 hlive s3 (hown b hb)
        subst this
        rcases s4 with s4 | s4
        · exact hnot s4
        · rw [hdead] at s4; cases s4
      · rcases get_snoc hi with ⟨h1, h2⟩ | ⟨rfl, rfl⟩
        · rw [updρ_lt h1] at hb
          obtain ⟨s, os, s1, s2, s3, s4⟩ := hsrc i o b h2 hl hb
          exact ⟨s, os, s1, s2, s3, s4.imp (fun h => by simp [h]) id⟩
        · rw [updρ_eq] at hb
          exact ⟨j, _, hob, hlive, hown b hb, .inl (by simp)⟩
    split at h
    · rename_i e' sz' n' cs'
      obtain ⟨⟨h1, h2⟩, rfl, rfl⟩ := h
      have h1 : sz' = sz := Nat.eq_of_beq_eq_true h1
      have h2 : e' = e := Nat.eq_of_beq_eq_true h2
      subst h1 h2
      exact main (hWc.objs j _ hob) (fun _ h => h) rfl
    · rename_i e' sz' n' ex' cs'
      obtain ⟨⟨h1, h2⟩, rfl, rfl⟩ := h
      have h1 : sz' = sz := Nat.eq_of_beq_eq_true h1
      have h2 : e' = e := Nat.eq_of_beq_eq_true h2
      subst h1 h2
      have hrn := row_nest (hWc.objs j _ hob)
      exact main hrn.1 (fun b hb => .inl (hrn.2 b hb)) rfl
    · exact h.elim
  | _ => exact h.elim

theorem setRows_sat {X : Type} (x : X) {slc : Slots} {obsc obsE : Obs} {ρc : Nat → Value} (hAc : SatA N slc (Lt obsc.length) ρc S w a) (hWc : SatW w0 S0 obsc ρc S w) : ∀ (l : List (RowSpec X)) {sl : Slots} {obs : Obs} {ρ : Nat → Value} {seen : List Nat} {k : Slots → Obs → Prop} {kk : List Nat → Prop},
    setRows N x l sl obs k → hasRows slc obsc obsE x l seen kk → SatA N sl (Lt obs.length) ρ S w a → SatW w0 S0 obs ρ S w → SrcW w obsc ρc obsE seen obs ρ →
    ∃ sl' obs' ρ' seen', k sl' obs' ∧ kk seen' ∧ SatA N sl' (Lt obs'.length) ρ' S w a ∧ SatW w0 S0 obs' ρ' S w ∧ SrcW w obsc ρc obsE seen' obs' ρ' ∧ ∃ t, obs' = obs ++ t ∧ (∀ i, i < obs.length → ρ' i = ρ i) ∧ ∀ (j : Nat) (ty : TypeId) (l : List SV), t[j]? ≠ some (.box ty l)
  | [], sl, obs, ρ, seen, k, kk, h, hh, hA, hW, hs => ⟨sl, obs, ρ, seen, h, hh, hA, hW, hs, [], by simp, fun _ _ => rfl, by simp⟩
  | (t, e, sz, n, cs) :: r, sl, obs, ρ, seen, k, kk, h, hh, hA, hW, hs => by
    simp only [setRows, cond_false_iff, snoc_iff, fN_iff, len_eq] at h
    obtain ⟨seen', hh, hW', hs'⟩ := add_row hWc (hAc.slots t) hh hW hs
    have hA' : SatA N ((t, .ob obs.length) :: sl) (Lt (obs ++ [Ob.row e sz (n x) false (cs x)]).length) (updρ ρ obs.length (a.tmps.getD t undef)) S w a := by
      refine ⟨hA.size, hA.defs, fun t' => ?_⟩
      rw [get_cons]
      split
      · rename_i e'
        subst e'
        have : Den (updρ ρ obs.length (a.tmps.getD t undef)) (Lt (obs ++ [Ob.row e sz (n x) false (cs x)]).length) w S (.ob obs.length) (updρ ρ obs.length (a.tmps.getD t undef) obs.length) := .ob (by simp [Lt])
        rwa [updρ_eq] at this
      · exact (hA.slots t').mono (fun _ _ => rfl) (fun _ h => h) (fun i hi => by simp only [Lt, List.length_append] at *; omega) (fun i hi => updρ_lt hi)
    obtain ⟨sl2, obs2, ρ2, seen2, h1, h2, h3, h4, h5, tl, h6, h7, h8⟩ := setRows_sat x hAc hWc r h.2 hh hA' hW' hs'
    refine ⟨sl2, obs2, ρ2, seen2, h1, h2, h3, h4, h5, [Ob.row e sz (n x) false (cs x)] ++ tl, by rw [h6, List.append_assoc], fun i hi => ?_, fun j ty l hj => ?_⟩
    · rw [h7 i (by simp; omega), updρ_lt hi]
    · cases j with
      | zero => simp at hj
      | succ j => exact h8 j ty l (by simpa using hj)

theorem setNRows_sat {X : Type} (x : X) {slc : Slots} {obsc obsE : Obs} {ρc : Nat → Value} (hAc : SatA N slc (Lt obsc.length) ρc S w a) (hWc : SatW w0 S0 obsc ρc S w) : ∀ (l : List (NRowSpec X)) {sl : Slots} {obs : Obs} {ρ : Nat → Value} {seen : List Nat} {k : Slots → Obs → Prop} {kk : List Nat → Prop},
    setNRows N x l sl obs k → hasNRows slc obsc obsE x l seen kk → SatA N sl (Lt obs.length) ρ S w a → SatW w0 S0 obs ρ S w → SrcW w obsc ρc obsE seen obs ρ →
    ∃ sl' obs' ρ' seen', k sl' obs' ∧ kk seen' ∧ SatA N sl' (Lt obs'.length) ρ' S w a ∧ SatW w0 S0 obs' ρ' S w ∧ SrcW w obsc ρc obsE seen' obs' ρ' ∧ ∃ t, obs' = obs ++ t ∧ (∀ i, i < obs.length → ρ' i = ρ i) ∧ ∀ (j : Nat) (ty : TypeId) (l : List SV), t[j]? ≠ some (.box ty l)
  | [], sl, obs, ρ, seen, k, kk, h, hh, hA, hW, hs => ⟨sl, obs, ρ, seen, h, hh, hA, hW, hs, [], by simp, fun _ _ => rfl, by simp⟩
  | (t, e, sz, n, cs) :: r, sl, obs, ρ, seen, k, kk, h, hh, hA, hW, hs => by
    simp only [setNRows, cond_false_iff, snoc_iff, fN_iff, len_eq] at h
    obtain ⟨seen', hh, hW', hs'⟩ := add_nrow hWc (hAc.slots t) hh hW hs
    have hA' : SatA N ((t, .ob obs.length) :: sl) (Lt (obs ++ [Ob.nest e sz (n x) (cs x) none]).length) (updρ ρ obs.length (a.tmps.getD t undef)) S w a := by
      refine ⟨hA.size, hA.defs, fun t' => ?_⟩
      rw [get_cons]
      split
      · rename_i e'
        subst e'
        have : Den (updρ ρ obs.length (a.tmps.getD t undef)) (Lt (obs ++ [Ob.nest e sz (n x) (cs x) none]).length) w S (.ob obs.length) (updρ ρ obs.length (a.tmps.getD t undef) obs.length) := .ob (by simp [Lt])
        rwa [updρ_eq] at this
      · exact (hA.slots t').mono (fun _ _ => rfl) (fun _ h => h) (fun i hi => by simp only [Lt, List.length_append] at *; omega) (fun i hi => updρ_lt hi)
    obtain ⟨sl2, obs2, ρ2, seen2, h1, h2, h3, h4, h5, tl, h6, h7, h8⟩ := setNRows_sat x hAc hWc r h.2 hh hA' hW' hs'
    refine ⟨sl2, obs2, ρ2, seen2, h1, h2, h3, h4, h5, [Ob.nest e sz (n x) (cs x) none] ++ tl, by rw [h6, List.append_assoc], fun i hi => ?_, fun j ty l hj => ?_⟩
    · rw [h7 i (by simp; omega), updρ_lt hi]
    · cases j with
      | zero => simp at hj
      | succ j => exact h8 j ty l (by simpa using hj)

/-- The value in a variable's cell. -/
theorem cell_den {obsc : Obs} {ρc : Nat → Value} (hWc : SatW w0 S0 obsc ρc S w) {i o : Nat} {t : TypeId} {xs : List Value} {b : Nat} {v : Value} (hb : ρc i = .pointer (some ⟨b, 0, none⟩)) (hh : w.heap[b]? = some (.cells xs.toArray t (0, 0))) (hv : xs[o]? = some v) : Den ρc (Lt obsc.length) w S (cellAt obsc i o) v := by
  unfold cellAt
  split
  · rename_i t' cs hi
    obtain ⟨b', xs', hx, hh', hd, _⟩ := hWc.objs i _ hi
    rw [hb] at hx
    cases hx
    rw [hh] at hh'
    simp only [Option.some.injEq, Obj.cells.injEq] at hh'
    have : xs = xs' := by simpa using congrArg Array.toList hh'.1
    subst this
    cases hc : cs[o]? with
    | none => rw [List.getD_eq_getElem?_getD, hc]; exact .any _
    | some p => rw [List.getD_eq_getElem?_getD, hc]; exact hd.2 o p v hc hv
  · exact .any _

theorem setCells_sat {X : Type} (x : X) {obsc obsE : Obs} {ρc : Nat → Value} (hWc : SatW w0 S0 obsc ρc S w) (hlen : obsE.length ≤ obsc.length) : ∀ (l : List (CellSpec X)) {obs : Obs} {ρ : Nat → Value} {seen : List Nat} {k : Obs → Prop},
    setCells x l obs k → hasCells obsc obsE x l seen → SatA N sl (Lt obs.length) ρ S w a → SatW w0 S0 obs ρ S w → SrcW w obsc ρc obsE seen obs ρ → (∀ (i : Nat) (t : TypeId) (cs : List SV), obs[i]? = some (.box t cs) → i < obsE.length ∧ ρ i = ρc i ∧ (∃ c', obsc[i]? = some c' ∧ c'.live = true)) →
    ∃ obs' ρ', k obs' ∧ SatA N sl (Lt obs'.length) ρ' S w a ∧ SatW w0 S0 obs' ρ' S w
  | [], obs, ρ, seen, k, h, hh, hA, hW, hs, _ => ⟨obs, ρ, (fL_iff _ _).1 h, hA, hW⟩
  | (i, o, e, sz, n, cs) :: r, obs, ρ, seen, k, h, hh, hA, hW, hs, hbx => by
    simp only [setCells, snoc_iff, fN_iff, len_eq] at h
    simp only [hasCells] at hh
    -- the value in the cell, or any value where there is no such cell
    have hval : ∃ v, Den ρc (Lt obsc.length) w S (cellAt obsc i o) v ∧ ∀ (t : TypeId) (cs' : List SV) (xs : List Value) (b : Nat) (u : Value), obs[i]? = some (.box t cs') → ρ i = .pointer (some ⟨b, 0, none⟩) → w.heap[b]? = some (.cells xs.toArray t (0, 0)) → xs[o]? = some u → u = v := by
      cases hi : obs[i]? with
      | none =>
        have hv : ∃ v, Den ρc (Lt obsc.length) w S (cellAt obsc i o) v := by
          cases hc : cellAt obsc i o with
          | nil => exact ⟨_, .nil⟩
          | ob j =>
            have : j < obsc.length := by
              rw [hc] at hh
              simp only [hasRow, cond_false_iff] at hh
              obtain ⟨_, h2, _⟩ := hh
              rw [at_iff] at h2
              obtain ⟨ob, h3, _⟩ := h2
              exact (List.getElem?_eq_some_iff.1 h3).1
            exact ⟨_, .ob this⟩
          | _ => rw [hc] at hh; exact hh.elim
        obtain ⟨v, hv⟩ := hv
        exact ⟨v, hv, fun t cs' xs b u h1 => by cases h1⟩
      | some ob =>
        by_cases hex : ∃ (t : TypeId) (cs' : List SV) (xs : List Value) (b : Nat) (u : Value), ob = .box t cs' ∧ ρ i = .pointer (some ⟨b, 0, none⟩) ∧ w.heap[b]? = some (.cells xs.toArray t (0, 0)) ∧ xs[o]? = some u
        · obtain ⟨t, cs', xs, b, u, rfl, h1, h2, h3⟩ := hex
          obtain ⟨_, h4, _⟩ := hbx i t cs' hi
          refine ⟨u, cell_den hWc (by rw [← h4]; exact h1) h2 h3, fun t2 cs2 xs2 b2 u2 e1 e2 e3 e4 => ?_⟩
          rw [h1] at e2
          cases e2
          rw [h2] at e3
          simp only [Option.some.injEq, Obj.cells.injEq] at e3
          have : xs = xs2 := by simpa using congrArg Array.toList e3.1
          subst this
          rw [h3] at e4
          cases e4
          rfl
        · have hv : ∃ v, Den ρc (Lt obsc.length) w S (cellAt obsc i o) v := by
            cases hc : cellAt obsc i o with
            | nil => exact ⟨_, .nil⟩
            | ob j =>
              have : j < obsc.length := by
                rw [hc] at hh
                simp only [hasRow, cond_false_iff] at hh
                obtain ⟨_, h2, _⟩ := hh
                rw [at_iff] at h2
                obtain ⟨ob, h3, _⟩ := h2
                exact (List.getElem?_eq_some_iff.1 h3).1
              exact ⟨_, .ob this⟩
            | _ => rw [hc] at hh; exact hh.elim
          obtain ⟨v, hv⟩ := hv
          refine ⟨v, hv, fun t cs' xs b u h1 h2 h3 h4 => absurd ⟨t, cs', xs, b, u, ?_, h2, h3, h4⟩ hex⟩
          simpa using h1
    obtain ⟨v, hd, huniq⟩ := hval
    obtain ⟨seen', hh, hW', hs'⟩ := add_row hWc hd hh hW hs
    have hden : Den (updρ ρ obs.length v) (Lt (obs ++ [Ob.row e sz (n x) false (cs x)]).length) w S (.ob obs.length) v := by
      have : Den (updρ ρ obs.length v) (Lt (obs ++ [Ob.row e sz (n x) false (cs x)]).length) w S (.ob obs.length) (updρ ρ obs.length v obs.length) := .ob (by simp [Lt])
      rwa [updρ_eq] at this
    have boxlt : ∀ (j : Nat) (t : TypeId) (cs' : List SV), (obs ++ [Ob.row e sz (n x) false (cs x)])[j]? = some (.box t cs') → j < obs.length ∧ obs[j]? = some (.box t cs') := by
      intro j t cs' hj
      rcases get_snoc hj with h | ⟨_, h⟩
      · exact h
      · cases h
    have hW2 := hW'.cellAs i o (.ob obs.length) (by
      intro t cs' xs b u h1 h2 h3 h4
      obtain ⟨hlt, h1⟩ := boxlt i t cs' h1
      rw [updρ_lt hlt] at h2
      rw [huniq t cs' xs b u h1 h2 h3 h4]
      exact hden)
    have hA2 : SatA N sl (Lt (setAt i o (.ob obs.length) (obs ++ [Ob.row e sz (n x) false (cs x)])).length) (updρ ρ obs.length v) S w a := by
      rw [setAt_length]
      exact hA.mono (fun _ _ => rfl) (fun _ h => h) (fun i hi => by simp only [Lt, List.length_append] at *; omega) (fun i hi => updρ_lt hi)
    have back : ∀ (j : Nat) (c : Ob), (setAt i o (.ob obs.length) (obs ++ [Ob.row e sz (n x) false (cs x)]))[j]? = some c → ∃ c', (obs ++ [Ob.row e sz (n x) false (cs x)])[j]? = some c' ∧ c.live = c'.live ∧ (∀ t l, c = .box t l → ∃ l', c' = .box t l') ∧ ∀ x b, Owns w c x b → Owns w c' x b := by
      intro j c hc
      rw [setAt_get] at hc
      split at hc
      · rw [Option.map_eq_some_iff] at hc
        obtain ⟨c', h3, rfl⟩ := hc
        refine ⟨c', h3, setCell_live _ _ _, fun t l hl => ?_, fun x b hb => owns_setCell hb⟩
        cases c' <;> simp only [setCell] at hl <;> first | (cases hl; done) | skip
        cases hl
        exact ⟨_, rfl⟩
      · exact ⟨c, hc, rfl, fun t l hl => ⟨l, hl⟩, fun _ _ h => h⟩
    refine setCells_sat x hWc hlen r h hh hA2 hW2 ?_ ?_
    · intro j c b hc hl hb
      obtain ⟨c', h1, h2, _, h3⟩ := back j c hc
      exact hs' j c' b h1 (by rw [← h2]; exact hl) (h3 _ b hb)
    · intro j t cs' hj
      obtain ⟨c', h1, _, h2, _⟩ := back j _ hj
      obtain ⟨l', rfl⟩ := h2 t cs' rfl
      obtain ⟨h3, h4⟩ := boxlt j t l' h1
      obtain ⟨h5, h6, h7⟩ := hbx j t l' h4
      exact ⟨h5, by rw [updρ_lt h3]; exact h6, h7⟩

/-- The state at a loop's head, told as the invariant has it. -/
theorem rehead {X : Type} (x : X) (L : LSpec X) {slc sl1 : Slots} {obsc obsE : Obs} {ρc : Nat → Value} (hE : ∀ (i : Nat) (ob : Ob), obsE[i]? = some ob → RefsOb (Lt obsE.length) ob) (hS1 : ∀ t, RefsIn (Lt obsE.length) (sl1.get t)) (hpin : ∀ i v, S0.pin i = some v → i < obsE.length)
    (hAc : SatA N slc (Lt obsc.length) ρc S w a) (hWc : SatW w0 S0 obsc ρc S w) (hsub : ∀ t, sl1.get t = slc.get t ∨ sl1.get t = .any) (hat : isAt L obsE x slc obsc) {k : Slots → Obs → Prop}
    (hk : fL (headObs L x obsE) fun obs1 => putAll N x L.slots sl1 fun sl2 => setRows N x L.rows sl2 obs1 fun sl3 obs2 => setNRows N x L.nrows sl3 obs2 fun sl4 obs3 => setCells x L.cells obs3 fun obs4 => k sl4 obs4) :
    ∃ sl4 obs4 ρ4, k sl4 obs4 ∧ SatA N sl4 (Lt obs4.length) ρ4 S w a ∧ SatW w0 S0 obs4 ρ4 S w := by
  obtain ⟨hall, hrows, hsame, hinv⟩ := hat
  rw [fL_iff] at hk
  obtain ⟨hl, hg⟩ := sameObs_get hsame
  have hlen : (headObs L x obsE).length = obsE.length := by rw [headObs, mask_length, setNs_length, setBoxes_length]
  have hbl : ∀ (i : Nat) (o : Ob), (setNs x L.nboxes 0 (setBoxes x L.boxes 0 obsE))[i]? = some o → RefsOb (Lt obsE.length) o ∧ ∃ o', obsE[i]? = some o' ∧ o.live = o'.live := by
    intro i o ho
    rw [setNs_get, Option.map_eq_some_iff] at ho
    obtain ⟨o1, h1, rfl⟩ := ho
    rw [setBoxes_get, Option.map_eq_some_iff] at h1
    obtain ⟨o2, h2, rfl⟩ := h1
    exact ⟨overN_refs _ _ _ _ (overB_refs _ _ _ _ (hE i o2 h2)), o2, h2, by rw [overN_live, overB_live]⟩
  have hW1 : SatW w0 S0 (headObs L x obsE) ρc S w := (hWc.mask L.cells).shrink hl hg (by rw [hlen]; exact mask_refs _ _ fun i o ho => (hbl i o ho).1) (by rw [hlen]; exact hpin)
  have hA1 : SatA N sl1 (Lt (headObs L x obsE).length) ρc S w a := by
    rw [hlen]
    refine ⟨hAc.size, hAc.defs, fun t => ?_⟩
    rcases hsub t with h | h
    · exact (show Den ρc (Lt obsc.length) w S (sl1.get t) _ by rw [h]; exact hAc.slots t).restrict (hS1 t)
    · rw [h]; exact .any _
  obtain ⟨sl2, hk, hA2⟩ := putAll_sat x L.slots hk hA1 (hasAll_rep x hAc hall)
  have live : ∀ (i : Nat) (o : Ob), (headObs L x obsE)[i]? = some o → o.live = true → deadAt obsE i = false ∧ ∃ c', obsc[i]? = some c' ∧ c'.live = true ∧ ∀ b, Owns w o (ρc i) b → Owns w c' (ρc i) b := by
    intro i o hi hlv
    obtain ⟨c1, h1, h2⟩ := mask_dead _ _ i o hi
    obtain ⟨_, c2, h3, h4⟩ := hbl i c1 h1
    obtain ⟨c3, h5, h6, h7⟩ := mask_owns L.cells obsc i o (hg i o hi hlv)
    exact ⟨deadAt_of_live h3 (by rw [← h4, ← h2]; exact hlv), c3, h5, by rw [← h6]; exact hlv, fun b hb => h7 w (ρc i) b hb⟩
  have hsrc : SrcW w obsc ρc obsE [] (headObs L x obsE) ρc := by
    intro i o b hi hlv hb
    obtain ⟨h1, c, h2, h3, h4⟩ := live i o hi hlv
    exact ⟨i, c, h2, h3, h4 b hb, .inr h1⟩
  obtain ⟨sl3, obs2, ρ2, seen, hk, hnr, hA3, hW3, hs3, tl, rfl, hρ2, hnobox⟩ := setRows_sat x hAc hWc L.rows hk hrows hA2 hW1 hsrc
  obtain ⟨sl4, obs3, ρ3, seen', hk, hcells, hA4, hW4, hs4, tl', rfl, hρ3, hnobox'⟩ := setNRows_sat x hAc hWc L.nrows hk hnr hA3 hW3 hs3
  have hlen2 : obsE.length ≤ obsc.length := by rw [← hlen, ← mask_length L.cells obsc]; exact hl
  obtain ⟨obs4, ρ4, hk, hA5, hW5⟩ := setCells_sat x hWc hlen2 L.cells hk hcells hA4 hW4 hs4 (by
    intro i t cs hi
    rcases get_app hi with ⟨h1, h2⟩ | ⟨j, rfl, h2⟩
    · rcases get_app h2 with ⟨h3, h4⟩ | ⟨j, rfl, h4⟩
      · obtain ⟨_, c, h5, h6, _⟩ := live i _ h4 rfl
        exact ⟨by rw [← hlen]; exact h3, by rw [hρ3 i h1, hρ2 i h3], c, h5, h6⟩
      · exact (hnobox j t cs h4).elim
    · exact (hnobox' j t cs h2).elim)
  exact ⟨sl4, obs4, ρ4, hk, hA5, hW5⟩

end
end Go.Pv

/- A region that draws its order, written in another order. -/
namespace Go.Pv
open Go.Vc

section
variable {P : Program} {Q : Exit → Act → World → Prop}

theorem ren_wp (inv : List Nat) (o : Oper) (a : Act) (w : World) (K : Act → World → Prop) : (renO inv o).wp P a w K Q = o.wp P a w K Q := by
  cases o with | mk dst op type pos after guard => rfl

theorem ren_asks (inv : List Nat) (o : Oper) (a : Act) (w : World) : (renO inv o).asks P a w = o.asks P a w := by
  cases o with | mk dst op type pos after guard => rfl

theorem permOk_spec {π inv : List Nat} {all : List Oper} (h : permOk π inv all = true) :
    π.length = all.length ∧ inv.length = all.length ∧ (∀ i, i < all.length → inv.getD (π.getD i 0) 0 = i ∧ π.getD (inv.getD i 0) 0 = i ∧ π.getD i 0 < all.length ∧ inv.getD i 0 < all.length) ∧
    ∀ o ∈ all, (∀ e ∈ o.after.toList, e.on < all.length) ∧ ∀ j b, o.guard = some (j, b) → j < all.length := by
  simp only [permOk, Bool.and_eq_true, beq_iff_eq, List.all_eq_true, decide_eq_true_eq, List.mem_range] at h
  obtain ⟨⟨⟨h1, h2⟩, h3⟩, h4⟩ := h
  refine ⟨h1, h2, fun i hi => ?_, fun o ho => ⟨(h4 o ho).1, fun j b hg => ?_⟩⟩
  · obtain ⟨a1, a2, a3, a4⟩ := h3 i hi
    exact ⟨a1, a2, a3, a4⟩
  · have := (h4 o ho).2
    rw [hg] at this
    simpa using this

theorem permOps_get {π inv : List Nat} {all : List Oper} (h : permOk π inv all = true) {i : Nat} {o : Oper} (hi : all[i]? = some o) : (permOps π inv all)[inv.getD i 0]? = some (renO inv o) := by
  obtain ⟨h1, h2, h3, _⟩ := permOk_spec h
  have hlt : i < all.length := (List.getElem?_eq_some_iff.1 hi).1
  obtain ⟨_, a2, _, a4⟩ := h3 i hlt
  have hl : inv.getD i 0 < π.length := by omega
  have e : π[inv.getD i 0]? = some i := by
    rw [List.getElem?_eq_getElem hl]
    rw [List.getD_eq_getElem?_getD, List.getElem?_eq_getElem hl] at a2
    exact congrArg some a2
  rw [permOps, List.getElem?_map, e]
  simp [List.getD_eq_getElem?_getD, hi]

theorem permOps_length {π inv : List Nat} {all : List Oper} (h : permOk π inv all = true) : (permOps π inv all).length = all.length := by
  rw [permOps, List.length_map, (permOk_spec h).1]

theorem binds_on (md : Region.Mode) (e : Edge) (n : Nat) : Region.binds md { e with on := n } = Region.binds md e := rfl

/-- The flags of the one order and of the other. -/
def Flags (inv : List Nat) (n : Nat) (l l' : Array Bool) : Prop := l.size = n ∧ l'.size = n ∧ ∀ j, j < n → l[j]? = l'[inv.getD j 0]?

theorem flags_getD {inv : List Nat} {n : Nat} {l l' : Array Bool} (h : Flags inv n l l') {j : Nat} (hj : j < n) (b : Bool) : l.getD j b = l'.getD (inv.getD j 0) b := by
  rw [Array.getD_eq_getD_getElem?, Array.getD_eq_getD_getElem?, h.2.2 j hj]

theorem ready_perm {π inv : List Nat} {all : List Oper} (h : permOk π inv all = true) {md : Region.Mode} {l l' : Array Bool} (hf : Flags inv all.length l l') {i : Nat} (hi : i < all.length) :
    i ∈ Region.ready md all.toArray l ↔ inv.getD i 0 ∈ Region.ready md (permOps π inv all).toArray l' := by
  obtain ⟨h1, h2, h3, h4⟩ := permOk_spec h
  obtain ⟨o, ho⟩ : ∃ o, all[i]? = some o := ⟨all[i], List.getElem?_eq_getElem hi⟩
  have ho' := permOps_get h ho
  have hm : o ∈ all := List.mem_of_getElem? ho
  simp only [Region.ready, List.mem_filter, List.mem_range, List.size_toArray, permOps_length h, hi, (h3 i hi).2.2.2, true_and, List.getElem?_toArray, ho, ho', Option.map_some, Option.getD_some, flags_getD hf hi true]
  have : (o.after.all fun e => !Region.binds md e || l.getD e.on false) = ((renO inv o).after.all fun e => !Region.binds md e || l'.getD e.on false) := by
    simp only [renO]
    rw [← Array.all_toList, ← Array.all_toList, List.toList_toArray, List.all_map]
    rw [Bool.eq_iff_iff, List.all_eq_true, List.all_eq_true]
    constructor
    · intro hh e he
      have := hh e he
      rw [flags_getD hf ((h4 o hm).1 e he) false] at this
      exact this
    · intro hh e he
      have := hh e he
      rw [flags_getD hf ((h4 o hm).1 e he) false]
      exact this
  rw [this]

theorem yielded_perm {π inv : List Nat} {all : List Oper} (h : permOk π inv all = true) (tmps : Array Value) {j : Nat} (hj : j < all.length) : yielded (permOps π inv all).toArray tmps (inv.getD j 0) = yielded all.toArray tmps j := by
  obtain ⟨o, ho⟩ : ∃ o, all[j]? = some o := ⟨all[j], List.getElem?_eq_getElem hj⟩
  have ho' := permOps_get h ho
  unfold yielded
  simp only [List.getElem?_toArray, ho, ho', Option.bind_some]
  rfl

theorem wanted_perm {π inv : List Nat} {all : List Oper} (h : permOk π inv all = true) (tmps : Array Value) {o : Oper} (ho : o ∈ all) : Region.wanted (renO inv o) (yielded (permOps π inv all).toArray tmps) = Region.wanted o (yielded all.toArray tmps) := by
  obtain ⟨_, _, _, h4⟩ := permOk_spec h
  unfold Region.wanted renO
  cases hg : o.guard with
  | none => rfl
  | some q =>
    obtain ⟨j, b⟩ := q
    simp only [Option.map_some]
    rw [yielded_perm h tmps ((h4 o ho).2 j b hg)]

theorem wpOp_perm {π inv : List Nat} {all : List Oper} (h : permOk π inv all = true) {i : Nat} (hi : i < all.length) {K K' : Act → World → Prop} (hK : ∀ a w, K' a w → K a w) {a : Act} {w : World} (hw : wpOp P (permOps π inv all).toArray Q (inv.getD i 0) K' a w) : wpOp P all.toArray Q i K a w := by
  obtain ⟨o, ho⟩ : ∃ o, all[i]? = some o := ⟨all[i], List.getElem?_eq_getElem hi⟩
  have ho' := permOps_get h ho
  have hm : o ∈ all := List.mem_of_getElem? ho
  unfold wpOp at hw ⊢
  simp only [List.getElem?_toArray, ho, ho', wanted_perm h _ hm, ren_wp, ren_asks] at hw ⊢
  split
  · rename_i hh
    rw [if_pos hh] at hw
    exact hw.imp (Oper.wp_mono hK) id
  · rename_i hh
    rw [if_neg hh] at hw
    exact hK _ _ hw

theorem flags_set {π inv : List Nat} {all : List Oper} (h : permOk π inv all = true) {l l' : Array Bool} (hf : Flags inv all.length l l') {i : Nat} (hi : i < all.length) : Flags inv all.length (l.setIfInBounds i true) (l'.setIfInBounds (inv.getD i 0) true) := by
  obtain ⟨_, _, h3, _⟩ := permOk_spec h
  refine ⟨by simpa using hf.1, by simpa using hf.2.1, fun j hj => ?_⟩
  rw [Array.getElem?_setIfInBounds, Array.getElem?_setIfInBounds]
  have hii := (h3 i hi).2.2.2
  by_cases e : i = j
  · subst e
    rw [if_pos rfl, if_pos rfl, if_pos (by rw [hf.1]; exact hi), if_pos (by rw [hf.2.1]; exact hii)]
  · have hne : inv.getD i 0 ≠ inv.getD j 0 := fun he => e (by
      have a := (h3 i hi).2.1
      have b := (h3 j hj).2.1
      rw [he, b] at a
      exact a.symm)
    rw [if_neg e, if_neg hne]
    exact hf.2.2 j hj

theorem wpAny_perm {π inv : List Nat} {all : List Oper} (h : permOk π inv all = true) {md : Region.Mode} : ∀ (fuel : Nat) (l l' : Array Bool) (a : Act) (w : World), Flags inv all.length l l' → wpAny P md (permOps π inv all).toArray Q fuel l' a w → wpAny P md all.toArray Q fuel l a w := by
  have lt : ∀ {l : Array Bool} {i : Nat}, i ∈ Region.ready md all.toArray l → i < all.length := by
    intro l i hi
    simp only [Region.ready, List.mem_filter, List.mem_range, List.size_toArray] at hi
    exact hi.1
  have back : ∀ {l l' : Array Bool}, Flags inv all.length l l' → Region.ready md all.toArray l = [] → Region.ready md (permOps π inv all).toArray l' = [] := by
    intro l l' hf hr
    obtain ⟨_, _, h3, _⟩ := permOk_spec h
    apply List.eq_nil_iff_forall_not_mem.2
    intro k hk
    have hkl : k < all.length := by
      simp only [Region.ready, List.mem_filter, List.mem_range, List.size_toArray, permOps_length h] at hk
      exact hk.1
    obtain ⟨a1, _, a3, _⟩ := h3 k hkl
    have := (ready_perm h hf (md := md) a3).2 (by rw [a1]; exact hk)
    rw [hr] at this
    cases this
  have forth : ∀ {l l' : Array Bool}, Flags inv all.length l l' → Region.ready md (permOps π inv all).toArray l' = [] → Region.ready md all.toArray l = [] := by
    intro l l' hf hr
    apply List.eq_nil_iff_forall_not_mem.2
    intro k hk
    have := (ready_perm h hf (md := md) (lt hk)).1 hk
    rw [hr] at this
    cases this
  intro fuel
  induction fuel with
  | zero =>
    intro l l' a w hf hw
    exact ⟨forth hf hw.1, hw.2⟩
  | succ fuel ih =>
    intro l l' a w hf hw
    refine ⟨fun hr => hw.1 (back hf hr), fun i hi => ?_⟩
    have hil := lt hi
    exact wpOp_perm h hil (fun a w hk => ih _ _ a w (flags_set h hf hil) hk) (hw.2 _ ((ready_perm h hf hil).1 hi))

theorem flags_start {π inv : List Nat} {all : List Oper} (h : permOk π inv all = true) : Flags inv all.length (Array.replicate all.toArray.size false) (Array.replicate (permOps π inv all).toArray.size false) := by
  obtain ⟨_, _, h3, _⟩ := permOk_spec h
  refine ⟨by simp, by simp [permOps_length h], fun j hj => ?_⟩
  have := (h3 j hj).2.2.2
  rw [Array.getElem?_replicate, Array.getElem?_replicate, if_pos (by simpa using hj), if_pos (by simpa [permOps_length h] using this)]

/-- A region, by what holds of it as it is written in the order of the VC generator. -/
theorem wp_drawn (hm : P.follows .mixedOrders = true) {id : Nat} {all : List Oper} (hp : (perms all = true → permOk (permOf all) (invOf (permOf all) all.length) all = true)) {a : Act} {w : World}
    (h : wpAny P .any (drawn all).toArray Q (drawn all).toArray.size (Array.replicate (drawn all).toArray.size false) a { w with drawn := w.drawn + 1 }) : (Code.region id all.toArray true).wp P Q a w := by
  refine wp_region_any hm ?_
  unfold Pv.drawn at h
  cases hb : perms all with
  | false => simpa only [hb, cond_false] using h
  | true =>
    simp only [hb, cond_true] at h
    have hok := hp hb
    have hsz : (permOps (permOf all) (invOf (permOf all) all.length) all).toArray.size = all.toArray.size := by simp [permOps_length hok]
    have := wpAny_perm hok _ _ _ a _ (flags_start hok) h
    rwa [hsz] at this
end
end Go.Pv

/- Regions that draw their order: every order, one by one. -/
namespace Go.Pv
open Go.Vc

section
variable {P : Program}

theorem bind_not {α β : Type} {s : Sem α} {f : α → Sem β} {w w' : World} {v : β} (h : (s >>= f).run P w = .ok v w') (hf : ∀ a w w', (f a).run P w ≠ .ok v w') : False := by
  rw [Sem.run_bind] at h
  generalize s.run P w = r at h
  cases r with
  | ok a w1 => exact hf a w1 w' h
  | halt e w1 => cases h

theorem bounds_not {α : Type} {x y : Int} {b : Bool} {c : BoundsCode} {w w' : World} {v : α} (h : (runtimePanic (.bounds x y b c) : Sem α).run P w = .ok v w') : False := by
  unfold runtimePanic at h
  simp [goPanic] at h

theorem boundsPanic_not {α : Type} {k : IntKind} {x y : Int} {c : BoundsCode} {w w' : World} {v : α} (h : (boundsPanic k x y c : Sem α).run P w = .ok v w') : False := by
  unfold boundsPanic at h
  split at h
  · exact bind_not h fun a w w' h => bounds_not h
  · exact bind_not h fun a w w' h => bounds_not h

theorem bound_same {x : Value} {y : Nat} {c : BoundsCode} {w w' : World} {m : Nat} (h : (Instr.sliceBound x y c).run P w = .ok m w') : w' = w ∧ ∀ w2, (Instr.sliceBound x y c).run P w2 = .ok m w2 := by
  unfold Instr.sliceBound at h ⊢
  rw [Sem.run_bind] at h
  cases x with
  | int k i =>
    simp only [asIntOf, Sem.run_pure, Result.andThen_ok] at h
    split at h
    · rename_i q
      simp at h
      refine ⟨h.2.symm, fun w2 => ?_⟩
      rw [Sem.run_bind]
      simp only [asIntOf, Sem.run_pure, Result.andThen_ok]
      rw [if_pos q]
      simp [h.1]
    · exact (boundsPanic_not h).elim
  | pointer p => cases p <;> simp [asIntOf, stuck, unsupported, Result.andThen] at h
  | _ => simp [asIntOf, stuck, Result.andThen] at h

/-- What a slice comes to depends on no world. -/
theorem bounds_same {b : Bool} {n c : Nat} {lo hi mx : Option Value} {w w' : World} {r : Nat × Nat × Nat} (h : (Instr.sliceBounds b n c lo hi mx).run P w = .ok r w') : w' = w ∧ ∀ w2, (Instr.sliceBounds b n c lo hi mx).run P w2 = .ok r w2 := by
  unfold Instr.sliceBounds at h ⊢
  have step : ∀ {α : Type} {s : Sem Nat} {f : Nat → Sem α} {v : α} {w w' : World}, (∀ m w w', s.run P w = .ok m w' → w' = w ∧ ∀ w2, s.run P w2 = .ok m w2) → (∀ m v w w', (f m).run P w = .ok v w' → w' = w ∧ ∀ w2, (f m).run P w2 = .ok v w2) → (s >>= f).run P w = .ok v w' → w' = w ∧ ∀ w2, (s >>= f).run P w2 = .ok v w2 := by
    intro α s f v w w' h1 h2 h
    rw [Sem.run_bind] at h
    cases hs : s.run P w with
    | halt e w1 => rw [hs] at h; cases h
    | ok m w1 =>
      rw [hs] at h
      obtain ⟨rfl, h3⟩ := h1 m w w1 hs
      obtain ⟨rfl, h4⟩ := h2 m v w1 w' h
      refine ⟨rfl, fun w2 => ?_⟩
      rw [Sem.run_bind, h3 w2]
      exact h4 w2
  have pu : ∀ {α : Type} {x : α} (v : α) (w w' : World), (pure x : Sem α).run P w = .ok v w' → w' = w ∧ ∀ w2, (pure x : Sem α).run P w2 = .ok v w2 := by
    intro α x v w w' h
    simp at h
    exact ⟨h.2.symm, fun w2 => by simp [h.1]⟩
  cases mx <;> cases hi <;> cases lo
  all_goals
    refine step (fun m w w' h => by first | exact pu m w w' h | exact bound_same h | (simp [stuck] at h)) (fun m r w w' h => ?_) h
    refine step (fun m w w' h => by first | exact pu m w w' h | exact bound_same h | (simp [stuck] at h)) (fun m r w w' h => ?_) h
    exact step (fun m w w' h => by first | exact pu m w w' h | exact bound_same h | (simp [stuck] at h)) (fun m r w w' h => pu r w w' h) h

theorem slice_same {t e : TypeId} {te : Ty} (hu : P.underlying t = some (.slice e)) (hte : TyOk P e te) {x : Value} {lo hi mx : Option Value} {w w' : World} {v : Value} (h : (Instr.sliceAt t x lo hi mx).run P w = .ok v w') : ∀ w2, (Instr.sliceAt t x lo hi mx).run P w2 = .ok v w2 := by
  intro w2
  simp only [Instr.sliceAt, Sem.run_bind, run_underlying hu, Result.andThen_ok] at h ⊢
  simp only [Instr.slice, Sem.run_bind, run_underlying hu, Result.andThen_ok] at h ⊢
  cases x with
  | slice ad n c =>
    simp only [Sem.run_bind] at h ⊢
    cases hb : (Instr.sliceBounds true n c lo hi mx).run P w with
    | halt e w1 => rw [hb] at h; cases h
    | ok r w1 =>
      rw [hb] at h
      obtain ⟨rfl, h2⟩ := bounds_same hb
      rw [h2 w2]
      obtain ⟨l, hh, m⟩ := r
      have hs := Vc.run_sizeOf hte
      simp [Result.andThen, hs] at h ⊢
      exact h.1
  | _ => simp [stuck] at h

/-- What an operation that looks at no memory yields. -/
theorem flX_yields {T : Tab} (hT : TabOk P T) {all : List Oper} {m : Nat} {o : Oper} (ho : all[m]? = some o) (hf : flX o = true) {q : Prop} (hsl : slX T o q) {Q : Exit → Act → World → Prop} (hQp : ∀ c a w, ¬ Q (.panic c) a w) (hQl : ¬ LetsOut Q) {K : Act → World → Prop} {a : Act} {w : World} (h : q → wpOp P all.toArray Q m K a w) :
    ∃ v, Yields P all.toArray o v a ∧ K (a.put o.dst v) w := by
  have hfl : q → isFl true o = true → ∃ v, Yields P all.toArray o v a ∧ K (a.put o.dst v) w := fun hq hi => float_yields ho hi hQp hQl (h hq)
  unfold flX at hf
  split at hf
  · rename_i x i hop
    have hq : q := by unfold slX at hsl; simpa only [hop] using hsl
    refine hfl hq ?_
    unfold isFl
    simp only [hop]
    split at hf
    · rename_i d hg hd
      simp only [hg, hd]
    · cases hf
  · rename_i x hop
    have hq : q := by unfold slX at hsl; simpa only [hop] using hsl
    refine hfl hq ?_
    unfold isFl
    simp only [hop]
    split at hf
    · rename_i d hg hd
      simp only [hg, hd]
    · cases hf
  · rename_i t x lo hi mx hop
    split at hf
    · rename_i d hg hd
      unfold slX at hsl
      simp only [hop] at hsl
      rw [find_iff] at hsl
      obtain ⟨ty, hty, hsl⟩ := hsl
      split at hsl
      · rename_i e hk
        rw [find_iff] at hsl
        obtain ⟨te, hte, hq⟩ := hsl
        have hu := kd_slice (hT t ty hty) hk
        have hteo := hT e te hte
        have h := h hq
        have hw : Region.wanted o (yielded all.toArray a.tmps) = true := by simp [Region.wanted, hg]
        unfold wpOp at h
        have ho' : all.toArray[m]? = some o := by simpa using ho
        simp only [ho', hw, if_true] at h
        rcases h with h | h
        · unfold Oper.wp at h
          obtain ⟨dst, op, type, pos, after, guard⟩ := o
          simp only at hop
          subst hop
          have key : ∀ w2, (execOp a.eval { dst := dst, op := Op.slice t x lo hi mx, type := type, pos := pos, after := after, guard := guard }).run P w2 = ((Instr.sliceAt t (a.eval x) (lo.map a.eval) (hi.map a.eval) (mx.map a.eval)).run P w2).andThen fun v w => .ok (.value v) w := fun w2 => by
            simp [execOp, Sem.run_bind]
          rw [key] at h
          cases hr : (Instr.sliceAt t (a.eval x) (lo.map a.eval) (hi.map a.eval) (mx.map a.eval)).run P w with
          | ok v w1 =>
            have hs := slice_same hu hteo hr
            have hw1 : w1 = w := by
              have := hs w
              rw [hr] at this
              cases this; rfl
            subst hw1
            rw [hr] at h
            exact ⟨v, .inl ⟨hw, fun w2 => by rw [key, hs w2]; rfl⟩, h⟩
          | halt e w1 =>
            rw [hr] at h
            cases e <;> first | exact (hQp _ _ _ h).elim | exact h.elim
        · exact absurd h.2 hQl
      · exact hsl.elim
    · cases hf
  · cases hf

end

theorem ready_eq (all : List Oper) (l : List Bool) : Region.ready .any all.toArray l.toArray = readyN all l := by
  unfold Region.ready readyN
  simp only [List.size_toArray]
  apply List.filter_congr
  intro i _
  congr 1
  · simp [Array.getD_eq_getD_getElem?, List.getD_eq_getElem?_getD]
  · simp only [List.getElem?_toArray]
    cases all[i]? with
    | none => rfl
    | some o =>
      simp only [Option.map_some, Option.getD_some]
      rw [← Array.all_toList]
      simp [Array.getD_eq_getD_getElem?, List.getD_eq_getElem?_getD]

theorem free_eq {all : List Oper} {l : List Bool} {i : Nat} (h : freeN all l i = true) : Region.free .any all.toArray l.toArray i = true ∧ ∃ o, all[i]? = some o ∧ flX o = true := by
  unfold freeN at h
  split at h
  · cases h
  · rename_i oi hoi
    rw [Bool.and_eq_true] at h
    refine ⟨?_, oi, hoi, h.1⟩
    unfold Region.free
    simp only [List.getElem?_toArray, hoi, List.size_toArray]
    have h2 := h.2
    rw [List.all_eq_true] at h2 ⊢
    intro j hj
    have := h2 j hj
    simp only [Bool.or_eq_true] at this ⊢
    rcases this with (h3 | h3) | h3
    · exact .inl (.inl h3)
    · refine .inl (.inr ?_)
      simpa [Array.getD_eq_getD_getElem?, List.getD_eq_getElem?_getD] using h3
    · refine .inr ?_
      cases ho : all[j]? with
      | none => rfl
      | some oj =>
        simp only [ho, Bool.or_eq_true] at h3 ⊢
        rw [← Array.any_toList]
        exact h3

section
variable {w0 : World} {S0 : Fr} {P : Program} {F : Nat} {T : Tab} {N : Nat} {all : List Oper}

theorem stepO_sound (hT : TabOk P T) (hF : ∀ f, 2 < f → f < F → FnOk P f) {o : Oper} {j : Nat} (ho : all[j]? = some o) {k : K} {Q : Exit → Act → World → Prop} {sl : Slots} {obs : Obs} {ρ : Nat → Value} {S : Nat → Prop} {a : Act} {w : World}
    (h : stepO P F T N all o k sl obs) (hA : SatA N sl (Lt obs.length) ρ S w a) (hW : SatW w0 S0 obs ρ S w) : wpOp P all.toArray Q j (Kpost w0 S0 N k) a w := by
  simp only [stepO] at h
  obtain ⟨sl1, hA1, h⟩ := guard_spec hA (all := all) (o := o) h
  unfold wpOp
  simp only [List.getElem?_toArray, ho]
  rcases h with ⟨hw, h⟩ | ⟨hw, h⟩
  · rw [if_pos hw]
    refine .inl ?_
    refine stepP_sound hT hF hA1 hW o _ Q h ?_
    intro sv sl3 obs' ρ' S' v w' hk hA3 hW' hd
    obtain ⟨sl', hk, hA'⟩ := hA3.put hd hk
    exact ⟨sl', obs', ρ', S', hk, hA', hW'⟩
  · rw [if_neg (by simp [hw])]
    obtain ⟨sl', hk, hA'⟩ := hA1.put (.p (.v undef)) h
    exact ⟨sl', obs, ρ, S, hk, hA', hW⟩

/-- Every order that the plan tells. -/
theorem vcX_sound (hT : TabOk P T) (hF : ∀ f, 2 < f → f < F → FnOk P f) (hs : Region.noSelect all.toArray = true) {Q : Exit → Act → World → Prop} (hQp : ∀ c a w, ¬ Q (.panic c) a w) (hQl : ¬ LetsOut Q) {k : K} (hQ : ∀ a w, Kpost w0 S0 N k a w → Q .normal a w) :
    ∀ (p : XP) (l : List Bool) {sl : Slots} {obs : Obs} {ρ : Nat → Value} {S : Nat → Prop} {a : Act} {w : World}, vcX P F T N all k p sl obs → SatA N sl (Lt obs.length) ρ S w a → SatW w0 S0 obs ρ S w →
      (p.ok all false l = true → ∀ n, p.depth ≤ n → wpAny P .any all.toArray Q n l.toArray a w) ∧
      (p.ok all true l = true → ∀ j ∈ p.alts, ∀ n, p.depth ≤ n + 1 → wpOp P all.toArray Q j (wpAny P .any all.toArray Q n (l.toArray.setIfInBounds j true)) a w)
  | .done, l, sl, obs, ρ, S, a, w, h, hA, hW => by
    refine ⟨fun ho n _ => ?_, fun ho => ?_⟩
    · simp only [XP.ok, Bool.not_false, Bool.true_and, beq_iff_eq] at ho
      exact wpAny_done (by rw [ready_eq, ho]) (hQ a w ⟨sl, obs, ρ, S, h, hA, hW⟩) n
    · simp [XP.ok] at ho
  | .nil, l, sl, obs, ρ, S, a, w, h, hA, hW => ⟨fun ho => by simp [XP.ok] at ho, fun _ j hj => by simp [XP.alts] at hj⟩
  | .take j p, l, sl, obs, ρ, S, a, w, h, hA, hW => by
    refine ⟨fun ho n hn => ?_, fun ho => by simp [XP.ok] at ho⟩
    simp only [XP.ok, Bool.not_false, Bool.true_and, Bool.and_eq_true] at ho
    obtain ⟨⟨hj, hfree⟩, hp⟩ := ho
    replace h : atX all j fun o => slX T o (stepO P F T N all o (vcX P F T N all k p) sl obs) := h
    obtain ⟨hfr, o, ho, hfl⟩ := free_eq hfree
    simp only [atX, ho] at h
    obtain ⟨v, hy, sl', obs', ρ', S', hk, hA', hW'⟩ := flX_yields (P := P) hT ho hfl h hQp hQl (K := Kpost w0 S0 N (vcX P F T N all k p)) (a := a) (w := w) (fun h => stepO_sound hT hF ho h hA hW)
    simp only [XP.depth] at hn
    obtain ⟨n, rfl⟩ : ∃ m, n = m + 1 := ⟨n - 1, by omega⟩
    refine wpAny_take (by simpa using ho) hs hfr (by rw [ready_eq]; exact hj) (fun c a w h => absurd h (hQp c _ w)) hy ?_
    have := (vcX_sound hT hF hs hQp hQl hQ p (l.set j true) hk hA' hW').1 hp n (by omega)
    simpa using this
  | .alt j p q, l, sl, obs, ρ, S, a, w, h, hA, hW => by
    replace h : (match isNil q with
      | true => atX all j fun o => stepO P F T N all o (vcX P F T N all k p) sl obs
      | false => (atX all j fun o => stepO P F T N all o (vcX P F T N all k p) sl obs) ∧ vcX P F T N all k q sl obs) := h
    have h1 : atX all j fun o => stepO P F T N all o (vcX P F T N all k p) sl obs := by
      cases hq : isNil q <;> rw [hq] at h
      · exact h.1
      · exact h
    have key : (p.ok all false (l.set j true) && q.ok all true l) = true → ∀ i ∈ (XP.alt j p q).alts, ∀ n, (XP.alt j p q).depth ≤ n + 1 → wpOp P all.toArray Q i (wpAny P .any all.toArray Q n (l.toArray.setIfInBounds i true)) a w := by
      intro ho i hi n hn
      rw [Bool.and_eq_true] at ho
      simp only [XP.depth] at hn
      have hn1 : p.depth + 1 ≤ n + 1 := Nat.le_trans (Nat.le_max_left _ _) hn
      have hn2 : q.depth ≤ n + 1 := Nat.le_trans (Nat.le_max_right _ _) hn
      rcases List.mem_cons.1 (show i ∈ j :: q.alts from hi) with rfl | hi
      · unfold atX at h1
        split at h1
        · rename_i o hoi
          refine wpOp_mono ?_ (stepO_sound hT hF hoi h1 hA hW)
          rintro a' w' ⟨sl', obs', ρ', S', hk, hA', hW'⟩
          have := (vcX_sound hT hF hs hQp hQl hQ p (l.set i true) hk hA' hW').1 ho.1 n (by omega)
          simpa using this
        · exact h1.elim
      · have hq : vcX P F T N all k q sl obs := by
          cases hq : isNil q <;> rw [hq] at h
          · exact h.2
          · cases q <;> first | (cases hq; done) | (simp [XP.alts] at hi)
        exact (vcX_sound hT hF hs hQp hQl hQ q l hq hA hW).2 ho.2 i hi n hn2
    refine ⟨fun ho n hn => ?_, fun ho => ?_⟩
    · simp only [XP.ok, Bool.false_or, Bool.and_eq_true, beq_iff_eq] at ho
      have hd : 1 ≤ (XP.alt j p q).depth := Nat.le_trans (Nat.le_add_left 1 p.depth) (Nat.le_max_left _ _)
      obtain ⟨n, rfl⟩ : ∃ m, n = m + 1 := ⟨n - 1, by omega⟩
      refine wpAny_all (rs := (XP.alt j p q).alts) (by rw [ready_eq, ho.1]) (by simp [XP.alts]) fun i hi => ?_
      exact key (by simp [ho.2]) i hi n hn
    · simp only [XP.ok, Bool.true_or, Bool.true_and] at ho
      exact key ho
end
end Go.Pv

/- Loops, code and functions do what their VCs say. -/
namespace Go.Pv
open Go.Vc
open Go.RowKit (Below)

/-- The exits of a piece of code. -/
def QK (w0 : World) (S0 : Fr) (N : Nat) (kn kr : K) (kx : Nat → K) : Exit → Act → World → Prop
  | .normal, a, w => Kpost w0 S0 N kn a w
  | .ret, a, w => Kpost w0 S0 N kr a w
  | .exit i, a, w => Kpost w0 S0 N (kx i) a w
  | _, _, _ => False

theorem killS_length (y : SV) (obs : Obs) : (killS y obs).length = obs.length := by cases y <;> simp [killS]

theorem killS_refs {B : Nat → Prop} (y : SV) (obs : Obs) (h : ∀ (i : Nat) (o : Ob), obs[i]? = some o → RefsOb B o) : ∀ (i : Nat) (o : Ob), (killS y obs)[i]? = some o → RefsOb B o := by
  intro i o ho
  cases y with
  | ob j =>
    rcases get_set ho with ⟨_, h1⟩ | ⟨_, _, rfl⟩
    · exact h i o h1
    · trivial
  | _ => exact h i o ho

theorem killRows_spec {X : Type} {B : Nat → Prop} (sl : Slots) : ∀ (l : List (RowSpec X)) (obs : Obs), (∀ (i : Nat) (o : Ob), obs[i]? = some o → RefsOb B o) → (killRows sl l obs).length = obs.length ∧ ∀ (i : Nat) (o : Ob), (killRows sl l obs)[i]? = some o → RefsOb B o
  | [], obs, h => ⟨rfl, h⟩
  | (t, q) :: r, obs, h => by
    obtain ⟨h1, h2⟩ := killRows_spec sl r (killS (sl.get t) obs) (killS_refs _ _ h)
    exact ⟨by rw [killRows, h1, killS_length], h2⟩

theorem killNRows_spec {X : Type} {B : Nat → Prop} (sl : Slots) : ∀ (l : List (NRowSpec X)) (obs : Obs), (∀ (i : Nat) (o : Ob), obs[i]? = some o → RefsOb B o) → (killNRows sl l obs).length = obs.length ∧ ∀ (i : Nat) (o : Ob), (killNRows sl l obs)[i]? = some o → RefsOb B o
  | [], obs, h => ⟨rfl, h⟩
  | (t, q) :: r, obs, h => by
    obtain ⟨h1, h2⟩ := killNRows_spec sl r (killS (sl.get t) obs) (killS_refs _ _ h)
    exact ⟨by rw [killNRows, h1, killS_length], h2⟩

theorem inIf_spec {w0 : World} {S0 : Fr} {N : Nat} {sl : Slots} {obs : Obs} {ρ : Nat → Value} {S : Nat → Prop} {a : Act} {w : World} {b : Bool} {k : K} (h : inIf b k sl obs) (hA : SatA N sl (Lt obs.length) ρ S w a) (hW : SatW w0 S0 obs ρ S w) : ∃ obs', k sl obs' ∧ SatA N sl (Lt obs'.length) ρ S w a ∧ SatW w0 S0 obs' ρ S w := by
  cases b with
  | true =>
    obtain ⟨obs', h1, h2, h3, _⟩ := vcIn_spec h hA hW
    exact ⟨obs', h1, h2, h3⟩
  | false => exact ⟨obs, h, hA, hW⟩

theorem killCells_spec {X : Type} {B : Nat → Prop} (obs0 : Obs) : ∀ (l : List (CellSpec X)) (obs : Obs), (∀ (i : Nat) (o : Ob), obs[i]? = some o → RefsOb B o) → (killCells obs0 l obs).length = obs.length ∧ ∀ (i : Nat) (o : Ob), (killCells obs0 l obs)[i]? = some o → RefsOb B o
  | [], obs, h => ⟨rfl, h⟩
  | (i, o, q) :: r, obs, h => by
    obtain ⟨h1, h2⟩ := killCells_spec obs0 r (killS (cellAt obs0 i o) obs) (killS_refs _ _ h)
    exact ⟨by rw [killCells, h1, killS_length], h2⟩

theorem loop_sound {w0 : World} {S0 : Fr} {P : Program} {N : Nat} {W : List Nat} {body : K → K} {c : Code} {kr : K} {kx : Nat → K} {kn : K}
    (hbody : ∀ k sl obs ρ S a w, body k sl obs → SatA N sl (Lt obs.length) ρ S w a → SatW w0 S0 obs ρ S w → c.wp P (QK w0 S0 N k kr kx) a w)
    {sl : Slots} {obs : Obs} {ρ : Nat → Value} {S : Nat → Prop} {a : Act} {w : World} (h : vcLoop N W body sl obs) (hA : SatA N sl (Lt obs.length) ρ S w a) (hW : SatW w0 S0 obs ρ S w) : (Code.loop c).wp P (QK w0 S0 N kn kr kx) a w := by
  obtain ⟨X, L, x0, h⟩ := h
  obtain ⟨sl, obs, S, h, hA, hW, _, _, _, _⟩ := frzL_spec _ h hA hW
  obtain ⟨obs, h, hA, hW⟩ := inIf_spec h hA hW
  rw [fL_iff, fL_iff, clear_iff] at h
  have hr0 : ∀ (i : Nat) (o : Ob), obs[i]? = some o → RefsOb (Lt obs.length) o := fun i o ho => (hW.objs i o ho).refs
  obtain ⟨l1, r1⟩ := killRows_spec sl L.rows obs hr0
  obtain ⟨l3, r3⟩ := killNRows_spec sl L.nrows _ r1
  obtain ⟨l2, r2⟩ := killCells_spec obs L.cells _ r3
  rw [l3, l1] at l2
  generalize hW' : W ++ (keysOf L.slots ++ (keysOf L.rows ++ keysOf L.nrows)) = CW at h
  generalize hE : killCells obs L.cells (killNRows sl L.nrows (killRows sl L.rows obs)) = obsE at h l2 r2
  obtain ⟨hat, hround⟩ := h
  have hrefs : ∀ t, RefsIn (Lt obsE.length) ((clearL CW sl).get t) := by
    intro t
    rw [get_clearL, l2]
    split
    · exact .any
    · exact (hA.slots t).refs
  have hRE : ∀ (i : Nat) (ob : Ob), obsE[i]? = some ob → RefsOb (Lt obsE.length) ob := by rw [l2]; exact r2
  refine wp_loop_ghost (fun m a w => ∃ x slc obsc ρc S, L.mu x = m ∧ SatA N slc (Lt obsc.length) ρc S w a ∧ SatW w0 S0 obsc ρc S w ∧ (∀ t, (clearL CW sl).get t = slc.get t ∨ (clearL CW sl).get t = .any) ∧ isAt L obsE x slc obsc) (L.mu x0)
    ⟨x0, sl, obs, ρ, S, rfl, hA, hW, fun t => ?_, hat⟩ ?_
  · rw [get_clearL]
    split
    · exact .inr rfl
    · exact .inl rfl
  rintro m a1 w1 ⟨x, slc, obsc, ρc, Sc, rfl, hAc, hWc, hsub, hatc⟩
  obtain ⟨sl3, obs3, ρ3, h, hA3, hW3⟩ := rehead x L hRE hrefs (fun i v hp => by rw [l2]; exact (hW.pins i v hp).2) hAc hWc hsub hatc (hround x hatc.2.2.2)
  refine wp_mono (hbody _ _ _ ρ3 Sc a1 w1 h hA3 hW3) ?_
  intro e a2 w2 hq
  cases e with
  | normal =>
    obtain ⟨sl', obs', ρ', S', hq, hA', hW'⟩ := hq
    obtain ⟨obs', ⟨x', hmu, ⟨h4, h5⟩, hat'⟩, hA', hW'⟩ := inIf_spec hq hA' hW'
    rw [takeN_eq] at h5
    simp only [len_eq] at h4 h5
    refine ⟨L.mu x', hmu, x', sl', obs', ρ', S', rfl, hA', hW', fun t => ?_, hat'⟩
    by_cases ht : t ∈ CW
    · exact .inr (by rw [get_clearL, if_pos ht])
    · refine .inl ?_
      have hin := allIn_spec h5
      have hsplit : sl' = sl'.take (sl'.length - (clearL CW sl).length) ++ clearL CW sl := by
        conv => lhs; rw [← List.take_append_drop (sl'.length - (clearL CW sl).length) sl', h4]
      rw [hsplit, get_append_other (t := t) (fun p hp e => ht (by rw [← e]; exact hin p hp))]
  | ret => exact hq
  | exit i => exact hq
  | _ => exact hq.elim

/-- Every region that draws its order is of the form that the VC generator takes. -/
def drawsB : Code → Bool
  | .region _ ops d => !d || (bif expl ops.toList ops.toList then Region.noSelect ops else drawB (drawn ops.toList) && (!perms ops.toList || permOk (permOf ops.toList) (invOf (permOf ops.toList) ops.toList.length) ops.toList))
  | .seq a b => drawsB a && drawsB b
  | .cond _ a b => drawsB a && drawsB b
  | .block _ b => drawsB b
  | .loop b => drawsB b
  | _ => true

theorem vcCode_sound {w0 : World} {S0 : Fr} {P : Program} {F : Nat} {T : Tab} {N : Nat} (hm : P.follows .mixedOrders = true) (hT : TabOk P T) (hF : ∀ f, 2 < f → f < F → FnOk P f) : ∀ (c : Code), drawsB c = true → ∀ (kn kr : K) (kx : Nat → K) (sl : Slots) (obs : Obs) (ρ : Nat → Value) (S : Nat → Prop) (a : Act) (w : World),
    vcCode P F T N c kn kr kx sl obs → SatA N sl (Lt obs.length) ρ S w a → SatW w0 S0 obs ρ S w → c.wp P (QK w0 S0 N kn kr kx) a w
  | .skip, _, kn, kr, kx, sl, obs, ρ, S, a, w, h, hA, hW => wp_skip ⟨sl, obs, ρ, S, h, hA, hW⟩
  | .seq x y, hd, kn, kr, kx, sl, obs, ρ, S, a, w, h, hA, hW => by
    simp only [drawsB, Bool.and_eq_true] at hd
    refine wp_seq (wp_mono (vcCode_sound hm hT hF x hd.1 _ kr kx sl obs ρ S a w h hA hW) ?_)
    intro e a' w' hq
    cases e with
    | normal =>
      obtain ⟨sl', obs', ρ', S', hk, hA', hW'⟩ := hq
      exact vcCode_sound hm hT hF y hd.2 kn kr kx sl' obs' ρ' S' a' w' hk hA' hW'
    | _ => exact hq
  | .cond c x y, hd, kn, kr, kx, sl, obs, ρ, S, a, w, h, hA, hW => by
    simp only [drawsB, Bool.and_eq_true] at hd
    obtain ⟨sv, h, hden⟩ := ev_spec hA h
    split at h
    · exact wp_cond_true (den_kb hden) (vcCode_sound hm hT hF x hd.1 kn kr kx sl obs ρ S a w h hA hW)
    · exact wp_cond_false (den_kb hden) (vcCode_sound hm hT hF y hd.2 kn kr kx sl obs ρ S a w h hA hW)
    · exact wp_cond_split (den_pv hden) (fun e => vcCode_sound hm hT hF x hd.1 kn kr kx sl obs ρ S a w (h.1 e) hA hW) (fun e => vcCode_sound hm hT hF y hd.2 kn kr kx sl obs ρ S a w (h.2 e) hA hW)
    · exact h.elim
  | .block id b, hd, kn, kr, kx, sl, obs, ρ, S, a, w, h, hA, hW => by
    simp only [drawsB] at hd
    refine wp_block (wp_mono (vcCode_sound hm hT hF b hd kn kr _ sl obs ρ S a w h hA hW) ?_)
    intro e a' w' hq
    cases e with
    | exit i =>
      simp only [Exit.inBlock]
      by_cases hi : i = id
      · subst hi
        rw [if_pos rfl]
        simpa [QK] using hq
      · rw [if_neg hi]
        have : Nat.beq i id = false := by rw [Bool.eq_false_iff]; intro h'; exact hi (Nat.eq_of_beq_eq_true h')
        simpa [QK, this] using hq
    | _ => exact hq
  | .exit i, _, kn, kr, kx, sl, obs, ρ, S, a, w, h, hA, hW => wp_exit ⟨sl, obs, ρ, S, h, hA, hW⟩
  | .ret, _, kn, kr, kx, sl, obs, ρ, S, a, w, h, hA, hW => wp_ret ⟨sl, obs, ρ, S, h, hA, hW⟩
  | .loop b, hd, kn, kr, kx, sl, obs, ρ, S, a, w, h, hA, hW => by
    simp only [drawsB] at hd
    exact loop_sound (fun k sl obs ρ S a w h hA hW => vcCode_sound hm hT hF b hd k kr kx sl obs ρ S a w h hA hW) h hA hW
  | .region id ops d, hd, kn, kr, kx, sl, obs, ρ, S, a, w, h, hA, hW => by
    cases d with
    | false =>
      obtain ⟨obs', ρ', h, hA, hW⟩ := gh_spec (show vcGh ops.toList (vcOps P F T N ops.toList ops.toList kn) sl obs from h) hA hW
      exact wp_region_list (by simpa using vcOps_sound hT hF ops.toList (QK w0 S0 N kn kr kx) (fun a w h => h) ops.toList h hA hW)
    | true =>
      simp only [drawsB, Bool.not_true, Bool.false_or] at hd
      cases hx : expl ops.toList ops.toList with
      | true =>
        have h : (bif expl ops.toList ops.toList then vcGh ops.toList (fun sl obs => ∃ p : XP, (p.ok ops.toList false (List.replicate ops.toList.length false) && Nat.ble p.depth ops.toList.length) = true ∧ vcX P F T N ops.toList kn p sl obs) else vcGh ops.toList (fun sl obs => Vc.fL (drawn ops.toList) fun l => vcDraw P F T N l kn sl obs)) sl obs := h
        rw [hx] at h hd
        simp only [cond_true] at h hd
        obtain ⟨obs', ρ', ⟨p, hok, h⟩, hA, hW⟩ := gh_spec h hA hW
        rw [Bool.and_eq_true, Nat.ble_eq] at hok
        have hW1 : SatW w0 S0 obs' ρ' S { w with drawn := w.drawn + 1 } := hW.mono (Le.drew w)
        have hA1 := hA.mono (hW.keeps (Le.drew w)) (fun _ h => h) (fun _ h => h) (fun _ _ => rfl)
        have := (vcX_sound hT hF (all := ops.toList) (by simpa using hd) (Q := QK w0 S0 N kn kr kx) (fun _ _ _ h => h) (fun ⟨_, _, h⟩ => h) (k := kn) (fun a w h => h) p (List.replicate ops.toList.length false) h hA1 hW1).1 hok.1 _ hok.2
        refine wp_region_any hm ?_
        simpa using this
      | false =>
        have h : (bif expl ops.toList ops.toList then vcGh ops.toList (fun sl obs => ∃ p : XP, (p.ok ops.toList false (List.replicate ops.toList.length false) && Nat.ble p.depth ops.toList.length) = true ∧ vcX P F T N ops.toList kn p sl obs) else vcGh ops.toList (fun sl obs => Vc.fL (drawn ops.toList) fun l => vcDraw P F T N l kn sl obs)) sl obs := h
        rw [hx] at h hd
        simp only [cond_false] at h hd
        obtain ⟨obs', ρ', h, hA, hW⟩ := gh_spec h hA hW
        rw [fL_iff] at h
        simp only [Bool.and_eq_true] at hd
        have := draw_any hT hF hd.1 (Q := QK w0 S0 N kn kr kx) (fun _ _ _ h => h) (fun ⟨_, _, h⟩ => h) (fun a w h => h) h hA hW
        have := wp_drawn (id := id) hm (fun hb => by have := hd.2; rw [hb] at this; simpa using this) this
        simpa using this
  | .rangeFunc _ _ _ _, _, kn, kr, kx, sl, obs, ρ, S, a, w, h, hA, hW => h.elim
  | .scope _, _, kn, kr, kx, sl, obs, ρ, S, a, w, h, hA, hW => h.elim
  | .label _, _, kn, kr, kx, sl, obs, ρ, S, a, w, h, hA, hW => h.elim
  | .goto _, _, kn, kr, kx, sl, obs, ρ, S, a, w, h, hA, hW => h.elim
  | .refuse _, _, kn, kr, kx, sl, obs, ρ, S, a, w, h, hA, hW => h.elim

def resOf (tmps : Array Value) : ResultVar → Sem Value
  | .tmp t => pure (tmps.getD t undef)
  | .cell a t => do loadVar t (← asAddr (tmps.getD a undef))

section
variable {w0 : World} {S0 : Fr} {P : Program} {F : Nat} {T : Tab} {N : Nat}

theorem rets_spec (hT : TabOk P T) {sl : Slots} {obs : Obs} {ρ : Nat → Value} {S : Nat → Prop} {a : Act} {w : World} (hA : SatA N sl (Lt obs.length) ρ S w a) (hW : SatW w0 S0 obs ρ S w) : ∀ (rs : List ResultVar) {k : List SV → Prop}, vcRets T sl obs rs k →
    ∃ vs xs, k vs ∧ DenL ρ (Lt obs.length) w S vs xs ∧ (rs.mapM (resOf a.tmps)).run P w = Result.ok xs w
  | [], k, h => ⟨[], [], h, denL_nil, by simp⟩
  | .tmp t :: r, k, h => by
    simp only [vcRets, fSV_iff] at h
    obtain ⟨vs, xs, hk, hd, hr⟩ := rets_spec hT hA hW r h
    exact ⟨_, _, hk, denL_cons (hA.slots t) hd, by simp only [List.mapM_cons, resOf, Sem.run_bind, Sem.run_pure, Result.andThen_ok, hr]⟩
  | .cell t ty :: r, k, h => by
    simp only [vcRets, fSV_iff] at h
    obtain ⟨sv, v, h, hdv, hrun⟩ := vcLoad_spec hT hW (fun _ h => h) h (hA.slots t)
    obtain ⟨vs, xs, hk, hd, hr⟩ := rets_spec hT hA hW r h
    refine ⟨_, _, hk, denL_cons hdv hd, ?_⟩
    have hrun' : (resOf a.tmps (.cell t ty)).run P w = Result.ok v w := by
      have h0 := hrun
      simp only [Instr.loadAt, Sem.run_bind] at h0
      simp only [resOf, Sem.run_bind]
      generalize a.tmps.getD t undef = vt at h0 ⊢
      cases vt with
      | pointer ad =>
        cases ad with
        | none => simp [Instr.sureAddr, stuck, Result.andThen] at h0
        | some ad => simpa [Instr.sureAddr, asAddr] using h0
      | _ => simp [Instr.sureAddr, stuck, Result.andThen] at h0
    simp only [List.mapM_cons, Sem.run_bind, hrun', Result.andThen_ok, hr]
    rfl

def oneOf : List Value → Value
  | [x] => x
  | vs => .tuple vs.toArray

theorem results_of (fn : Func) (tmps : Array Value) (w : World) (vs : List Value) (h : (fn.results.toList.mapM (resOf tmps)).run P w = Result.ok vs w) :
    (results fn tmps).run P w = Result.ok (oneOf vs) w := by
  have e : (fn.results.mapM (resOf tmps)).run P w = Result.ok vs.toArray w := by
    rw [Array.mapM_eq_mapM_toList]
    simp [h]
  have e2 : results fn tmps = (do
      let vs ← fn.results.mapM (resOf tmps)
      pure (if h : vs.size = 1 then vs[0] else .tuple vs)) := by
    unfold results
    rfl
  rw [e2]
  simp only [Sem.run_bind, e, Result.andThen_ok, Sem.run_pure]
  match vs with
  | [] => rfl
  | [x] => rfl
  | x :: y :: r => rfl

theorem get_initS : ∀ (i : Nat) (args : List PV) (t : Nat), (initS i args).get t = if i ≤ t ∧ t < i + args.length then .p (args.getD (t - i) (.v undef)) else .any
  | i, [], t => by
    rw [if_neg (by simp)]
    rfl
  | i, x :: r, t => by
    rw [initS, get_cons, get_initS (i + 1) r t]
    by_cases h : i = t
    · subst h; simp
    · rw [if_neg h]
      by_cases h2 : i + 1 ≤ t ∧ t < i + 1 + r.length
      · rw [if_pos h2, if_pos (by simp; omega)]
        congr 1
        have : t - i = (t - (i + 1)) + 1 := by omega
        rw [this]; simp
      · rw [if_neg h2, if_neg (by simp; omega)]

theorem retS_den {ρ : Nat → Value} {B : Nat → Prop} {w : World} {S : Nat → Prop} {vs : List SV} {xs : List Value} (h : DenL ρ B w S vs xs) : Den ρ B w S (retS vs) (oneOf xs) := by
  match vs, xs, h with
  | [], [], h => exact .tup h.1 h.2
  | [x], [y], h => exact h.2 0 x y rfl rfl
  | x :: y :: r, [], h => exact absurd h.1 (by simp)
  | x :: y :: r, [_], h => exact absurd h.1 (by simp)
  | x :: y :: r, _ :: _ :: _, h => exact .tup h.1 h.2
  | [], _ :: _, h => exact absurd h.1 (by simp)
  | [x], [], h => exact absurd h.1 (by simp)
  | [x], _ :: _ :: _, h => exact absurd h.1 (by simp)

/-- Results in rows of the call's own, one behind the other. -/
theorem own_spec {obs obsR : Obs} {ρ : Nat → Value} {S : Nat → Prop} {w : World} (hW : SatW w0 S0 obs ρ S w) : ∀ (rs vs : List SV) (xs : List Value) (c : Nat) (seen : List Nat) (ρR : Nat → Value), isOwn obs obsR rs vs c seen → DenL ρ (Lt obs.length) w S vs xs → c ≤ obsR.length →
    SatW w0 S0 (obsR.take c) ρR S w → SrcW w obs ρ [] seen (obsR.take c) ρR →
    ∃ ρ', (∀ i, i < c → ρ' i = ρR i) ∧ SatW w0 S0 obsR ρ' S w ∧ DenL ρ' (Lt obsR.length) w S rs xs
  | [], [], xs, c, seen, ρR, h, hd, hc, hWR, hs => by
    have hx : xs = [] := List.eq_nil_of_length_eq_zero (by simpa using hd.1.symm)
    subst hx
    have h : c = obsR.length := h
    subst h
    rw [List.take_length] at hWR
    exact ⟨ρR, fun _ _ => rfl, hWR, denL_nil⟩
  | [], _ :: _, _, _, _, _, h, _, _, _, _ => h.elim
  | _ :: _, [], _, _, _, _, h, _, _, _, _ => h.elim
  | r :: rs, y :: ys, xs, c, seen, ρR, h, hd, hc, hWR, hs => by
    obtain ⟨v, xr, rfl, hdy, hdr⟩ := denL_uncons hd
    simp only [isOwn] at h
    split at h
    · rename_i i
      rw [cond_false_iff] at h
      obtain ⟨hic, h⟩ := h
      have hic : i = c := Nat.eq_of_beq_eq_true hic
      subst hic
      rw [at_iff] at h
      obtain ⟨ob, hob, h⟩ := h
      have hlt : i < obsR.length := (List.getElem?_eq_some_iff.1 hob).1
      have htake : obsR.take (i + 1) = obsR.take i ++ [ob] := by
        rw [List.take_succ_eq_append_getElem hlt]
        congr 2
        rw [List.getElem?_eq_getElem hlt] at hob
        exact Option.some.inj hob
      have htl : (obsR.take i).length = i := by simp; omega
      have fin : ∀ seen', isOwn obs obsR rs ys (i + 1) seen' → SatW w0 S0 (obsR.take (i + 1)) (updρ ρR i v) S w → SrcW w obs ρ [] seen' (obsR.take (i + 1)) (updρ ρR i v) → ∃ ρ', (∀ j, j < i → ρ' j = ρR j) ∧ SatW w0 S0 obsR ρ' S w ∧ DenL ρ' (Lt obsR.length) w S (.ob i :: rs) (v :: xr) := by
        intro seen' h1 h2 h3
        obtain ⟨ρ', h4, h5, h6⟩ := own_spec hW rs ys xr (i + 1) seen' _ h1 hdr (by omega) h2 h3
        refine ⟨ρ', fun j hj => by rw [h4 j (by omega), updρ_lt hj], h5, denL_cons ?_ h6⟩
        have : Den ρ' (Lt obsR.length) w S (.ob i) (ρ' i) := .ob hlt
        rwa [h4 i (by omega), updρ_eq] at this
      split at h
      · rename_i e sz m cs
        have step : ∀ k : List Nat → Prop, hasRow y obs [] e sz m cs seen k → ∃ seen', k seen' ∧ SatW w0 S0 (obsR.take (i + 1)) (updρ ρR i v) S w ∧ SrcW w obs ρ [] seen' (obsR.take (i + 1)) (updρ ρR i v) := by
          intro k hk
          obtain ⟨seen', h1, h2, h3⟩ := add_row hW hdy hk hWR hs
          rw [htl] at h2 h3
          exact ⟨seen', h1, by rw [htake]; exact h2, by rw [htake]; exact h3⟩
        split at h
        · obtain ⟨seen', h1, h2, h3⟩ := step (fun seen' => isOwn obs obsR rs ys (i + 1) seen') h
          exact fin seen' h1 h2 h3
        · rename_i j
          rw [cond_false_iff] at h
          obtain ⟨seen', h1, h2, h3⟩ := step (fun seen' => isOwn obs obsR rs ys (i + 1) seen') (by
            show (bif deadAt [] j && !memN j seen then _ ∧ _ else False)
            rw [cond_false_iff, Bool.and_eq_true]
            exact ⟨⟨rfl, h.1⟩, h.2⟩)
          exact fin seen' h1 h2 h3
        · exact h.elim
      · rename_i e sz m cs
        have step : ∀ k : List Nat → Prop, hasNRow y obs [] e sz m cs seen k → ∃ seen', k seen' ∧ SatW w0 S0 (obsR.take (i + 1)) (updρ ρR i v) S w ∧ SrcW w obs ρ [] seen' (obsR.take (i + 1)) (updρ ρR i v) := by
          intro k hk
          obtain ⟨seen', h1, h2, h3⟩ := add_nrow hW hdy hk hWR hs
          rw [htl] at h2 h3
          exact ⟨seen', h1, by rw [htake]; exact h2, by rw [htake]; exact h3⟩
        split at h
        · obtain ⟨seen', h1, h2, h3⟩ := step (fun seen' => isOwn obs obsR rs ys (i + 1) seen') h
          exact fin seen' h1 h2 h3
        · rename_i j
          rw [cond_false_iff] at h
          obtain ⟨seen', h1, h2, h3⟩ := step (fun seen' => isOwn obs obsR rs ys (i + 1) seen') (by
            show (bif deadAt [] j && !memN j seen then _ ∧ _ else False)
            rw [cond_false_iff, Bool.and_eq_true]
            exact ⟨⟨rfl, h.1⟩, h.2⟩)
          exact fin seen' h1 h2 h3
        · exact h.elim
      · exact h.elim
    · obtain ⟨h1, h⟩ := h
      obtain ⟨y', h1, hr⟩ := toP_spec hdy h1
      obtain ⟨ρ', h4, h5, h6⟩ := own_spec hW rs ys xr c seen ρR h hdr hc hWR hs
      exact ⟨ρ', h4, h5, denL_cons (.p (by rw [← h1]; exact weakA_rep hr)) h6⟩
    · exact h.elim

theorem retK_post (hT : TabOk P T) (hno : ∀ i, S0.pin i = none) {fn : Func} {obsR : Obs} {r : SV} {a : Act} {w : World} (h : Kpost w0 S0 N (retK T fn.results.toList obsR r) a w) :
    a.defers = [] ∧ ∃ v, (results fn a.tmps).run P w = .ok v w ∧ ∃ v' ρ S', Ending.returned v = .returned v' ∧ SatW w0 S0 obsR ρ S' w ∧ Den ρ (Lt obsR.length) w S' r v' := by
  obtain ⟨sl, obs, ρ, S, h, hA, hW⟩ := h
  unfold retK at h
  obtain ⟨obs, h, hA, hW, _⟩ := vcIn_spec h hA hW
  unfold retK0 at h
  split at h
  · obtain ⟨sl', obs', S', h, hA', hW', _, _⟩ := freeze_spec _ h hA hW
    obtain ⟨vs, xs, h, hd, hrun⟩ := rets_spec (P := P) hT hA' hW' _ h
    refine ⟨hA.defs, _, results_of fn a.tmps w xs hrun, _, ρ, S', rfl, ?_, ?_⟩
    · exact hW'.shrink (by simp) (fun i o h => by simp at h) (fun i o h => by simp at h) (fun i v hp => by rw [hno] at hp; cases hp)
    · cases hp : pures vs with
      | none => simp only [hp] at h
      | some l =>
        simp only [hp, fWs_iff] at h
        rw [← h]
        have := weakAll_rep (pures_spec hp hd)
        exact retS_den (mapP_den this)
  · rename_i obsR' hne
    obtain ⟨vs, xs, h, hd, hrun⟩ := rets_spec (P := P) hT hA hW _ h
    refine ⟨hA.defs, _, results_of fn a.tmps w xs hrun, ?_⟩
    rw [cond_false_iff] at h
    obtain ⟨hnot, h⟩ := h
    obtain ⟨ρ', _, h2, h3⟩ := own_spec hW _ _ xs 0 [] ρ h hd (Nat.zero_le _) (by
      rw [List.take_zero]
      exact hW.shrink (by simp) (fun i o h => by simp at h) (fun i o h => by simp at h) (fun i v hp => by rw [hno] at hp; cases hp)) (fun i o b hi => by simp at hi)
    refine ⟨_, ρ', S, rfl, h2, ?_⟩
    have : retS (ofS r) = r ∨ (∃ x, r = .tup [x]) := by
      cases r with
      | tup l =>
        match l with
        | [] => exact .inl rfl
        | [x] => exact .inr ⟨x, rfl⟩
        | _ :: _ :: _ => exact .inl rfl
      | _ => exact .inl rfl
    rcases this with h | ⟨x, rfl⟩
    · rw [← h]; exact retS_den h3
    · cases hnot

/-- A function's contract out of its VC. -/
theorem ret_of_vc (hm : P.follows .mixedOrders = true) (hT : TabOk P T) (hF : ∀ f, 2 < f → f < F → FnOk P f) {f : FuncId} {fn : Func} (hf : P.funcs[f]? = some fn) (hd : (match fn.body with | some c => drawsB c | none => false) = true) {args : List PV} (hn : args.length ≤ fn.ntmps) {obsR : Obs} {r : SV}
    (h : vcFun P F T fn args obsR r) : Ret P f args obsR r := by
  intro w S xs hlt hrep
  unfold vcFun at h
  cases hb : fn.body with
  | none => simp [hb] at h
  | some c =>
    simp only [hb] at h hd
    refine calls_of_wp hf hb ?_
    have hxl : args.length = xs.length := hrep.1
    have hA : SatA fn.ntmps (initS 0 args) (Lt ([] : Obs).length) (fun _ => undef) S w { tmps := xs.toArray ++ Array.replicate (fn.ntmps - xs.toArray.size) undef, defers := [] } := by
      refine ⟨by simp; omega, rfl, fun t => ?_⟩
      rw [get_initS]
      split
      · rename_i ht
        have h1 : t < args.length := by omega
        have h2 : t < xs.length := by omega
        have := hrep.2 t args[t] xs[t] (List.getElem?_eq_getElem h1) (List.getElem?_eq_getElem h2)
        have e1 : (xs.toArray ++ Array.replicate (fn.ntmps - xs.toArray.size) undef).getD t undef = xs[t] := by simp [Array.getElem?_append, h2]
        have e2 : args.getD (t - 0) (.v undef) = args[t] := by simp [List.getD, h1]
        rw [e1, e2]
        exact .p this
      · exact .any _
    have hW : SatW w (Fr.of S) [] (fun _ => undef) S w :=
      ⟨fun i ob hi => by simp at hi, fun i j oi oj b hi => by simp at hi, fun i ob b hi => by simp at hi, fun _ h => h, hlt, fun _ h => .inl h, LeM.refl _ _, fun i hi => by simp at hi, fun i v hp => by cases hp⟩
    refine wp_mono (vcCode_sound hm hT hF c hd _ _ _ _ _ _ _ _ w h hA hW) ?_
    intro e a' w' hq
    cases e with
    | normal => exact retK_post hT (fun _ => rfl) hq
    | ret => exact retK_post hT (fun _ => rfl) hq
    | exit i => obtain ⟨_, _, _, _, h, _⟩ := hq; exact h.elim
    | _ => exact hq.elim

/-! ### Functions that may change a variable of the caller's -/

def initSV (i : Nat) : List SV → Slots
  | [] => []
  | x :: r => (i, x) :: initSV (i + 1) r

def retKM (T : Tab) (rs : List ResultVar) (t : TypeId) (b : Bool) (r : PV) : K := fun sl obs => obs.at 0 fun o => (match o with
  | .box t' cs => bif Nat.beq t' t then (match cs with
    | [.p y] => y = .v (.bool b)
    | [.kb c] => c = b
    | _ => False) else False
  | _ => False) ∧ vcRets T sl obs rs fun vs => match vs with
    | [.p y] => y = r
    | [.kb c] => .v (.bool c) = r
    | _ => False

def vcFunM (P : Program) (F : Nat) (T : Tab) (fn : Func) (args : List SV) (ob : Ob) (t : TypeId) (b : Bool) (r : PV) : Prop :=
  match fn.body with
  | some c => vcCode P F T fn.ntmps c (retKM T fn.results.toList t b r) (retKM T fn.results.toList t b r) (fun _ _ _ => False) (initSV 0 args) [ob]
  | none => False

theorem get_initSV : ∀ (i : Nat) (args : List SV) (t : Nat), (initSV i args).get t = if i ≤ t ∧ t < i + args.length then args.getD (t - i) .any else .any
  | i, [], t => by
    rw [if_neg (by simp)]
    rfl
  | i, x :: r, t => by
    rw [initSV, get_cons, get_initSV (i + 1) r t]
    by_cases h : i = t
    · subst h; simp
    · rw [if_neg h]
      by_cases h2 : i + 1 ≤ t ∧ t < i + 1 + r.length
      · rw [if_pos h2, if_pos (by simp; omega)]
        have : t - i = (t - (i + 1)) + 1 := by omega
        rw [this]; simp
      · rw [if_neg h2, if_neg (by simp; omega)]

theorem retKM_post (hT : TabOk P T) (hno : ∀ i v, S0.pin i = some v → i < 1) {fn : Func} {t : TypeId} {b : Bool} {r : PV} {a : Act} {w : World} (h : Kpost w0 S0 N (retKM T fn.results.toList t b r) a w) :
    a.defers = [] ∧ ∃ v, (results fn a.tmps).run P w = .ok v w ∧ ∃ v' ρ S', Ending.returned v = .returned v' ∧ SatW w0 S0 [.box t [.p (.v (.bool b))]] ρ S' w ∧ Rep w S' r v' := by
  obtain ⟨sl, obs, ρ, S, h, hA, hW⟩ := h
  unfold retKM at h
  rw [at_iff] at h
  obtain ⟨o, ho, hob, h⟩ := h
  have hob : o = .box t [.p (.v (.bool b))] ∨ o = .box t [.kb b] := by
    split at hob
    · rw [cond_false_iff] at hob
      obtain ⟨h1, h2⟩ := hob
      rw [Nat.eq_of_beq_eq_true h1]
      split at h2
      · rw [h2]; exact .inl rfl
      · rw [h2]; exact .inr rfl
      · exact h2.elim
    · exact hob.elim
  have hlen : 1 ≤ obs.length := (List.getElem?_eq_some_iff.1 ho).1
  obtain ⟨vs, xs, h, hd, hrun⟩ := rets_spec (P := P) hT hA hW _ h
  have hsh0 : SatW w0 S0 [o] ρ S w := by
    refine hW.shrink hlen (fun i o hi _ => ?_) (fun i o' hi => ?_) hno
    · cases i with
      | zero => cases hi; exact ho
      | succ i => simp at hi
    · cases i with
      | zero =>
        cases hi
        rcases hob with rfl | rfl
        · intro j p hp
          cases j with
          | zero => cases hp; exact .p _
          | succ j => simp at hp
        · intro j p hp
          cases j with
          | zero => cases hp; exact .kb _
          | succ j => simp at hp
      | succ i => simp at hi
  have hsh : SatW w0 S0 [.box t [.p (.v (.bool b))]] ρ S w := by
    rcases hob with rfl | rfl
    · exact hsh0
    · have hk := hsh0.objs 0 _ rfl
      obtain ⟨bb, xs, hx, hb, hd, h1⟩ := hk
      have hk' : ObOk ρ (Lt 1) w S (.box t [.p (.v (.bool b))]) (ρ 0) := by
        refine ⟨bb, xs, hx, hb, ⟨hd.1, fun j p y hp hy => ?_⟩, h1⟩
        cases j with
        | zero =>
          cases hp
          have := den_kb (hd.2 0 _ y rfl hy)
          subst this
          exact .p (.v _)
        | succ j => simp at hp
      exact hsh0.retell1 (i := 0) rfl rfl hk' (fun b hb => .inl (hb.flat rfl))
  split at h
  · rename_i y
    subst h
    match xs, hd with
    | [x], hd =>
      refine ⟨hA.defs, x, results_of fn a.tmps w [x] hrun, x, ρ, S, rfl, hsh, den_p (hd.2 0 _ x rfl rfl)⟩
    | [], hd => exact absurd hd.1 (by simp)
    | _ :: _ :: _, hd => exact absurd hd.1 (by simp)
  · rename_i c
    subst h
    match xs, hd with
    | [x], hd =>
      have := den_kb (hd.2 0 _ x rfl rfl)
      subst this
      refine ⟨hA.defs, _, results_of fn a.tmps w [_] hrun, _, ρ, S, rfl, hsh, .v _⟩
    | [], hd => exact absurd hd.1 (by simp)
    | _ :: _ :: _, hd => exact absurd hd.1 (by simp)
  · exact h.elim

theorem retM_of_vc (hm : P.follows .mixedOrders = true) (hT : TabOk P T) (hF : ∀ f, 2 < f → f < F → FnOk P f) {f : FuncId} {fn : Func} (hf : P.funcs[f]? = some fn) (hd : (match fn.body with | some c => drawsB c | none => false) = true) {args : List SV} (hn : args.length ≤ fn.ntmps) {ob : Ob} {t : TypeId} {b : Bool} {r : PV}
    (h : vcFunM P F T fn args ob t b r) : RetM P f args ob (.box t [.p (.v (.bool b))]) r := by
  intro w S m ρ xs hW hrep
  unfold vcFunM at h
  cases hb : fn.body with
  | none => simp [hb] at h
  | some c =>
    simp only [hb] at h hd
    refine calls_of_wp hf hb ?_
    have hxl : args.length = xs.length := hrep.1
    have hA : SatA fn.ntmps (initSV 0 args) (Lt ([ob] : Obs).length) ρ S w { tmps := xs.toArray ++ Array.replicate (fn.ntmps - xs.toArray.size) undef, defers := [] } := by
      refine ⟨by simp; omega, rfl, fun t => ?_⟩
      rw [get_initSV]
      split
      · rename_i ht
        have h1 : t < args.length := by omega
        have h2 : t < xs.length := by omega
        have := hrep.2 t args[t] xs[t] (List.getElem?_eq_getElem h1) (List.getElem?_eq_getElem h2)
        have e1 : (xs.toArray ++ Array.replicate (fn.ntmps - xs.toArray.size) undef).getD t undef = xs[t] := by simp [Array.getElem?_append, h2]
        have e2 : args.getD (t - 0) .any = args[t] := by simp [List.getD, h1]
        rw [e1, e2]
        exact this
      · exact .any _
    have hpin : ∀ i v, (fun i => if i = 0 then some (ρ 0) else none : Nat → Option Value) i = some v → i < 1 := by
      intro i v hv
      by_cases e : i = 0
      · omega
      · simp [e] at hv
    refine wp_mono (vcCode_sound hm hT hF c hd _ _ _ _ _ _ _ _ w h hA hW) ?_
    intro e a' w' hq
    cases e with
    | normal => exact retKM_post hT hpin hq
    | ret => exact retKM_post hT hpin hq
    | exit i => obtain ⟨_, _, _, _, h, _⟩ := hq; exact h.elim
    | _ => exact hq.elim

end
end Go.Pv
