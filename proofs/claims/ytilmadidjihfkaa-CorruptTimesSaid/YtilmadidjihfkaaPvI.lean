/- Loops. -/
import Derived.Test.YtilmadidjihfkaaPvH
import Derived.Deep.LoopGhost
namespace Go.Pv
open Go.Vc
open Go.RowKit (Below)

def clearL (W : List Nat) (sl : Slots) : Slots := sl.filter fun p => !memN p.1 W

theorem clear_iff (W : List Nat) (sl : Slots) (k : Slots → Prop) : clear W sl k ↔ k (clearL W sl) := by
  induction sl generalizing k with
  | nil => exact Iff.rfl
  | cons p r ih =>
    obtain ⟨t, x⟩ := p
    cases h : memN t W <;> simp [clear, clearL, h, ih]

theorem get_clearL (W : List Nat) (sl : Slots) (t : Nat) : (clearL W sl).get t = if t ∈ W then .any else sl.get t := by
  induction sl with
  | nil => simp [clearL, Slots.get]
  | cons p r ih =>
    obtain ⟨d, x⟩ := p
    by_cases h : memN d W = true
    · have : clearL W ((d, x) :: r) = clearL W r := by simp [clearL, h]
      rw [this, ih, get_cons]
      rw [memN_iff] at h
      by_cases hdt : d = t
      · subst hdt; simp [h]
      · simp [hdt]
    · have : clearL W ((d, x) :: r) = (d, x) :: clearL W r := by simp [clearL, h]
      rw [this, get_cons, get_cons, ih]
      rw [memN_iff] at h
      by_cases hdt : d = t
      · subst hdt; simp [h]
      · simp [hdt]

/-- A slot behind entries of other slots. -/
theorem get_append_other {sl : Slots} {t : Nat} : ∀ {a : Slots}, (∀ p ∈ a, p.1 ≠ t) → Slots.get (a ++ sl) t = Slots.get sl t
  | [], _ => rfl
  | (d, x) :: r, h => by
    rw [List.cons_append, get_cons, if_neg (h (d, x) (by simp)), get_append_other fun p hp => h p (by simp [hp])]

theorem allIn_spec {W : List Nat} : ∀ {sl : Slots}, allIn W sl = true → ∀ p ∈ sl, p.1 ∈ W
  | [], _, p, h => by cases h
  | (t, x) :: r, hb, p, h => by
    simp only [allIn, Bool.and_eq_true, memN_iff] at hb
    rcases List.mem_cons.1 h with rfl | h
    · exact hb.1
    · exact allIn_spec hb.2 p h

section
variable {w0 : World} {S0 : Fr} {N : Nat} {obs obs' : Obs} {ρ : Nat → Value} {S : Nat → Prop} {w : World} {a : Act} {sl : Slots}

theorem setAt_length (i o : Nat) (y : SV) : ∀ obs : Obs, (setAt i o y obs).length = obs.length := by
  intro obs
  induction obs generalizing i with
  | nil => cases i <;> simp [setAt]
  | cons x r ih => cases i <;> simp [setAt, ih]

theorem setAt_get (i o : Nat) (y : SV) : ∀ (obs : Obs) (j : Nat), (setAt i o y obs)[j]? = if j = i then (obs[j]?).map (setCell o y) else obs[j]? := by
  intro obs
  induction obs generalizing i with
  | nil => intro j; simp [setAt]
  | cons x r ih =>
    intro j
    cases i with
    | zero => cases j <;> simp [setAt]
    | succ i =>
      cases j with
      | zero => simp [setAt]
      | succ j => simp [setAt, ih]

theorem owns_setCell {o : Nat} {y : SV} {ob : Ob} {x : Value} {b : Nat} (h : Owns w (setCell o y ob) x b) : Owns w ob x b := by
  cases ob <;> first | exact h | exact .inl (h.flat rfl)

theorem setCell_live (o : Nat) (y : SV) (ob : Ob) : (setCell o y ob).live = ob.live := by cases ob <;> rfl

/-- A cell of a variable is told in another way. -/
theorem SatW.cellAs (h : SatW w0 S0 obs ρ S w) (i o : Nat) (y : SV) (hy : ∀ (t : TypeId) (cs : List SV) (xs : List Value) (b : Nat) (v : Value), obs[i]? = some (.box t cs) → ρ i = .pointer (some ⟨b, 0, none⟩) → w.heap[b]? = some (.cells xs.toArray t (0, 0)) → xs[o]? = some v → Den ρ (Lt obs.length) w S y v) : SatW w0 S0 (setAt i o y obs) ρ S w := by
  have get : ∀ (j : Nat) (c : Ob), (setAt i o y obs)[j]? = some c → ∃ c', obs[j]? = some c' ∧ c.live = c'.live ∧ ((j ≠ i ∧ c = c') ∨ (j = i ∧ c = setCell o y c')) := by
    intro j c hc
    rw [setAt_get] at hc
    split at hc
    · rename_i e
      rw [Option.map_eq_some_iff] at hc
      obtain ⟨c', h1, h2⟩ := hc
      exact ⟨c', h1, by rw [← h2, setCell_live], .inr ⟨e, h2.symm⟩⟩
    · rename_i e; exact ⟨c, hc, rfl, .inl ⟨e, rfl⟩⟩
  have back : ∀ {c c' : Ob} {j b : Nat}, ((j ≠ i ∧ c = c') ∨ (j = i ∧ c = setCell o y c')) → Owns w c (ρ j) b → Owns w c' (ρ j) b := by
    rintro c c' j b (⟨_, rfl⟩ | ⟨_, rfl⟩) h
    · exact h
    · exact owns_setCell h
  refine ⟨fun j c hc => ?_, fun j k oj ok b hj hk lj lk bj bk => ?_, fun j c b hc hl hb => ?_, h.sub, h.lt, h.new, h.le, by rw [setAt_length]; exact h.plain, by rw [setAt_length]; exact h.pins⟩
  · rw [setAt_length]
    obtain ⟨c', h1, _, h2⟩ := get j c hc
    have hob := h.objs j c' h1
    rcases h2 with ⟨_, rfl⟩ | ⟨rfl, rfl⟩
    · exact hob
    · cases c' with
      | box t cs =>
        obtain ⟨b, xs, hx, hb, hd, h3⟩ := hob
        refine ⟨b, xs, hx, hb, ⟨by simpa using hd.1, fun k p z hp hz => ?_⟩, h3⟩
        by_cases hk : o = k
        · subst hk
          have hlt : o < cs.length := by simpa using (List.getElem?_eq_some_iff.1 hp).1
          rw [List.getElem?_set_self hlt] at hp
          cases hp
          exact hy t cs xs b z h1 hx hb hz
        · rw [List.getElem?_set_ne hk] at hp
          exact hd.2 k p z hp hz
      | _ => exact hob
  · obtain ⟨cj, h1, h2, g1⟩ := get j oj hj
    obtain ⟨ck, h3, h4, g2⟩ := get k ok hk
    exact h.dist j k cj ck b h1 h3 (by rw [← h2]; exact lj) (by rw [← h4]; exact lk) (back g1 bj) (back g2 bk)
  · obtain ⟨c', h1, h2, g1⟩ := get j c hc
    exact h.own j c' b h1 (by rw [← h2]; exact hl) (back g1 hb)

theorem SatW.mask {X : Type} (h : SatW w0 S0 obs ρ S w) : ∀ (l : List (CellSpec X)), SatW w0 S0 (mask l obs) ρ S w := by
  intro l
  induction l generalizing obs with
  | nil => exact h
  | cons c r ih =>
    obtain ⟨i, o, q⟩ := c
    exact ih (h.cellAs i o .any (fun _ _ _ _ v _ _ _ _ => .any v))

theorem mask_length {X : Type} : ∀ (l : List (CellSpec X)) (obs : Obs), (mask l obs).length = obs.length
  | [], _ => rfl
  | (i, o, q) :: r, obs => by rw [Pv.mask, mask_length r, setAt_length]

theorem mask_dead {X : Type} : ∀ (l : List (CellSpec X)) (obs : Obs) (j : Nat) (c : Ob), (mask l obs)[j]? = some c → ∃ c', obs[j]? = some c' ∧ c.live = c'.live
  | [], _, j, c, h => ⟨c, h, rfl⟩
  | (i, o, q) :: r, obs, j, c, h => by
    obtain ⟨c1, h1, h2⟩ := mask_dead r _ j c h
    rw [setAt_get] at h1
    split at h1
    · rw [Option.map_eq_some_iff] at h1
      obtain ⟨c', h3, h4⟩ := h1
      exact ⟨c', h3, by rw [h2, ← h4, setCell_live]⟩
    · exact ⟨c1, h1, h2⟩

theorem mask_owns {X : Type} : ∀ (l : List (CellSpec X)) (obs : Obs) (j : Nat) (c : Ob), (mask l obs)[j]? = some c → ∃ c', obs[j]? = some c' ∧ c.live = c'.live ∧ ∀ w x b, Owns w c x b → Owns w c' x b
  | [], _, j, c, h => ⟨c, h, rfl, fun _ _ _ h => h⟩
  | (i, o, q) :: r, obs, j, c, h => by
    obtain ⟨c1, h1, h2, h5⟩ := mask_owns r _ j c h
    rw [setAt_get] at h1
    split at h1
    · rw [Option.map_eq_some_iff] at h1
      obtain ⟨c', h3, h4⟩ := h1
      exact ⟨c', h3, by rw [h2, ← h4, setCell_live], fun w x b hb => by have := h5 w x b hb; rw [← h4] at this; exact owns_setCell this⟩
    · exact ⟨c1, h1, h2, h5⟩

theorem refs_setCell {B : Nat → Prop} {o : Nat} {y : SV} {ob : Ob} (h : RefsOb B ob) (hy : RefsIn B y) : RefsOb B (setCell o y ob) := by
  cases ob with
  | box t cs =>
    intro k p hp
    by_cases hk : o = k
    · subst hk
      have hlt : o < cs.length := by simpa using (List.getElem?_eq_some_iff.1 hp).1
      rw [List.getElem?_set_self hlt] at hp
      cases hp
      exact hy
    · rw [List.getElem?_set_ne hk] at hp
      exact h k p hp
  | nest e sz m cs hole => exact h
  | _ => trivial

theorem mask_refs {X : Type} {B : Nat → Prop} : ∀ (l : List (CellSpec X)) (obs : Obs), (∀ (i : Nat) (o : Ob), obs[i]? = some o → RefsOb B o) → ∀ (i : Nat) (o : Ob), (mask l obs)[i]? = some o → RefsOb B o
  | [], _, h => h
  | (i, o, q) :: r, obs, h => mask_refs r _ (by
    intro j c hc
    rw [setAt_get] at hc
    split at hc
    · rw [Option.map_eq_some_iff] at hc
      obtain ⟨c', h3, rfl⟩ := hc
      exact refs_setCell (h j c' h3) .any
    · exact h j c hc)

theorem overB_live {X : Type} (x : X) (bx : List (Nat × (X → List PV))) (i : Nat) (o : Ob) : (overB x bx i o).live = o.live := by
  induction bx with
  | nil => rfl
  | cons p r ih =>
    obtain ⟨j, l⟩ := p
    simp only [overB]
    cases Nat.beq j i
    · exact ih
    · cases o <;> rfl

theorem overB_refs {X : Type} {B : Nat → Prop} (x : X) (bx : List (Nat × (X → List PV))) (i : Nat) (o : Ob) (h : RefsOb B o) : RefsOb B (overB x bx i o) := by
  induction bx with
  | nil => exact h
  | cons p r ih =>
    obtain ⟨j, l⟩ := p
    simp only [overB]
    cases Nat.beq j i
    · exact ih
    · cases o with
      | box t cs =>
        intro k p hp
        rw [mapP_eq, List.getElem?_map, Option.map_eq_some_iff] at hp
        obtain ⟨q, _, rfl⟩ := hp
        exact .p q
      | nest e sz m cs hole => exact h
      | _ => trivial

theorem overN_live {X : Type} (x : X) (bx : List (Nat × (X → List NC))) (i : Nat) (o : Ob) : (overN x bx i o).live = o.live := by
  induction bx with
  | nil => rfl
  | cons p r ih =>
    obtain ⟨j, l⟩ := p
    simp only [overN]
    cases Nat.beq j i
    · exact ih
    · cases o <;> rfl

theorem overN_refs {X : Type} {B : Nat → Prop} (x : X) (bx : List (Nat × (X → List NC))) (i : Nat) (o : Ob) (h : RefsOb B o) : RefsOb B (overN x bx i o) := by
  induction bx with
  | nil => exact h
  | cons p r ih =>
    obtain ⟨j, l⟩ := p
    simp only [overN]
    cases Nat.beq j i
    · exact ih
    · cases o <;> exact h

theorem setNs_length {X : Type} (x : X) (bx : List (Nat × (X → List NC))) : ∀ (i : Nat) (obs : Obs), (setNs x bx i obs).length = obs.length
  | _, [] => rfl
  | i, o :: r => by simp [setNs, setNs_length x bx (i + 1) r]

theorem setNs_get {X : Type} (x : X) (bx : List (Nat × (X → List NC))) : ∀ (i : Nat) (obs : Obs) (j : Nat), (setNs x bx i obs)[j]? = (obs[j]?).map (overN x bx (i + j))
  | _, [], j => by simp [setNs]
  | i, o :: r, j => by
    cases j with
    | zero => simp [setNs]
    | succ j => simp [setNs, setNs_get x bx (i + 1) r j, Nat.add_assoc, Nat.add_comm 1 j]

theorem setBoxes_length {X : Type} (x : X) (bx : List (Nat × (X → List PV))) : ∀ (i : Nat) (obs : Obs), (setBoxes x bx i obs).length = obs.length
  | _, [] => rfl
  | i, o :: r => by simp [setBoxes, setBoxes_length x bx (i + 1) r]

theorem setBoxes_get {X : Type} (x : X) (bx : List (Nat × (X → List PV))) : ∀ (i : Nat) (obs : Obs) (j : Nat), (setBoxes x bx i obs)[j]? = (obs[j]?).map (overB x bx (i + j))
  | _, [], j => by simp [setBoxes]
  | i, o :: r, j => by
    cases j with
    | zero => simp [setBoxes]
    | succ j => simp [setBoxes, setBoxes_get x bx (i + 1) r j, Nat.add_assoc, Nat.add_comm 1 j]

theorem sameOb_eq {o c : Ob} (h : sameOb o c) (hl : o.live = true) : c = o := by
  cases o with
  | box t cs =>
    cases c <;> simp only [sameOb] at h <;> first | exact h.elim | skip
    rw [cond_false_iff] at h
    rw [Nat.eq_of_beq_eq_true h.1, h.2]
  | arr t cs =>
    cases c <;> simp only [sameOb] at h <;> first | exact h.elim | skip
    rw [cond_false_iff] at h
    rw [Nat.eq_of_beq_eq_true h.1, h.2]
  | row e sz n ex cs =>
    cases c <;> simp only [sameOb] at h <;> first | exact h.elim | skip
    rw [cond_false_iff, Bool.and_eq_true, Bool.and_eq_true, beq_iff_eq] at h
    obtain ⟨⟨⟨h1, h2⟩, h3⟩, h4, h5⟩ := h
    rw [Nat.eq_of_beq_eq_true h1, Nat.eq_of_beq_eq_true h2, h3, h4, h5]
  | nest e sz n cs hole =>
    cases c <;> simp only [sameOb] at h <;> first | exact h.elim | skip
    rw [cond_false_iff, Bool.and_eq_true] at h
    obtain ⟨⟨h1, h2⟩, h3, h4, h5⟩ := h
    rw [Nat.eq_of_beq_eq_true h1, Nat.eq_of_beq_eq_true h2, h3, h4, h5]
  | dead => cases hl

theorem sameObs_get : ∀ {l c : Obs}, sameObs l c → l.length ≤ c.length ∧ ∀ (i : Nat) (o : Ob), l[i]? = some o → o.live = true → c[i]? = some o
  | [], c, _ => ⟨by simp, fun i o h => by simp at h⟩
  | _ :: _, [], h => h.elim
  | o :: r, d :: s, h => by
    obtain ⟨h1, h2⟩ := sameObs_get h.2
    refine ⟨by simp; omega, fun i o' hi hl => ?_⟩
    cases i with
    | zero => simp at hi; subst hi; simp [sameOb_eq h.1 hl]
    | succ i => simpa using h2 i o' (by simpa using hi) hl

theorem putAll_sat {X : Type} (x : X) {n : Nat → Prop} : ∀ (l : List (Nat × (X → PV))) {sl : Slots} {k : Slots → Prop}, putAll N x l sl k → SatA N sl n ρ S w a → (∀ p ∈ l, Rep w S (p.2 x) (a.tmps.getD p.1 undef)) → ∃ sl', k sl' ∧ SatA N sl' n ρ S w a
  | [], sl, k, h, hA, _ => ⟨sl, h, hA⟩
  | (t, y) :: r, sl, k, h, hA, hr => by
    simp only [putAll, cond_false_iff] at h
    refine putAll_sat x r h.2 ⟨hA.size, hA.defs, fun t' => ?_⟩ fun p hp => hr p (by simp [hp])
    rw [get_cons]
    split
    · rename_i e; subst e; exact .p (hr (t, y) (by simp))
    · exact hA.slots t'

theorem hasAll_rep {X : Type} (x : X) {n : Nat → Prop} (hA : SatA N sl n ρ S w a) : ∀ {l : List (Nat × (X → PV))}, hasAll sl x l → ∀ p ∈ l, Rep w S (p.2 x) (a.tmps.getD p.1 undef)
  | [], _, p, hp => by cases hp
  | (t, y) :: r, h, p, hp => by
    rcases List.mem_cons.1 hp with rfl | hp
    · have hs := hA.slots t
      have h := h.1
      generalize hv : a.tmps.getD t undef = v at hs
      generalize sl.get t = sv at hs h
      cases hs with
      | p hr => show Rep w S (y x) _; rw [← h]; exact hr
      | kb b => show Rep w S (y x) _; rw [← h]; exact .v _
      | nil => show Rep w S (y x) _; rw [← h]; exact Rep.nil0 _
      | _ => exact h.elim
    · exact hasAll_rep x hA h.2 p hp

/-- Where the objects come from. -/
def SrcW (w : World) (obsc : Obs) (ρc : Nat → Value) (obsE : Obs) (seen : List Nat) (obs : Obs) (ρ : Nat → Value) : Prop :=
  ∀ (i : Nat) (o : Ob) (b : Nat), obs[i]? = some o → o.live = true → Owns w o (ρ i) b → ∃ (s : Nat) (os : Ob), obsc[s]? = some os ∧ os.live = true ∧ Owns w os (ρc s) b ∧ (s ∈ seen ∨ deadAt obsE s = false)

theorem deadAt_of_live {obs : Obs} {i : Nat} {o : Ob} (h : obs[i]? = some o) (hl : o.live = true) : deadAt obs i = false := by simp [deadAt, h, hl]

/-- A row that a loop carries, under its new number. -/
theorem add_row {obsc obsE : Obs} {ρc : Nat → Value} (hWc : SatW w0 S0 obsc ρc S w) {y : SV} {v : Value} (hd : Den ρc (Lt obsc.length) w S y v) {e : TypeId} {sz m : Nat} {cs : List PV} {seen : List Nat} {k : List Nat → Prop} (h : hasRow y obsc obsE e sz m cs seen k)
    (hW : SatW w0 S0 obs ρ S w) (hsrc : SrcW w obsc ρc obsE seen obs ρ) :
    ∃ seen', k seen' ∧ SatW w0 S0 (obs ++ [.row e sz m false cs]) (updρ ρ obs.length v) S w ∧ SrcW w obsc ρc obsE seen' (obs ++ [.row e sz m false cs]) (updρ ρ obs.length v) := by
  unfold hasRow at h
  cases hd with
  | nil =>
    obtain ⟨⟨rfl, rfl⟩, h⟩ := h
    refine ⟨seen, h, hW.snoc' (ob := .row e sz 0 false []) (x := .slice none 0 0) ⟨[], ⟨by simp, .inl ⟨rfl, rfl⟩⟩, repL_nil, fun _ h => by simp at h⟩ (fun b hb => by cases hb.flat rfl) ⟨rfl, rfl⟩, fun i o b hi hl hb => ?_⟩
    rcases get_snoc hi with ⟨h1, h2⟩ | ⟨rfl, rfl⟩
    · rw [updρ_lt h1] at hb; exact hsrc i o b h2 hl hb
    · rw [updρ_eq] at hb; cases hb.flat rfl
  | ob hj =>
    rename_i j
    simp only [cond_false_iff, Bool.and_eq_true, Bool.not_eq_true'] at h
    obtain ⟨⟨hdead, hseen⟩, h, hk⟩ := h
    have hnot : j ∉ seen := by
      intro hin
      rw [(memN_iff j seen).2 hin] at hseen
      cases hseen
    rw [at_iff] at h
    obtain ⟨ob, hob, h⟩ := h
    cases ob <;> simp only at h <;> first | exact h.elim | skip
    rename_i e' sz' n' ex' cs'
    obtain ⟨⟨h1, h2⟩, rfl, rfl⟩ := h
    have h1 : sz' = sz := Nat.eq_of_beq_eq_true h1
    have h2 : e' = e := Nat.eq_of_beq_eq_true h2
    subst h1 h2
    obtain ⟨xs, hrow, hr, ho⟩ := hWc.objs j _ hob
    have hrow' : RowOk w e' sz' n' xs false (ρc j) := by
      refine ⟨hrow.1, ?_⟩
      rcases hrow.2 with h | ⟨g, cap, cur, r1, r2, r3, r4, r5, r6, _⟩
      · exact .inl h
      · exact .inr ⟨g, cap, cur, r1, r2, r3, r4, r5, r6, by simp⟩
    refine ⟨j :: seen, hk, hW.snoc' ⟨xs, hrow', hr, ho⟩ (fun b hb => ?_) (hWc.plain j hj), fun i o b hi hl hb => ?_⟩
    · have hb := hb.flat rfl
      obtain ⟨o1, o2⟩ := hWc.own j _ b hob rfl (.inl hb)
      refine ⟨o1, o2, fun i oi hi hl hbi => ?_⟩
      obtain ⟨s, os, s1, s2, s3, s4⟩ := hsrc i oi b hi hl hbi
      have := hWc.dist s j os _ b s1 hob s2 rfl s3 (.inl hb)
      subst this
      rcases s4 with s4 | s4
      · exact hnot s4
      · rw [hdead] at s4; cases s4
    · rcases get_snoc hi with ⟨h1, h2⟩ | ⟨rfl, rfl⟩
      · rw [updρ_lt h1] at hb
        obtain ⟨s, os, s1, s2, s3, s4⟩ := hsrc i o b h2 hl hb
        exact ⟨s, os, s1, s2, s3, s4.imp (fun h => by simp [h]) id⟩
      · rw [updρ_eq] at hb
        exact ⟨j, _, hob, rfl, .inl (hb.flat rfl), .inl (by simp)⟩
  | _ => exact h.elim

/-- A row, told as a row of rows. -/
theorem row_nest {ρ : Nat → Value} {n : Nat → Prop} {e : TypeId} {sz m : Nat} {ex : Bool} {cs : List PV} {x : Value} (h : ObOk ρ n w S (.row e sz m ex cs) x) : ObOk ρ n w S (.nest e sz m (cs.map NC.pu) none) x ∧ ∀ b, Owns w (.nest e sz m (cs.map NC.pu) none) x b → blk x = some b := by
  obtain ⟨xs, hrow, hr, ho⟩ := h
  have hrow' : RowOk w e sz m xs false x := by
    refine ⟨hrow.1, ?_⟩
    rcases hrow.2 with h | ⟨g, cap, cur, r1, r2, r3, r4, r5, r6, _⟩
    · exact .inl h
    · exact .inr ⟨g, cap, cur, r1, r2, r3, r4, r5, r6, by simp⟩
  have no : ∀ xs j b, ¬ Inn (cs.map NC.pu) none xs j b := by
    rintro xs j b ⟨c, v, hc, how, _⟩
    rw [List.getElem?_map, Option.map_eq_some_iff] at hc
    obtain ⟨p, _, rfl⟩ := hc
    cases how
  refine ⟨⟨xs, hrow', by simpa using hr.1, ho, fun j c v hc hv _ => ?_, fun p y hp => (by cases hp), fun j j' b hj => (no _ _ _ hj).elim, fun j b hj => (no _ _ _ hj).elim⟩, fun b hb => ?_⟩
  · rw [List.getElem?_map, Option.map_eq_some_iff] at hc
    obtain ⟨p, hp, rfl⟩ := hc
    exact hr.2 j p v hp hv
  · rcases hb with hb | ⟨e', sz', m', cs', h', xs', j, he, _, hin⟩
    · exact hb
    · cases he
      exact (no _ _ _ hin).elim

/-- The same of a row of rows. -/
theorem add_nrow {obsc obsE : Obs} {ρc : Nat → Value} (hWc : SatW w0 S0 obsc ρc S w) {y : SV} {v : Value} (hd : Den ρc (Lt obsc.length) w S y v) {e : TypeId} {sz m : Nat} {cs : List NC} {seen : List Nat} {k : List Nat → Prop} (h : hasNRow y obsc obsE e sz m cs seen k)
    (hW : SatW w0 S0 obs ρ S w) (hsrc : SrcW w obsc ρc obsE seen obs ρ) :
    ∃ seen', k seen' ∧ SatW w0 S0 (obs ++ [.nest e sz m cs none]) (updρ ρ obs.length v) S w ∧ SrcW w obsc ρc obsE seen' (obs ++ [.nest e sz m cs none]) (updρ ρ obs.length v) := by
  unfold hasNRow at h
  cases hd with
  | nil =>
    obtain ⟨⟨rfl, rfl⟩, h⟩ := h
    have hob := row_nest (ρ := ρ) (n := Lt obs.length) (w := w) (S := S) (e := e) (sz := sz) (m := 0) (ex := false) (cs := []) (x := .slice none 0 0) ⟨[], ⟨by simp, .inl ⟨rfl, rfl⟩⟩, repL_nil, fun _ h => by simp at h⟩
    refine ⟨seen, h, hW.snoc' (ob := .nest e sz 0 [] none) (x := .slice none 0 0) hob.1 (fun b hb => by cases hob.2 b hb) ⟨rfl, rfl⟩, fun i o b hi hl hb => ?_⟩
    rcases get_snoc hi with ⟨h1, h2⟩ | ⟨rfl, rfl⟩
    · rw [updρ_lt h1] at hb; exact hsrc i o b h2 hl hb
    · rw [updρ_eq] at hb; cases hob.2 b hb
  | ob hj =>
    rename_i j
    simp only [cond_false_iff, Bool.and_eq_true, Bool.not_eq_true'] at h
    obtain ⟨⟨hdead, hseen⟩, h, hk⟩ := h
    have hnot : j ∉ seen := by
      intro hin
      rw [(memN_iff j seen).2 hin] at hseen
      cases hseen
    rw [at_iff] at h
    obtain ⟨ob, hob, h⟩ := h
    have main : ObOk ρc (Lt obsc.length) w S (.nest e sz m cs none) (ρc j) → (∀ b, Owns w (.nest e sz m cs none) (ρc j) b → Owns w ob (ρc j) b) → ob.live = true →
        ∃ seen', k seen' ∧ SatW w0 S0 (obs ++ [.nest e sz m cs none]) (updρ ρ obs.length (ρc j)) S w ∧ SrcW w obsc ρc obsE seen' (obs ++ [.nest e sz m cs none]) (updρ ρ obs.length (ρc j)) := by
      intro hok hown hlive
      refine ⟨j :: seen, hk, hW.snoc' (hok.free (.inr ⟨_, _, _, _, rfl⟩)) (fun b hb => ?_) (hWc.plain j hj), fun i o b hi hl hb => ?_⟩
      · obtain ⟨o1, o2⟩ := hWc.own j _ b hob hlive (hown b hb)
        refine ⟨o1, o2, fun i oi hi hl hbi => ?_⟩
        obtain ⟨s, os, s1, s2, s3, s4⟩ := hsrc i oi b hi hl hbi
        have := hWc.dist s j os _ b s1 hob s2 hlive s3 (hown b hb)
        subst this
        rcases s4 with s4 | s4
        · exact hnot s4
        · rw [hdead] at s4; cases s4
      · rcases get_snoc hi with ⟨h1, h2⟩ | ⟨rfl, rfl⟩
        · rw [updρ_lt h1] at hb
          obtain ⟨s, os, s1, s2, s3, s4⟩ := hsrc i o b h2 hl hb
          exact ⟨s, os, s1, s2, s3, s4.imp (fun h => by simp [h]) id⟩
        · rw [updρ_eq] at hb
          exact ⟨j, _, hob, hlive, hown b hb, .inl (by simp)⟩
    split at h
    · rename_i e' sz' n' cs'
      obtain ⟨⟨h1, h2⟩, rfl, rfl⟩ := h
      have h1 : sz' = sz := Nat.eq_of_beq_eq_true h1
      have h2 : e' = e := Nat.eq_of_beq_eq_true h2
      subst h1 h2
      exact main (hWc.objs j _ hob) (fun _ h => h) rfl
    · rename_i e' sz' n' ex' cs'
      obtain ⟨⟨h1, h2⟩, rfl, rfl⟩ := h
      have h1 : sz' = sz := Nat.eq_of_beq_eq_true h1
      have h2 : e' = e := Nat.eq_of_beq_eq_true h2
      subst h1 h2
      have hrn := row_nest (hWc.objs j _ hob)
      exact main hrn.1 (fun b hb => .inl (hrn.2 b hb)) rfl
    · exact h.elim
  | _ => exact h.elim

theorem setRows_sat {X : Type} (x : X) {slc : Slots} {obsc obsE : Obs} {ρc : Nat → Value} (hAc : SatA N slc (Lt obsc.length) ρc S w a) (hWc : SatW w0 S0 obsc ρc S w) : ∀ (l : List (RowSpec X)) {sl : Slots} {obs : Obs} {ρ : Nat → Value} {seen : List Nat} {k : Slots → Obs → Prop} {kk : List Nat → Prop},
    setRows N x l sl obs k → hasRows slc obsc obsE x l seen kk → SatA N sl (Lt obs.length) ρ S w a → SatW w0 S0 obs ρ S w → SrcW w obsc ρc obsE seen obs ρ →
    ∃ sl' obs' ρ' seen', k sl' obs' ∧ kk seen' ∧ SatA N sl' (Lt obs'.length) ρ' S w a ∧ SatW w0 S0 obs' ρ' S w ∧ SrcW w obsc ρc obsE seen' obs' ρ' ∧ ∃ t, obs' = obs ++ t ∧ (∀ i, i < obs.length → ρ' i = ρ i) ∧ ∀ (j : Nat) (ty : TypeId) (l : List SV), t[j]? ≠ some (.box ty l)
  | [], sl, obs, ρ, seen, k, kk, h, hh, hA, hW, hs => ⟨sl, obs, ρ, seen, h, hh, hA, hW, hs, [], by simp, fun _ _ => rfl, by simp⟩
  | (t, e, sz, n, cs) :: r, sl, obs, ρ, seen, k, kk, h, hh, hA, hW, hs => by
    simp only [setRows, cond_false_iff, snoc_iff, fN_iff, len_eq] at h
    obtain ⟨seen', hh, hW', hs'⟩ := add_row hWc (hAc.slots t) hh hW hs
    have hA' : SatA N ((t, .ob obs.length) :: sl) (Lt (obs ++ [Ob.row e sz (n x) false (cs x)]).length) (updρ ρ obs.length (a.tmps.getD t undef)) S w a := by
      refine ⟨hA.size, hA.defs, fun t' => ?_⟩
      rw [get_cons]
      split
      · rename_i e'
        subst e'
        have : Den (updρ ρ obs.length (a.tmps.getD t undef)) (Lt (obs ++ [Ob.row e sz (n x) false (cs x)]).length) w S (.ob obs.length) (updρ ρ obs.length (a.tmps.getD t undef) obs.length) := .ob (by simp [Lt])
        rwa [updρ_eq] at this
      · exact (hA.slots t').mono (fun _ _ => rfl) (fun _ h => h) (fun i hi => by simp only [Lt, List.length_append] at *; omega) (fun i hi => updρ_lt hi)
    obtain ⟨sl2, obs2, ρ2, seen2, h1, h2, h3, h4, h5, tl, h6, h7, h8⟩ := setRows_sat x hAc hWc r h.2 hh hA' hW' hs'
    refine ⟨sl2, obs2, ρ2, seen2, h1, h2, h3, h4, h5, [Ob.row e sz (n x) false (cs x)] ++ tl, by rw [h6, List.append_assoc], fun i hi => ?_, fun j ty l hj => ?_⟩
    · rw [h7 i (by simp; omega), updρ_lt hi]
    · cases j with
      | zero => simp at hj
      | succ j => exact h8 j ty l (by simpa using hj)

theorem setNRows_sat {X : Type} (x : X) {slc : Slots} {obsc obsE : Obs} {ρc : Nat → Value} (hAc : SatA N slc (Lt obsc.length) ρc S w a) (hWc : SatW w0 S0 obsc ρc S w) : ∀ (l : List (NRowSpec X)) {sl : Slots} {obs : Obs} {ρ : Nat → Value} {seen : List Nat} {k : Slots → Obs → Prop} {kk : List Nat → Prop},
    setNRows N x l sl obs k → hasNRows slc obsc obsE x l seen kk → SatA N sl (Lt obs.length) ρ S w a → SatW w0 S0 obs ρ S w → SrcW w obsc ρc obsE seen obs ρ →
    ∃ sl' obs' ρ' seen', k sl' obs' ∧ kk seen' ∧ SatA N sl' (Lt obs'.length) ρ' S w a ∧ SatW w0 S0 obs' ρ' S w ∧ SrcW w obsc ρc obsE seen' obs' ρ' ∧ ∃ t, obs' = obs ++ t ∧ (∀ i, i < obs.length → ρ' i = ρ i) ∧ ∀ (j : Nat) (ty : TypeId) (l : List SV), t[j]? ≠ some (.box ty l)
  | [], sl, obs, ρ, seen, k, kk, h, hh, hA, hW, hs => ⟨sl, obs, ρ, seen, h, hh, hA, hW, hs, [], by simp, fun _ _ => rfl, by simp⟩
  | (t, e, sz, n, cs) :: r, sl, obs, ρ, seen, k, kk, h, hh, hA, hW, hs => by
    simp only [setNRows, cond_false_iff, snoc_iff, fN_iff, len_eq] at h
    obtain ⟨seen', hh, hW', hs'⟩ := add_nrow hWc (hAc.slots t) hh hW hs
    have hA' : SatA N ((t, .ob obs.length) :: sl) (Lt (obs ++ [Ob.nest e sz (n x) (cs x) none]).length) (updρ ρ obs.length (a.tmps.getD t undef)) S w a := by
      refine ⟨hA.size, hA.defs, fun t' => ?_⟩
      rw [get_cons]
      split
      · rename_i e'
        subst e'
        have : Den (updρ ρ obs.length (a.tmps.getD t undef)) (Lt (obs ++ [Ob.nest e sz (n x) (cs x) none]).length) w S (.ob obs.length) (updρ ρ obs.length (a.tmps.getD t undef) obs.length) := .ob (by simp [Lt])
        rwa [updρ_eq] at this
      · exact (hA.slots t').mono (fun _ _ => rfl) (fun _ h => h) (fun i hi => by simp only [Lt, List.length_append] at *; omega) (fun i hi => updρ_lt hi)
    obtain ⟨sl2, obs2, ρ2, seen2, h1, h2, h3, h4, h5, tl, h6, h7, h8⟩ := setNRows_sat x hAc hWc r h.2 hh hA' hW' hs'
    refine ⟨sl2, obs2, ρ2, seen2, h1, h2, h3, h4, h5, [Ob.nest e sz (n x) (cs x) none] ++ tl, by rw [h6, List.append_assoc], fun i hi => ?_, fun j ty l hj => ?_⟩
    · rw [h7 i (by simp; omega), updρ_lt hi]
    · cases j with
      | zero => simp at hj
      | succ j => exact h8 j ty l (by simpa using hj)

/-- The value in a variable's cell. -/
theorem cell_den {obsc : Obs} {ρc : Nat → Value} (hWc : SatW w0 S0 obsc ρc S w) {i o : Nat} {t : TypeId} {xs : List Value} {b : Nat} {v : Value} (hb : ρc i = .pointer (some ⟨b, 0, none⟩)) (hh : w.heap[b]? = some (.cells xs.toArray t (0, 0))) (hv : xs[o]? = some v) : Den ρc (Lt obsc.length) w S (cellAt obsc i o) v := by
  unfold cellAt
  split
  · rename_i t' cs hi
    obtain ⟨b', xs', hx, hh', hd, _⟩ := hWc.objs i _ hi
    rw [hb] at hx
    cases hx
    rw [hh] at hh'
    simp only [Option.some.injEq, Obj.cells.injEq] at hh'
    have : xs = xs' := by simpa using congrArg Array.toList hh'.1
    subst this
    cases hc : cs[o]? with
    | none => rw [List.getD_eq_getElem?_getD, hc]; exact .any _
    | some p => rw [List.getD_eq_getElem?_getD, hc]; exact hd.2 o p v hc hv
  · exact .any _

theorem setCells_sat {X : Type} (x : X) {obsc obsE : Obs} {ρc : Nat → Value} (hWc : SatW w0 S0 obsc ρc S w) (hlen : obsE.length ≤ obsc.length) : ∀ (l : List (CellSpec X)) {obs : Obs} {ρ : Nat → Value} {seen : List Nat} {k : Obs → Prop},
    setCells x l obs k → hasCells obsc obsE x l seen → SatA N sl (Lt obs.length) ρ S w a → SatW w0 S0 obs ρ S w → SrcW w obsc ρc obsE seen obs ρ → (∀ (i : Nat) (t : TypeId) (cs : List SV), obs[i]? = some (.box t cs) → i < obsE.length ∧ ρ i = ρc i ∧ (∃ c', obsc[i]? = some c' ∧ c'.live = true)) →
    ∃ obs' ρ', k obs' ∧ SatA N sl (Lt obs'.length) ρ' S w a ∧ SatW w0 S0 obs' ρ' S w
  | [], obs, ρ, seen, k, h, hh, hA, hW, hs, _ => ⟨obs, ρ, (fL_iff _ _).1 h, hA, hW⟩
  | (i, o, e, sz, n, cs) :: r, obs, ρ, seen, k, h, hh, hA, hW, hs, hbx => by
    simp only [setCells, snoc_iff, fN_iff, len_eq] at h
    simp only [hasCells] at hh
    -- the value in the cell, or any value where there is no such cell
    have hval : ∃ v, Den ρc (Lt obsc.length) w S (cellAt obsc i o) v ∧ ∀ (t : TypeId) (cs' : List SV) (xs : List Value) (b : Nat) (u : Value), obs[i]? = some (.box t cs') → ρ i = .pointer (some ⟨b, 0, none⟩) → w.heap[b]? = some (.cells xs.toArray t (0, 0)) → xs[o]? = some u → u = v := by
      cases hi : obs[i]? with
      | none =>
        have hv : ∃ v, Den ρc (Lt obsc.length) w S (cellAt obsc i o) v := by
          cases hc : cellAt obsc i o with
          | nil => exact ⟨_, .nil⟩
          | ob j =>
            have : j < obsc.length := by
              rw [hc] at hh
              simp only [hasRow, cond_false_iff] at hh
              obtain ⟨_, h2, _⟩ := hh
              rw [at_iff] at h2
              obtain ⟨ob, h3, _⟩ := h2
              exact (List.getElem?_eq_some_iff.1 h3).1
            exact ⟨_, .ob this⟩
          | _ => rw [hc] at hh; exact hh.elim
        obtain ⟨v, hv⟩ := hv
        exact ⟨v, hv, fun t cs' xs b u h1 => by cases h1⟩
      | some ob =>
        by_cases hex : ∃ (t : TypeId) (cs' : List SV) (xs : List Value) (b : Nat) (u : Value), ob = .box t cs' ∧ ρ i = .pointer (some ⟨b, 0, none⟩) ∧ w.heap[b]? = some (.cells xs.toArray t (0, 0)) ∧ xs[o]? = some u
        · obtain ⟨t, cs', xs, b, u, rfl, h1, h2, h3⟩ := hex
          obtain ⟨_, h4, _⟩ := hbx i t cs' hi
          refine ⟨u, cell_den hWc (by rw [← h4]; exact h1) h2 h3, fun t2 cs2 xs2 b2 u2 e1 e2 e3 e4 => ?_⟩
          rw [h1] at e2
          cases e2
          rw [h2] at e3
          simp only [Option.some.injEq, Obj.cells.injEq] at e3
          have : xs = xs2 := by simpa using congrArg Array.toList e3.1
          subst this
          rw [h3] at e4
          cases e4
          rfl
        · have hv : ∃ v, Den ρc (Lt obsc.length) w S (cellAt obsc i o) v := by
            cases hc : cellAt obsc i o with
            | nil => exact ⟨_, .nil⟩
            | ob j =>
              have : j < obsc.length := by
                rw [hc] at hh
                simp only [hasRow, cond_false_iff] at hh
                obtain ⟨_, h2, _⟩ := hh
                rw [at_iff] at h2
                obtain ⟨ob, h3, _⟩ := h2
                exact (List.getElem?_eq_some_iff.1 h3).1
              exact ⟨_, .ob this⟩
            | _ => rw [hc] at hh; exact hh.elim
          obtain ⟨v, hv⟩ := hv
          refine ⟨v, hv, fun t cs' xs b u h1 h2 h3 h4 => absurd ⟨t, cs', xs, b, u, ?_, h2, h3, h4⟩ hex⟩
          simpa using h1
    obtain ⟨v, hd, huniq⟩ := hval
    obtain ⟨seen', hh, hW', hs'⟩ := add_row hWc hd hh hW hs
    have hden : Den (updρ ρ obs.length v) (Lt (obs ++ [Ob.row e sz (n x) false (cs x)]).length) w S (.ob obs.length) v := by
      have : Den (updρ ρ obs.length v) (Lt (obs ++ [Ob.row e sz (n x) false (cs x)]).length) w S (.ob obs.length) (updρ ρ obs.length v obs.length) := .ob (by simp [Lt])
      rwa [updρ_eq] at this
    have boxlt : ∀ (j : Nat) (t : TypeId) (cs' : List SV), (obs ++ [Ob.row e sz (n x) false (cs x)])[j]? = some (.box t cs') → j < obs.length ∧ obs[j]? = some (.box t cs') := by
      intro j t cs' hj
      rcases get_snoc hj with h | ⟨_, h⟩
      · exact h
      · cases h
    have hW2 := hW'.cellAs i o (.ob obs.length) (by
      intro t cs' xs b u h1 h2 h3 h4
      obtain ⟨hlt, h1⟩ := boxlt i t cs' h1
      rw [updρ_lt hlt] at h2
      rw [huniq t cs' xs b u h1 h2 h3 h4]
      exact hden)
    have hA2 : SatA N sl (Lt (setAt i o (.ob obs.length) (obs ++ [Ob.row e sz (n x) false (cs x)])).length) (updρ ρ obs.length v) S w a := by
      rw [setAt_length]
      exact hA.mono (fun _ _ => rfl) (fun _ h => h) (fun i hi => by simp only [Lt, List.length_append] at *; omega) (fun i hi => updρ_lt hi)
    have back : ∀ (j : Nat) (c : Ob), (setAt i o (.ob obs.length) (obs ++ [Ob.row e sz (n x) false (cs x)]))[j]? = some c → ∃ c', (obs ++ [Ob.row e sz (n x) false (cs x)])[j]? = some c' ∧ c.live = c'.live ∧ (∀ t l, c = .box t l → ∃ l', c' = .box t l') ∧ ∀ x b, Owns w c x b → Owns w c' x b := by
      intro j c hc
      rw [setAt_get] at hc
      split at hc
      · rw [Option.map_eq_some_iff] at hc
        obtain ⟨c', h3, rfl⟩ := hc
        refine ⟨c', h3, setCell_live _ _ _, fun t l hl => ?_, fun x b hb => owns_setCell hb⟩
        cases c' <;> simp only [setCell] at hl <;> first | (cases hl; done) | skip
        cases hl
        exact ⟨_, rfl⟩
      · exact ⟨c, hc, rfl, fun t l hl => ⟨l, hl⟩, fun _ _ h => h⟩
    refine setCells_sat x hWc hlen r h hh hA2 hW2 ?_ ?_
    · intro j c b hc hl hb
      obtain ⟨c', h1, h2, _, h3⟩ := back j c hc
      exact hs' j c' b h1 (by rw [← h2]; exact hl) (h3 _ b hb)
    · intro j t cs' hj
      obtain ⟨c', h1, _, h2, _⟩ := back j _ hj
      obtain ⟨l', rfl⟩ := h2 t cs' rfl
      obtain ⟨h3, h4⟩ := boxlt j t l' h1
      obtain ⟨h5, h6, h7⟩ := hbx j t l' h4
      exact ⟨h5, by rw [updρ_lt h3]; exact h6, h7⟩

/-- The state at a loop's head, told as the invariant has it. -/
theorem rehead {X : Type} (x : X) (L : LSpec X) {slc sl1 : Slots} {obsc obsE : Obs} {ρc : Nat → Value} (hE : ∀ (i : Nat) (ob : Ob), obsE[i]? = some ob → RefsOb (Lt obsE.length) ob) (hS1 : ∀ t, RefsIn (Lt obsE.length) (sl1.get t)) (hpin : ∀ i v, S0.pin i = some v → i < obsE.length)
    (hAc : SatA N slc (Lt obsc.length) ρc S w a) (hWc : SatW w0 S0 obsc ρc S w) (hsub : ∀ t, sl1.get t = slc.get t ∨ sl1.get t = .any) (hat : isAt L obsE x slc obsc) {k : Slots → Obs → Prop}
    (hk : fL (headObs L x obsE) fun obs1 => putAll N x L.slots sl1 fun sl2 => setRows N x L.rows sl2 obs1 fun sl3 obs2 => setNRows N x L.nrows sl3 obs2 fun sl4 obs3 => setCells x L.cells obs3 fun obs4 => k sl4 obs4) :
    ∃ sl4 obs4 ρ4, k sl4 obs4 ∧ SatA N sl4 (Lt obs4.length) ρ4 S w a ∧ SatW w0 S0 obs4 ρ4 S w := by
  obtain ⟨hall, hrows, hsame, hinv⟩ := hat
  rw [fL_iff] at hk
  obtain ⟨hl, hg⟩ := sameObs_get hsame
  have hlen : (headObs L x obsE).length = obsE.length := by rw [headObs, mask_length, setNs_length, setBoxes_length]
  have hbl : ∀ (i : Nat) (o : Ob), (setNs x L.nboxes 0 (setBoxes x L.boxes 0 obsE))[i]? = some o → RefsOb (Lt obsE.length) o ∧ ∃ o', obsE[i]? = some o' ∧ o.live = o'.live := by
    intro i o ho
    rw [setNs_get, Option.map_eq_some_iff] at ho
    obtain ⟨o1, h1, rfl⟩ := ho
    rw [setBoxes_get, Option.map_eq_some_iff] at h1
    obtain ⟨o2, h2, rfl⟩ := h1
    exact ⟨overN_refs _ _ _ _ (overB_refs _ _ _ _ (hE i o2 h2)), o2, h2, by rw [overN_live, overB_live]⟩
  have hW1 : SatW w0 S0 (headObs L x obsE) ρc S w := (hWc.mask L.cells).shrink hl hg (by rw [hlen]; exact mask_refs _ _ fun i o ho => (hbl i o ho).1) (by rw [hlen]; exact hpin)
  have hA1 : SatA N sl1 (Lt (headObs L x obsE).length) ρc S w a := by
    rw [hlen]
    refine ⟨hAc.size, hAc.defs, fun t => ?_⟩
    rcases hsub t with h | h
    · exact (show Den ρc (Lt obsc.length) w S (sl1.get t) _ by rw [h]; exact hAc.slots t).restrict (hS1 t)
    · rw [h]; exact .any _
  obtain ⟨sl2, hk, hA2⟩ := putAll_sat x L.slots hk hA1 (hasAll_rep x hAc hall)
  have live : ∀ (i : Nat) (o : Ob), (headObs L x obsE)[i]? = some o → o.live = true → deadAt obsE i = false ∧ ∃ c', obsc[i]? = some c' ∧ c'.live = true ∧ ∀ b, Owns w o (ρc i) b → Owns w c' (ρc i) b := by
    intro i o hi hlv
    obtain ⟨c1, h1, h2⟩ := mask_dead _ _ i o hi
    obtain ⟨_, c2, h3, h4⟩ := hbl i c1 h1
    obtain ⟨c3, h5, h6, h7⟩ := mask_owns L.cells obsc i o (hg i o hi hlv)
    exact ⟨deadAt_of_live h3 (by rw [← h4, ← h2]; exact hlv), c3, h5, by rw [← h6]; exact hlv, fun b hb => h7 w (ρc i) b hb⟩
  have hsrc : SrcW w obsc ρc obsE [] (headObs L x obsE) ρc := by
    intro i o b hi hlv hb
    obtain ⟨h1, c, h2, h3, h4⟩ := live i o hi hlv
    exact ⟨i, c, h2, h3, h4 b hb, .inr h1⟩
  obtain ⟨sl3, obs2, ρ2, seen, hk, hnr, hA3, hW3, hs3, tl, rfl, hρ2, hnobox⟩ := setRows_sat x hAc hWc L.rows hk hrows hA2 hW1 hsrc
  obtain ⟨sl4, obs3, ρ3, seen', hk, hcells, hA4, hW4, hs4, tl', rfl, hρ3, hnobox'⟩ := setNRows_sat x hAc hWc L.nrows hk hnr hA3 hW3 hs3
  have hlen2 : obsE.length ≤ obsc.length := by rw [← hlen, ← mask_length L.cells obsc]; exact hl
  obtain ⟨obs4, ρ4, hk, hA5, hW5⟩ := setCells_sat x hWc hlen2 L.cells hk hcells hA4 hW4 hs4 (by
    intro i t cs hi
    rcases get_app hi with ⟨h1, h2⟩ | ⟨j, rfl, h2⟩
    · rcases get_app h2 with ⟨h3, h4⟩ | ⟨j, rfl, h4⟩
      · obtain ⟨_, c, h5, h6, _⟩ := live i _ h4 rfl
        exact ⟨by rw [← hlen]; exact h3, by rw [hρ3 i h1, hρ2 i h3], c, h5, h6⟩
      · exact (hnobox j t cs h4).elim
    · exact (hnobox' j t cs h2).elim)
  exact ⟨sl4, obs4, ρ4, hk, hA5, hW5⟩

end
end Go.Pv
