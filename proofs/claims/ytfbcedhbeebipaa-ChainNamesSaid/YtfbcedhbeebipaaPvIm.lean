/- Loops. -/
import Derived.Test.YtfbcedhbeebipaaPvH
import Derived.Deep.LoopGhost
import Derived.ProofKit
import Derived.Deep.Slices
import Derived.OpenShut
import Derived.ChangeOld
import Derived.Below
import Derived.Carry
namespace Go.Pv
open Go.Vc
open Go.RowKit (Below)

def clearL (W : List Nat) (sl : Slots) : Slots := sl.filter fun p => !memN p.1 W

theorem clear_iff (W : List Nat) (sl : Slots) (k : Slots → Prop) : clear W sl k ↔ k (clearL W sl) := by
  induction sl generalizing k with
  | nil => exact Iff.rfl
  | cons p r ih =>
    obtain ⟨t, x⟩ := p
    cases h : memN t W <;> simp [clear, clearL, h, ih]

theorem get_clearL (W : List Nat) (sl : Slots) (t : Nat) : (clearL W sl).get t = if t ∈ W then .any else sl.get t := by
  induction sl with
  | nil => simp [clearL, Slots.get]
  | cons p r ih =>
    obtain ⟨d, x⟩ := p
    by_cases h : memN d W = true
    · have : clearL W ((d, x) :: r) = clearL W r := by simp [clearL, h]
      rw [this, ih, get_cons]
      rw [memN_iff] at h
      by_cases hdt : d = t
      · subst hdt; simp [h]
      · simp [hdt]
    · have : clearL W ((d, x) :: r) = (d, x) :: clearL W r := by simp [clearL, h]
      rw [this, get_cons, get_cons, ih]
      rw [memN_iff] at h
      by_cases hdt : d = t
      · subst hdt; simp [h]
      · simp [hdt]

/-- A slot behind entries of other slots. -/
theorem get_append_other {sl : Slots} {t : Nat} : ∀ {a : Slots}, (∀ p ∈ a, p.1 ≠ t) → Slots.get (a ++ sl) t = Slots.get sl t
  | [], _ => rfl
  | (d, x) :: r, h => by
    rw [List.cons_append, get_cons, if_neg (h (d, x) (by simp)), get_append_other fun p hp => h p (by simp [hp])]

theorem allIn_spec {W : List Nat} : ∀ {sl : Slots}, allIn W sl = true → ∀ p ∈ sl, p.1 ∈ W
  | [], _, p, h => by cases h
  | (t, x) :: r, hb, p, h => by
    simp only [allIn, Bool.and_eq_true, memN_iff] at hb
    rcases List.mem_cons.1 h with rfl | h
    · exact hb.1
    · exact allIn_spec hb.2 p h

section
variable {w0 : World} {S0 : Fr} {N : Nat} {obs obs' : Obs} {ρ : Nat → Value} {S : Nat → Prop} {w : World} {a : Act} {sl : Slots}

theorem setAt_length (i o : Nat) (y : SV) : ∀ obs : Obs, (setAt i o y obs).length = obs.length := by
  intro obs
  induction obs generalizing i with
  | nil => cases i <;> simp [setAt]
  | cons x r ih => cases i <;> simp [setAt, ih]

theorem setAt_get (i o : Nat) (y : SV) : ∀ (obs : Obs) (j : Nat), (setAt i o y obs)[j]? = if j = i then (obs[j]?).map (setCell o y) else obs[j]? := by
  intro obs
  induction obs generalizing i with
  | nil => intro j; simp [setAt]
  | cons x r ih =>
    intro j
    cases i with
    | zero => cases j <;> simp [setAt]
    | succ i =>
      cases j with
      | zero => simp [setAt]
      | succ j => simp [setAt, ih]

theorem owns_setCell {o : Nat} {y : SV} {ob : Ob} {x : Value} {b : Nat} (h : Owns w (setCell o y ob) x b) : Owns w ob x b := by
  cases ob <;> first | exact h | exact .inl (h.flat rfl)

theorem setCell_live (o : Nat) (y : SV) (ob : Ob) : (setCell o y ob).live = ob.live := by cases ob <;> rfl

/-- A cell of a variable is told in another way. -/
theorem SatW.cellAs (h : SatW w0 S0 obs ρ S w) (i o : Nat) (y : SV) (hy : ∀ (t : TypeId) (cs : List SV) (xs : List Value) (b : Nat) (v : Value), obs[i]? = some (.box t cs) → ρ i = .pointer (some ⟨b, 0, none⟩) → w.heap[b]? = some (.cells xs.toArray t (0, 0)) → xs[o]? = some v → Den ρ (Lt obs.length) w S y v) : SatW w0 S0 (setAt i o y obs) ρ S w := by
  have get : ∀ (j : Nat) (c : Ob), (setAt i o y obs)[j]? = some c → ∃ c', obs[j]? = some c' ∧ c.live = c'.live ∧ ((j ≠ i ∧ c = c') ∨ (j = i ∧ c = setCell o y c')) := by
    intro j c hc
    rw [setAt_get] at hc
    split at hc
    · rename_i e
      rw [Option.map_eq_some_iff] at hc
      obtain ⟨c', h1, h2⟩ := hc
      exact ⟨c', h1, by rw [← h2, setCell_live], .inr ⟨e, h2.symm⟩⟩
    · rename_i e; exact ⟨c, hc, rfl, .inl ⟨e, rfl⟩⟩
  have back : ∀ {c c' : Ob} {j b : Nat}, ((j ≠ i ∧ c = c') ∨ (j = i ∧ c = setCell o y c')) → Owns w c (ρ j) b → Owns w c' (ρ j) b := by
    rintro c c' j b (⟨_, rfl⟩ | ⟨_, rfl⟩) h
    · exact h
    · exact owns_setCell h
  refine ⟨fun j c hc => ?_, fun j k oj ok b hj hk lj lk bj bk => ?_, fun j c b hc hl hb => ?_, h.sub, h.lt, h.new, h.le, by rw [setAt_length]; exact h.plain, by rw [setAt_length]; exact h.pins⟩
  · rw [setAt_length]
    obtain ⟨c', h1, _, h2⟩ := get j c hc
    have hob := h.objs j c' h1
    rcases h2 with ⟨_, rfl⟩ | ⟨rfl, rfl⟩
    · exact hob
    · cases c' with
      | box t cs =>
        obtain ⟨b, xs, hx, hb, hd, h3⟩ := hob
        refine ⟨b, xs, hx, hb, ⟨by simpa using hd.1, fun k p z hp hz => ?_⟩, h3⟩
        by_cases hk : o = k
        · subst hk
          have hlt : o < cs.length := by simpa using (List.getElem?_eq_some_iff.1 hp).1
          rw [List.getElem?_set_self hlt] at hp
          cases hp
          exact hy t cs xs b z h1 hx hb hz
        · rw [List.getElem?_set_ne hk] at hp
          exact hd.2 k p z hp hz
      | _ => exact hob
  · obtain ⟨cj, h1, h2, g1⟩ := get j oj hj
    obtain ⟨ck, h3, h4, g2⟩ := get k ok hk
    exact h.dist j k cj ck b h1 h3 (by rw [← h2]; exact lj) (by rw [← h4]; exact lk) (back g1 bj) (back g2 bk)
  · obtain ⟨c', h1, h2, g1⟩ := get j c hc
    exact h.own j c' b h1 (by rw [← h2]; exact hl) (back g1 hb)

theorem SatW.mask {X : Type} (h : SatW w0 S0 obs ρ S w) : ∀ (l : List (CellSpec X)), SatW w0 S0 (mask l obs) ρ S w := by
  intro l
  induction l generalizing obs with
  | nil => exact h
  | cons c r ih =>
    obtain ⟨i, o, q⟩ := c
    exact ih (h.cellAs i o .any (fun _ _ _ _ v _ _ _ _ => .any v))

theorem mask_length {X : Type} : ∀ (l : List (CellSpec X)) (obs : Obs), (mask l obs).length = obs.length
  | [], _ => rfl
  | (i, o, q) :: r, obs => by rw [Pv.mask, mask_length r, setAt_length]

theorem mask_dead {X : Type} : ∀ (l : List (CellSpec X)) (obs : Obs) (j : Nat) (c : Ob), (mask l obs)[j]? = some c → ∃ c', obs[j]? = some c' ∧ c.live = c'.live
  | [], _, j, c, h => ⟨c, h, rfl⟩
  | (i, o, q) :: r, obs, j, c, h => by
    obtain ⟨c1, h1, h2⟩ := mask_dead r _ j c h
    rw [setAt_get] at h1
    split at h1
    · rw [Option.map_eq_some_iff] at h1
      obtain ⟨c', h3, h4⟩ := h1
      exact ⟨c', h3, by rw [h2, ← h4, setCell_live]⟩
    · exact ⟨c1, h1, h2⟩

theorem mask_owns {X : Type} : ∀ (l : List (CellSpec X)) (obs : Obs) (j : Nat) (c : Ob), (mask l obs)[j]? = some c → ∃ c', obs[j]? = some c' ∧ c.live = c'.live ∧ ∀ w x b, Owns w c x b → Owns w c' x b
  | [], _, j, c, h => ⟨c, h, rfl, fun _ _ _ h => h⟩
  | (i, o, q) :: r, obs, j, c, h => by
    obtain ⟨c1, h1, h2, h5⟩ := mask_owns r _ j c h
    rw [setAt_get] at h1
    split at h1
    · rw [Option.map_eq_some_iff] at h1
      obtain ⟨c', h3, h4⟩ := h1
      exact ⟨c', h3, by rw [h2, ← h4, setCell_live], fun w x b hb => by have := h5 w x b hb; rw [← h4] at this; exact owns_setCell this⟩
    · exact ⟨c1, h1, h2, h5⟩

theorem refs_setCell {B : Nat → Prop} {o : Nat} {y : SV} {ob : Ob} (h : RefsOb B ob) (hy : RefsIn B y) : RefsOb B (setCell o y ob) := by
  cases ob with
  | box t cs =>
    intro k p hp
    by_cases hk : o = k
    · subst hk
      have hlt : o < cs.length := by simpa using (List.getElem?_eq_some_iff.1 hp).1
      rw [List.getElem?_set_self hlt] at hp
      cases hp
      exact hy
    · rw [List.getElem?_set_ne hk] at hp
      exact h k p hp
  | nest e sz m cs hole => exact h
  | _ => trivial

theorem mask_refs {X : Type} {B : Nat → Prop} : ∀ (l : List (CellSpec X)) (obs : Obs), (∀ (i : Nat) (o : Ob), obs[i]? = some o → RefsOb B o) → ∀ (i : Nat) (o : Ob), (mask l obs)[i]? = some o → RefsOb B o
  | [], _, h => h
  | (i, o, q) :: r, obs, h => mask_refs r _ (by
    intro j c hc
    rw [setAt_get] at hc
    split at hc
    · rw [Option.map_eq_some_iff] at hc
      obtain ⟨c', h3, rfl⟩ := hc
      exact refs_setCell (h j c' h3) .any
    · exact h j c hc)

theorem overB_live {X : Type} (x : X) (bx : List (Nat × (X → List PV))) (i : Nat) (o : Ob) : (overB x bx i o).live = o.live := by
  induction bx with
  | nil => rfl
  | cons p r ih =>
    obtain ⟨j, l⟩ := p
    simp only [overB]
    cases Nat.beq j i
    · exact ih
    · cases o <;> rfl

theorem overB_refs {X : Type} {B : Nat → Prop} (x : X) (bx : List (Nat × (X → List PV))) (i : Nat) (o : Ob) (h : RefsOb B o) : RefsOb B (overB x bx i o) := by
  induction bx with
  | nil => exact h
  | cons p r ih =>
    obtain ⟨j, l⟩ := p
    simp only [overB]
    cases Nat.beq j i
    · exact ih
    · cases o with
      | box t cs =>
        intro k p hp
        rw [mapP_eq, List.getElem?_map, Option.map_eq_some_iff] at hp
        obtain ⟨q, _, rfl⟩ := hp
        exact .p q
      | nest e sz m cs hole => exact h
      | _ => trivial

theorem overN_live {X : Type} (x : X) (bx : List (Nat × (X → List NC))) (i : Nat) (o : Ob) : (overN x bx i o).live = o.live := by
  induction bx with
  | nil => rfl
  | cons p r ih =>
    obtain ⟨j, l⟩ := p
    simp only [overN]
    cases Nat.beq j i
    · exact ih
    · cases o <;> rfl

theorem overN_refs {X : Type} {B : Nat → Prop} (x : X) (bx : List (Nat × (X → List NC))) (i : Nat) (o : Ob) (h : RefsOb B o) : RefsOb B (overN x bx i o) := by
  induction bx with
  | nil => exact h
  | cons p r ih =>
    obtain ⟨j, l⟩ := p
    simp only [overN]
    cases Nat.beq j i
    · exact ih
    · cases o <;> exact h

theorem setNs_length {X : Type} (x : X) (bx : List (Nat × (X → List NC))) : ∀ (i : Nat) (obs : Obs), (setNs x bx i obs).length = obs.length
  | _, [] => rfl
  | i, o :: r => by simp [setNs, setNs_length x bx (i + 1) r]

theorem setNs_get {X : Type} (x : X) (bx : List (Nat × (X → List NC))) : ∀ (i : Nat) (obs : Obs) (j : Nat), (setNs x bx i obs)[j]? = (obs[j]?).map (overN x bx (i + j))
  | _, [], j => by simp [setNs]
  | i, o :: r, j => by
    cases j with
    | zero => simp [setNs]
    | succ j => simp [setNs, setNs_get x bx (i + 1) r j, Nat.add_assoc, Nat.add_comm 1 j]

theorem setBoxes_length {X : Type} (x : X) (bx : List (Nat × (X → List PV))) : ∀ (i : Nat) (obs : Obs), (setBoxes x bx i obs).length = obs.length
  | _, [] => rfl
  | i, o :: r => by simp [setBoxes, setBoxes_length x bx (i + 1) r]

theorem setBoxes_get {X : Type} (x : X) (bx : List (Nat × (X → List PV))) : ∀ (i : Nat) (obs : Obs) (j : Nat), (setBoxes x bx i obs)[j]? = (obs[j]?).map (overB x bx (i + j))
  | _, [], j => by simp [setBoxes]
  | i, o :: r, j => by
    cases j with
    | zero => simp [setBoxes]
    | succ j => simp [setBoxes, setBoxes_get x bx (i + 1) r j, Nat.add_assoc, Nat.add_comm 1 j]

theorem sameOb_eq {o c : Ob} (h : sameOb o c) (hl : o.live = true) : c = o := by
  cases o with
  | box t cs =>
    cases c <;> simp only [sameOb] at h <;> first | exact h.elim | skip
    rw [cond_false_iff] at h
    rw [Nat.eq_of_beq_eq_true h.1, h.2]
  | arr t cs =>
    cases c <;> simp only [sameOb] at h <;> first | exact h.elim | skip
    rw [cond_false_iff] at h
    rw [Nat.eq_of_beq_eq_true h.1, h.2]
  | row e sz n ex cs =>
    cases c <;> simp only [sameOb] at h <;> first | exact h.elim | skip
    rw [cond_false_iff, Bool.and_eq_true, Bool.and_eq_true, beq_iff_eq] at h
    obtain ⟨⟨⟨h1, h2⟩, h3⟩, h4, h5⟩ := h
    rw [Nat.eq_of_beq_eq_true h1, Nat.eq_of_beq_eq_true h2, h3, h4, h5]
  | nest e sz n cs hole =>
    cases c <;> simp only [sameOb] at h <;> first | exact h.elim | skip
    rw [cond_false_iff, Bool.and_eq_true] at h
    obtain ⟨⟨h1, h2⟩, h3, h4, h5⟩ := h
    rw [Nat.eq_of_beq_eq_true h1, Nat.eq_of_beq_eq_true h2, h3, h4, h5]
  | dead => cases hl

theorem sameObs_get : ∀ {l c : Obs}, sameObs l c → l.length ≤ c.length ∧ ∀ (i : Nat) (o : Ob), l[i]? = some o → o.live = true → c[i]? = some o
  | [], c, _ => ⟨by simp, fun i o h => by simp at h⟩
  | _ :: _, [], h => h.elim
  | o :: r, d :: s, h => by
    obtain ⟨h1, h2⟩ := sameObs_get h.2
    refine ⟨by simp; omega, fun i o' hi hl => ?_⟩
    cases i with
    | zero => simp at hi; subst hi; simp [sameOb_eq h.1 hl]
    | succ i => simpa using h2 i o' (by simpa using hi) hl

theorem putAll_sat {X : Type} (x : X) {n : Nat → Prop} : ∀ (l : List (Nat × (X → PV))) {sl : Slots} {k : Slots → Prop}, putAll N x l sl k → SatA N sl n ρ S w a → (∀ p ∈ l, Rep w S (p.2 x) (a.tmps.getD p.1 undef)) → ∃ sl', k sl' ∧ SatA N sl' n ρ S w a
  | [], sl, k, h, hA, _ => ⟨sl, h, hA⟩
  | (t, y) :: r, sl, k, h, hA, hr => by
    simp only [putAll, cond_false_iff] at h
    refine putAll_sat x r h.2 ⟨hA.size, hA.defs, fun t' => ?_⟩ fun p hp => hr p (by simp [hp])
    rw [get_cons]
    split
    · rename_i e; subst e; exact .p (hr (t, y) (by simp))
    · exact hA.slots t'

theorem hasAll_rep {X : Type} (x : X) {n : Nat → Prop} (hA : SatA N sl n ρ S w a) : ∀ {l : List (Nat × (X → PV))}, hasAll sl x l → ∀ p ∈ l, Rep w S (p.2 x) (a.tmps.getD p.1 undef)
  | [], _, p, hp => by cases hp
  | (t, y) :: r, h, p, hp => by
    rcases List.mem_cons.1 hp with rfl | hp
    · have hs := hA.slots t
      have h := h.1
      generalize hv : a.tmps.getD t undef = v at hs
      generalize sl.get t = sv at hs h
      cases hs with
      | p hr => show Rep w S (y x) _; rw [← h]; exact hr
      | kb b => show Rep w S (y x) _; rw [← h]; exact .v _
      | nil => show Rep w S (y x) _; rw [← h]; exact Rep.nil0 _
      | _ => exact h.elim
    · exact hasAll_rep x hA h.2 p hp

/-- Where the objects come from. -/
def SrcW (w : World) (obsc : Obs) (ρc : Nat → Value) (obsE : Obs) (seen : List Nat) (obs : Obs) (ρ : Nat → Value) : Prop :=
  ∀ (i : Nat) (o : Ob) (b : Nat), obs[i]? = some o → o.live = true → Owns w o (ρ i) b → ∃ (s : Nat) (os : Ob), obsc[s]? = some os ∧ os.live = true ∧ Owns w os (ρc s) b ∧ (s ∈ seen ∨ deadAt obsE s = false)

theorem deadAt_of_live {obs : Obs} {i : Nat} {o : Ob} (h : obs[i]? = some o) (hl : o.live = true) : deadAt obs i = false := by simp [deadAt, h, hl]

/-- A row that a loop carries, under its new number. -/
theorem add_row {obsc obsE : Obs} {ρc : Nat → Value} (hWc : SatW w0 S0 obsc ρc S w) {y : SV} {v : Value} (hd : Den ρc (Lt obsc.length) w S y v) {e : TypeId} {sz m : Nat} {cs : List PV} {seen : List Nat} {k : List Nat → Prop} (h : hasRow y obsc obsE e sz m cs seen k)
    (hW : SatW w0 S0 obs ρ S w) (hsrc : SrcW w obsc ρc obsE seen obs ρ) :
    ∃ seen', k seen' ∧ SatW w0 S0 (obs ++ [.row e sz m false cs]) (updρ ρ obs.length v) S w ∧ SrcW w obsc ρc obsE seen' (obs ++ [.row e sz m false cs]) (updρ ρ obs.length v) := by
  unfold hasRow at h
  cases hd with
  | nil =>
    obtain ⟨⟨rfl, rfl⟩, h⟩ := h
    refine ⟨seen, h, hW.snoc' (ob := .row e sz 0 false []) (x := .slice none 0 0) ⟨[], ⟨by simp, .inl ⟨rfl, rfl⟩⟩, repL_nil, fun _ h => by simp at h⟩ (fun b hb => by cases hb.flat rfl) ⟨rfl, rfl⟩, fun i o b hi hl hb => ?_⟩
    rcases get_snoc hi with ⟨h1, h2⟩ | ⟨rfl, rfl⟩
    · rw [updρ_lt h1] at hb; exact hsrc i o b h2 hl hb
    · rw [updρ_eq] at hb; cases hb.flat rfl
  | ob hj =>
    rename_i j
    simp only [cond_false_iff, Bool.and_eq_true, Bool.not_eq_true'] at h
    obtain ⟨⟨hdead, hseen⟩, h, hk⟩ := h
    have hnot : j ∉ seen := by
      intro hin
      rw [(memN_iff j seen).2 hin] at hseen
      cases hseen
    rw [at_iff] at h
    obtain ⟨ob, hob, h⟩ := h
    cases ob <;> simp only at h <;> first | exact h.elim | skip
    rename_i e' sz' n' ex' cs'
    obtain ⟨⟨h1, h2⟩, rfl, rfl⟩ := h
    have h1 : sz' = sz := Nat.eq_of_beq_eq_true h1
    have h2 : e' = e := Nat.eq_of_beq_eq_true h2
    subst h1 h2
    obtain ⟨xs, hrow, hr, ho⟩ := hWc.objs j _ hob
    have hrow' : RowOk w e' sz' n' xs false (ρc j) := by
      refine ⟨hrow.1, ?_⟩
      rcases hrow.2 with h | ⟨g, cap, cur, r1, r2, r3, r4, r5, r6, _⟩
      · exact .inl h
      · exact .inr ⟨g, cap, cur, r1, r2, r3, r4, r5, r6, by simp⟩
    refine ⟨j :: seen, hk, hW.snoc' ⟨xs, hrow', hr, ho⟩ (fun b hb => ?_) (hWc.plain j hj), fun i o b hi hl hb => ?_⟩
    · have hb := hb.flat rfl
      obtain ⟨o1, o2⟩ := hWc.own j _ b hob rfl (.inl hb)
      refine ⟨o1, o2, fun i oi hi hl hbi => ?_⟩
      obtain ⟨s, os, s1, s2, s3, s4⟩ := hsrc i oi b hi hl hbi
      have := hWc.dist s j os _ b s1 hob s2 rfl s3 (.inl hb)
      subst this
      rcases s4 with s4 | s4
      · exact hnot s4
      · rw [hdead] at s4; cases s4
    · rcases get_snoc hi with ⟨h1, h2⟩ | ⟨rfl, rfl⟩
      · rw [updρ_lt h1] at hb
        obtain ⟨s, os, s1, s2, s3, s4⟩ := hsrc i o b h2 hl hb
        exact ⟨s, os, s1, s2, s3, s4.imp (fun h => by simp [h]) id⟩
      · rw [updρ_eq] at hb
        exact ⟨j, _, hob, rfl, .inl (hb.flat rfl), .inl (by simp)⟩
  | _ => exact h.elim

/-- A row, told as a row of rows. -/
theorem row_nest {ρ : Nat → Value} {n : Nat → Prop} {e : TypeId} {sz m : Nat} {ex : Bool} {cs : List PV} {x : Value} (h : ObOk ρ n w S (.row e sz m ex cs) x) : ObOk ρ n w S (.nest e sz m (cs.map NC.pu) none) x ∧ ∀ b, Owns w (.nest e sz m (cs.map NC.pu) none) x b → blk x = some b := by
  obtain ⟨xs, hrow, hr, ho⟩ := h
  have hrow' : RowOk w e sz m xs false x := by
    refine ⟨hrow.1, ?_⟩
    rcases hrow.2 with h | ⟨g, cap, cur, r1, r2, r3, r4, r5, r6, _⟩
    · exact .inl h
    · exact .inr ⟨g, cap, cur, r1, r2, r3, r4, r5, r6, by simp⟩
  have no : ∀ xs j b, ¬ Inn (cs.map NC.pu) none xs j b := by
    rintro xs j b ⟨c, v, hc, how, _⟩
    rw [List.getElem?_map, Option.map_eq_some_iff] at hc
    obtain ⟨p, _, rfl⟩ := hc
    cases how
  refine ⟨⟨xs, hrow', by simpa using hr.1, ho, fun j c v hc hv _ => ?_, fun p y hp => (by cases hp), fun j j' b hj => (no _ _ _ hj).elim, fun j b hj => (no _ _ _ hj).elim⟩, fun b hb => ?_⟩
  · rw [List.getElem?_map, Option.map_eq_some_iff] at hc
    obtain ⟨p, hp, rfl⟩ := hc
    exact hr.2 j p v hp hv
  · rcases hb with hb | ⟨e', sz', m', cs', h', xs', j, he, _, hin⟩
    · exact hb
    · cases he
      exact (no _ _ _ hin).elim

/-- The same of a row of rows. -/
theorem add_nrow {obsc obsE : Obs} {ρc : Nat → Value} (hWc : SatW w0 S0 obsc ρc S w) {y : SV} {v : Value} (hd : Den ρc (Lt obsc.length) w S y v) {e : TypeId} {sz m : Nat} {cs : List NC} {seen : List Nat} {k : List Nat → Prop} (h : hasNRow y obsc obsE e sz m cs seen k)
    (hW : SatW w0 S0 obs ρ S w) (hsrc : SrcW w obsc ρc obsE seen obs ρ) :
    ∃ seen', k seen' ∧ SatW w0 S0 (obs ++ [.nest e sz m cs none]) (updρ ρ obs.length v) S w ∧ SrcW w obsc ρc obsE seen' (obs ++ [.nest e sz m cs none]) (updρ ρ obs.length v) := by
  unfold hasNRow at h
  cases hd with
  | nil =>
    obtain ⟨⟨rfl, rfl⟩, h⟩ := h
    have hob := row_nest (ρ := ρ) (n := Lt obs.length) (w := w) (S := S) (e := e) (sz := sz) (m := 0) (ex := false) (cs := []) (x := .slice none 0 0) ⟨[], ⟨by simp, .inl ⟨rfl, rfl⟩⟩, repL_nil, fun _ h => by simp at h⟩
    refine ⟨seen, h, hW.snoc' (ob := .nest e sz 0 [] none) (x := .slice none 0 0) hob.1 (fun b hb => by cases hob.2 b hb) ⟨rfl, rfl⟩, fun i o b hi hl hb => ?_⟩
    rcases get_snoc hi with ⟨h1, h2⟩ | ⟨rfl, rfl⟩
    · rw [updρ_lt h1] at hb; exact hsrc i o b h2 hl hb
    · rw [updρ_eq] at hb; cases hob.2 b hb
  | ob hj =>
    rename_i j
    simp only [cond_false_iff, Bool.and_eq_true, Bool.not_eq_true'] at h
    obtain ⟨⟨hdead, hseen⟩, h, hk⟩ := h
    have hnot : j ∉ seen := by
      intro hin
      rw [(memN_iff j seen).2 hin] at hseen
      cases hseen
    rw [at_iff] at h
    obtain ⟨ob, hob, h⟩ := h
    have main : ObOk ρc (Lt obsc.length) w S (.nest e sz m cs none) (ρc j) → (∀ b, Owns w (.nest e sz m cs none) (ρc j) b → Owns w ob (ρc j) b) → ob.live = true →
        ∃ seen', k seen' ∧ SatW w0 S0 (obs ++ [.nest e sz m cs none]) (updρ ρ obs.length (ρc j)) S w ∧ SrcW w obsc ρc obsE seen' (obs ++ [.nest e sz m cs none]) (updρ ρ obs.length (ρc j)) := by
      intro hok hown hlive
      refine ⟨j :: seen, hk, hW.snoc' (hok.free (.inr ⟨_, _, _, _, rfl⟩)) (fun b hb => ?_) (hWc.plain j hj), fun i o b hi hl hb => ?_⟩
      · obtain ⟨o1, o2⟩ := hWc.own j _ b hob hlive (hown b hb)
        refine ⟨o1, o2, fun i oi hi hl hbi => ?_⟩
        obtain ⟨s, os, s1, s2, s3, s4⟩ := hsrc i oi b hi hl hbi
        have := hWc.dist s j os _ b s1 hob s2 hlive s3 (hown b hb)
        subst this
        rcases s4 with s4 | s4
        · exact hnot s4
        · rw [hdead] at s4; cases s4
      · rcases get_snoc hi with ⟨h1, h2⟩ | ⟨rfl, rfl⟩
        · rw [updρ_lt h1] at hb
          obtain ⟨s, os, s1, s2, s3, s4⟩ := hsrc i o b h2 hl hb
          exact ⟨s, os, s1, s2, s3, s4.imp (fun h => by simp [h]) id⟩
        · rw [updρ_eq] at hb
          exact ⟨j, _, hob, hlive, hown b hb, .inl (by simp)⟩
    split at h
    · rename_i e' sz' n' cs'
      obtain ⟨⟨h1, h2⟩, rfl, rfl⟩ := h
      have h1 : sz' = sz := Nat.eq_of_beq_eq_true h1
      have h2 : e' = e := Nat.eq_of_beq_eq_true h2
      subst h1 h2
      exact main (hWc.objs j _ hob) (fun _ h => h) rfl
    · rename_i e' sz' n' ex' cs'
      obtain ⟨⟨h1, h2⟩, rfl, rfl⟩ := h
      have h1 : sz' = sz := Nat.eq_of_beq_eq_true h1
      have h2 : e' = e := Nat.eq_of_beq_eq_true h2
      subst h1 h2
      have hrn := row_nest (hWc.objs j _ hob)
      exact main hrn.1 (fun b hb => .inl (hrn.2 b hb)) rfl
    · exact h.elim
  | _ => exact h.elim

theorem setRows_sat {X : Type} (x : X) {slc : Slots} {obsc obsE : Obs} {ρc : Nat → Value} (hAc : SatA N slc (Lt obsc.length) ρc S w a) (hWc : SatW w0 S0 obsc ρc S w) : ∀ (l : List (RowSpec X)) {sl : Slots} {obs : Obs} {ρ : Nat → Value} {seen : List Nat} {k : Slots → Obs → Prop} {kk : List Nat → Prop},
    setRows N x l sl obs k → hasRows slc obsc obsE x l seen kk → SatA N sl (Lt obs.length) ρ S w a → SatW w0 S0 obs ρ S w → SrcW w obsc ρc obsE seen obs ρ →
    ∃ sl' obs' ρ' seen', k sl' obs' ∧ kk seen' ∧ SatA N sl' (Lt obs'.length) ρ' S w a ∧ SatW w0 S0 obs' ρ' S w ∧ SrcW w obsc ρc obsE seen' obs' ρ' ∧ ∃ t, obs' = obs ++ t ∧ (∀ i, i < obs.length → ρ' i = ρ i) ∧ ∀ (j : Nat) (ty : TypeId) (l : List SV), t[j]? ≠ some (.box ty l)
  | [], sl, obs, ρ, seen, k, kk, h, hh, hA, hW, hs => ⟨sl, obs, ρ, seen, h, hh, hA, hW, hs, [], by simp, fun _ _ => rfl, by simp⟩
  | (t, e, sz, n, cs) :: r, sl, obs, ρ, seen, k, kk, h, hh, hA, hW, hs => by
    simp only [setRows, cond_false_iff, snoc_iff, fN_iff, len_eq] at h
    obtain ⟨seen', hh, hW', hs'⟩ := add_row hWc (hAc.slots t) hh hW hs
    have hA' : SatA N ((t, .ob obs.length) :: sl) (Lt (obs ++ [Ob.row e sz (n x) false (cs x)]).length) (updρ ρ obs.length (a.tmps.getD t undef)) S w a := by
      refine ⟨hA.size, hA.defs, fun t' => ?_⟩
      rw [get_cons]
      split
      · rename_i e'
        subst e'
        have : Den (updρ ρ obs.length (a.tmps.getD t undef)) (Lt (obs ++ [Ob.row e sz (n x) false (cs x)]).length) w S (.ob obs.length) (updρ ρ obs.length (a.tmps.getD t undef) obs.length) := .ob (by simp [Lt])
        rwa [updρ_eq] at this
      · exact (hA.slots t').mono (fun _ _ => rfl) (fun _ h => h) (fun i hi => by simp only [Lt, List.length_append] at *; omega) (fun i hi => updρ_lt hi)
    obtain ⟨sl2, obs2, ρ2, seen2, h1, h2, h3, h4, h5, tl, h6, h7, h8⟩ := setRows_sat x hAc hWc r h.2 hh hA' hW' hs'
    refine ⟨sl2, obs2, ρ2, seen2, h1, h2, h3, h4, h5, [Ob.row e sz (n x) false (cs x)] ++ tl, by rw [h6, List.append_assoc], fun i hi => ?_, fun j ty l hj => ?_⟩
    · rw [h7 i (by simp; omega), updρ_lt hi]
    · cases j with
      | zero => simp at hj
      | succ j => exact h8 j ty l (by simpa using hj)

theorem setNRows_sat {X : Type} (x : X) {slc : Slots} {obsc obsE : Obs} {ρc : Nat → Value} (hAc : SatA N slc (Lt obsc.length) ρc S w a) (hWc : SatW w0 S0 obsc ρc S w) : ∀ (l : List (NRowSpec X)) {sl : Slots} {obs : Obs} {ρ : Nat → Value} {seen : List Nat} {k : Slots → Obs → Prop} {kk : List Nat → Prop},
    setNRows N x l sl obs k → hasNRows slc obsc obsE x l seen kk → SatA N sl (Lt obs.length) ρ S w a → SatW w0 S0 obs ρ S w → SrcW w obsc ρc obsE seen obs ρ →
    ∃ sl' obs' ρ' seen', k sl' obs' ∧ kk seen' ∧ SatA N sl' (Lt obs'.length) ρ' S w a ∧ SatW w0 S0 obs' ρ' S w ∧ SrcW w obsc ρc obsE seen' obs' ρ' ∧ ∃ t, obs' = obs ++ t ∧ (∀ i, i < obs.length → ρ' i = ρ i) ∧ ∀ (j : Nat) (ty : TypeId) (l : List SV), t[j]? ≠ some (.box ty l)
  | [], sl, obs, ρ, seen, k, kk, h, hh, hA, hW, hs => ⟨sl, obs, ρ, seen, h, hh, hA, hW, hs, [], by simp, fun _ _ => rfl, by simp⟩
  | (t, e, sz, n, cs) :: r, sl, obs, ρ, seen, k, kk, h, hh, hA, hW, hs => by
    simp only [setNRows, cond_false_iff, snoc_iff, fN_iff, len_eq] at h
    obtain ⟨seen', hh, hW', hs'⟩ := add_nrow hWc (hAc.slots t) hh hW hs
    have hA' : SatA N ((t, .ob obs.length) :: sl) (Lt (obs ++ [Ob.nest e sz (n x) (cs x) none]).length) (updρ ρ obs.length (a.tmps.getD t undef)) S w a := by
      refine ⟨hA.size, hA.defs, fun t' => ?_⟩
      rw [get_cons]
      split
      · rename_i e'
        subst e'
        have : Den (updρ ρ obs.length (a.tmps.getD t undef)) (Lt (obs ++ [Ob.nest e sz (n x) (cs x) none]).length) w S (.ob obs.length) (updρ ρ obs.length (a.tmps.getD t undef) obs.length) := .ob (by simp [Lt])
        rwa [updρ_eq] at this
      · exact (hA.slots t').mono (fun _ _ => rfl) (fun _ h => h) (fun i hi => by simp only [Lt, List.length_append] at *; omega) (fun i hi => updρ_lt hi)
    obtain ⟨sl2, obs2, ρ2, seen2, h1, h2, h3, h4, h5, tl, h6, h7, h8⟩ := setNRows_sat x hAc hWc r h.2 hh hA' hW' hs'
    refine ⟨sl2, obs2, ρ2, seen2, h1, h2, h3, h4, h5, [Ob.nest e sz (n x) (cs x) none] ++ tl, by rw [h6, List.append_assoc], fun i hi => ?_, fun j ty l hj => ?_⟩
    · rw [h7 i (by simp; omega), updρ_lt hi]
    · cases j with
      | zero => simp at hj
      | succ j => exact h8 j ty l (by simpa using hj)

/-- The value in a variable's cell. -/
theorem cell_den {obsc : Obs} {ρc : Nat → Value} (hWc : SatW w0 S0 obsc ρc S w) {i o : Nat} {t : TypeId} {xs : List Value} {b : Nat} {v : Value} (hb : ρc i = .pointer (some ⟨b, 0, none⟩)) (hh : w.heap[b]? = some (.cells xs.toArray t (0, 0))) (hv : xs[o]? = some v) : Den ρc (Lt obsc.length) w S (cellAt obsc i o) v := by
  unfold cellAt
  split
  · rename_i t' cs hi
    obtain ⟨b', xs', hx, hh', hd, _⟩ := hWc.objs i _ hi
    rw [hb] at hx
    cases hx
    rw [hh] at hh'
    simp only [Option.some.injEq, Obj.cells.injEq] at hh'
    have : xs = xs' := by simpa using congrArg Array.toList hh'.1
    subst this
    cases hc : cs[o]? with
    | none => rw [List.getD_eq_getElem?_getD, hc]; exact .any _
    | some p => rw [List.getD_eq_getElem?_getD, hc]; exact hd.2 o p v hc hv
  · exact .any _

theorem setCells_sat {X : Type} (x : X) {obsc obsE : Obs} {ρc : Nat → Value} (hWc : SatW w0 S0 obsc ρc S w) (hlen : obsE.length ≤ obsc.length) : ∀ (l : List (CellSpec X)) {obs : Obs} {ρ : Nat → Value} {seen : List Nat} {k : Obs → Prop},
    setCells x l obs k → hasCells obsc obsE x l seen → SatA N sl (Lt obs.length) ρ S w a → SatW w0 S0 obs ρ S w → SrcW w obsc ρc obsE seen obs ρ → (∀ (i : Nat) (t : TypeId) (cs : List SV), obs[i]? = some (.box t cs) → i < obsE.length ∧ ρ i = ρc i ∧ (∃ c', obsc[i]? = some c' ∧ c'.live = true)) →
    ∃ obs' ρ', k obs' ∧ SatA N sl (Lt obs'.length) ρ' S w a ∧ SatW w0 S0 obs' ρ' S w
  | [], obs, ρ, seen, k, h, hh, hA, hW, hs, _ => ⟨obs, ρ, (fL_iff _ _).1 h, hA, hW⟩
  | (i, o, e, sz, n, cs) :: r, obs, ρ, seen, k, h, hh, hA, hW, hs, hbx => by
    simp only [setCells, snoc_iff, fN_iff, len_eq] at h
    simp only [hasCells] at hh
    -- the value in the cell, or any value where there is no such cell
    have hval : ∃ v, Den ρc (Lt obsc.length) w S (cellAt obsc i o) v ∧ ∀ (t : TypeId) (cs' : List SV) (xs : List Value) (b : Nat) (u : Value), obs[i]? = some (.box t cs') → ρ i = .pointer (some ⟨b, 0, none⟩) → w.heap[b]? = some (.cells xs.toArray t (0, 0)) → xs[o]? = some u → u = v := by
      cases hi : obs[i]? with
      | none =>
        have hv : ∃ v, Den ρc (Lt obsc.length) w S (cellAt obsc i o) v := by
          cases hc : cellAt obsc i o with
          | nil => exact ⟨_, .nil⟩
          | ob j =>
            have : j < obsc.length := by
              rw [hc] at hh
              simp only [hasRow, cond_false_iff] at hh
              obtain ⟨_, h2, _⟩ := hh
              rw [at_iff] at h2
              obtain ⟨ob, h3, _⟩ := h2
              exact (List.getElem?_eq_some_iff.1 h3).1
            exact ⟨_, .ob this⟩
          | _ => rw [hc] at hh; exact hh.elim
        obtain ⟨v, hv⟩ := hv
        exact ⟨v, hv, fun t cs' xs b u h1 => by cases h1⟩
      | some ob =>
        by_cases hex : ∃ (t : TypeId) (cs' : List SV) (xs : List Value) (b : Nat) (u : Value), ob = .box t cs' ∧ ρ i = .pointer (some ⟨b, 0, none⟩) ∧ w.heap[b]? = some (.cells xs.toArray t (0, 0)) ∧ xs[o]? = some u
        · obtain ⟨t, cs', xs, b, u, rfl, h1, h2, h3⟩ := hex
          obtain ⟨_, h4, _⟩ := hbx i t cs' hi
          refine ⟨u, cell_den hWc (by rw [← h4]; exact h1) h2 h3, fun t2 cs2 xs2 b2 u2 e1 e2 e3 e4 => ?_⟩
          rw [h1] at e2
          cases e2
          rw [h2] at e3
          simp only [Option.some.injEq, Obj.cells.injEq] at e3
          have : xs = xs2 := by simpa using congrArg Array.toList e3.1
          subst this
          rw [h3] at e4
          cases e4
          rfl
        · have hv : ∃ v, Den ρc (Lt obsc.length) w S (cellAt obsc i o) v := by
            cases hc : cellAt obsc i o with
            | nil => exact ⟨_, .nil⟩
            | ob j =>
              have : j < obsc.length := by
                rw [hc] at hh
                simp only [hasRow, cond_false_iff] at hh
                obtain ⟨_, h2, _⟩ := hh
                rw [at_iff] at h2
                obtain ⟨ob, h3, _⟩ := h2
                exact (List.getElem?_eq_some_iff.1 h3).1
              exact ⟨_, .ob this⟩
            | _ => rw [hc] at hh; exact hh.elim
          obtain ⟨v, hv⟩ := hv
          refine ⟨v, hv, fun t cs' xs b u h1 h2 h3 h4 => absurd ⟨t, cs', xs, b, u, ?_, h2, h3, h4⟩ hex⟩
          simpa using h1
    obtain ⟨v, hd, huniq⟩ := hval
    obtain ⟨seen', hh, hW', hs'⟩ := add_row hWc hd hh hW hs
    have hden : Den (updρ ρ obs.length v) (Lt (obs ++ [Ob.row e sz (n x) false (cs x)]).length) w S (.ob obs.length) v := by
      have : Den (updρ ρ obs.length v) (Lt (obs ++ [Ob.row e sz (n x) false (cs x)]).length) w S (.ob obs.length) (updρ ρ obs.length v obs.length) := .ob (by simp [Lt])
      rwa [updρ_eq] at this
    have boxlt : ∀ (j : Nat) (t : TypeId) (cs' : List SV), (obs ++ [Ob.row e sz (n x) false (cs x)])[j]? = some (.box t cs') → j < obs.length ∧ obs[j]? = some (.box t cs') := by
      intro j t cs' hj
      rcases get_snoc hj with h | ⟨_, h⟩
      · exact h
      · cases h
    have hW2 := hW'.cellAs i o (.ob obs.length) (by
      intro t cs' xs b u h1 h2 h3 h4
      obtain ⟨hlt, h1⟩ := boxlt i t cs' h1
      rw [updρ_lt hlt] at h2
      rw [huniq t cs' xs b u h1 h2 h3 h4]
      exact hden)
    have hA2 : SatA N sl (Lt (setAt i o (.ob obs.length) (obs ++ [Ob.row e sz (n x) false (cs x)])).length) (updρ ρ obs.length v) S w a := by
      rw [setAt_length]
      exact hA.mono (fun _ _ => rfl) (fun _ h => h) (fun i hi => by simp only [Lt, List.length_append] at *; omega) (fun i hi => updρ_lt hi)
    have back : ∀ (j : Nat) (c : Ob), (setAt i o (.ob obs.length) (obs ++ [Ob.row e sz (n x) false (cs x)]))[j]? = some c → ∃ c', (obs ++ [Ob.row e sz (n x) false (cs x)])[j]? = some c' ∧ c.live = c'.live ∧ (∀ t l, c = .box t l → ∃ l', c' = .box t l') ∧ ∀ x b, Owns w c x b → Owns w c' x b := by
      intro j c hc
      rw [setAt_get] at hc
      split at hc
      · rw [Option.map_eq_some_iff] at hc
        obtain ⟨c', h3, rfl⟩ := hc
        refine ⟨c', h3, setCell_live _ _ _, fun t l hl => ?_, fun x b hb => owns_setCell hb⟩
        cases c' <;> simp only [setCell] at hl <;> first | (cases hl; done) | skip
        cases hl
        exact ⟨_, rfl⟩
      · exact ⟨c, hc, rfl, fun t l hl => ⟨l, hl⟩, fun _ _ h => h⟩
    refine setCells_sat x hWc hlen r h hh hA2 hW2 ?_ ?_
    · intro j c b hc hl hb
      obtain ⟨c', h1, h2, _, h3⟩ := back j c hc
      exact hs' j c' b h1 (by rw [← h2]; exact hl) (h3 _ b hb)
    · intro j t cs' hj
      obtain ⟨c', h1, _, h2, _⟩ := back j _ hj
      obtain ⟨l', rfl⟩ := h2 t cs' rfl
      obtain ⟨h3, h4⟩ := boxlt j t l' h1
      obtain ⟨h5, h6, h7⟩ := hbx j t l' h4
      exact ⟨h5, by rw [updρ_lt h3]; exact h6, h7⟩

/-- The state at a loop's head, told as the invariant has it. -/
theorem rehead {X : Type} (x : X) (L : LSpec X) {slc sl1 : Slots} {obsc obsE : Obs} {ρc : Nat → Value} (hE : ∀ (i : Nat) (ob : Ob), obsE[i]? = some ob → RefsOb (Lt obsE.length) ob) (hS1 : ∀ t, RefsIn (Lt obsE.length) (sl1.get t)) (hpin : ∀ i v, S0.pin i = some v → i < obsE.length)
    (hAc : SatA N slc (Lt obsc.length) ρc S w a) (hWc : SatW w0 S0 obsc ρc S w) (hsub : ∀ t, sl1.get t = slc.get t ∨ sl1.get t = .any) (hat : isAt L obsE x slc obsc) {k : Slots → Obs → Prop}
    (hk : fL (headObs L x obsE) fun obs1 => putAll N x L.slots sl1 fun sl2 => setRows N x L.rows sl2 obs1 fun sl3 obs2 => setNRows N x L.nrows sl3 obs2 fun sl4 obs3 => setCells x L.cells obs3 fun obs4 => k sl4 obs4) :
    ∃ sl4 obs4 ρ4, k sl4 obs4 ∧ SatA N sl4 (Lt obs4.length) ρ4 S w a ∧ SatW w0 S0 obs4 ρ4 S w := by
  obtain ⟨hall, hrows, hsame, hinv⟩ := hat
  rw [fL_iff] at hk
  obtain ⟨hl, hg⟩ := sameObs_get hsame
  have hlen : (headObs L x obsE).length = obsE.length := by rw [headObs, mask_length, setNs_length, setBoxes_length]
  have hbl : ∀ (i : Nat) (o : Ob), (setNs x L.nboxes 0 (setBoxes x L.boxes 0 obsE))[i]? = some o → RefsOb (Lt obsE.length) o ∧ ∃ o', obsE[i]? = some o' ∧ o.live = o'.live := by
    intro i o ho
    rw [setNs_get, Option.map_eq_some_iff] at ho
    obtain ⟨o1, h1, rfl⟩ := ho
    rw [setBoxes_get, Option.map_eq_some_iff] at h1
    obtain ⟨o2, h2, rfl⟩ := h1
    exact ⟨overN_refs _ _ _ _ (overB_refs _ _ _ _ (hE i o2 h2)), o2, h2, by rw [overN_live, overB_live]⟩
  have hW1 : SatW w0 S0 (headObs L x obsE) ρc S w := (hWc.mask L.cells).shrink hl hg (by rw [hlen]; exact mask_refs _ _ fun i o ho => (hbl i o ho).1) (by rw [hlen]; exact hpin)
  have hA1 : SatA N sl1 (Lt (headObs L x obsE).length) ρc S w a := by
    rw [hlen]
    refine ⟨hAc.size, hAc.defs, fun t => ?_⟩
    rcases hsub t with h | h
    · exact (show Den ρc (Lt obsc.length) w S (sl1.get t) _ by rw [h]; exact hAc.slots t).restrict (hS1 t)
    · rw [h]; exact .any _
  obtain ⟨sl2, hk, hA2⟩ := putAll_sat x L.slots hk hA1 (hasAll_rep x hAc hall)
  have live : ∀ (i : Nat) (o : Ob), (headObs L x obsE)[i]? = some o → o.live = true → deadAt obsE i = false ∧ ∃ c', obsc[i]? = some c' ∧ c'.live = true ∧ ∀ b, Owns w o (ρc i) b → Owns w c' (ρc i) b := by
    intro i o hi hlv
    obtain ⟨c1, h1, h2⟩ := mask_dead _ _ i o hi
    obtain ⟨_, c2, h3, h4⟩ := hbl i c1 h1
    obtain ⟨c3, h5, h6, h7⟩ := mask_owns L.cells obsc i o (hg i o hi hlv)
    exact ⟨deadAt_of_live h3 (by rw [← h4, ← h2]; exact hlv), c3, h5, by rw [← h6]; exact hlv, fun b hb => h7 w (ρc i) b hb⟩
  have hsrc : SrcW w obsc ρc obsE [] (headObs L x obsE) ρc := by
    intro i o b hi hlv hb
    obtain ⟨h1, c, h2, h3, h4⟩ := live i o hi hlv
    exact ⟨i, c, h2, h3, h4 b hb, .inr h1⟩
  obtain ⟨sl3, obs2, ρ2, seen, hk, hnr, hA3, hW3, hs3, tl, rfl, hρ2, hnobox⟩ := setRows_sat x hAc hWc L.rows hk hrows hA2 hW1 hsrc
  obtain ⟨sl4, obs3, ρ3, seen', hk, hcells, hA4, hW4, hs4, tl', rfl, hρ3, hnobox'⟩ := setNRows_sat x hAc hWc L.nrows hk hnr hA3 hW3 hs3
  have hlen2 : obsE.length ≤ obsc.length := by rw [← hlen, ← mask_length L.cells obsc]; exact hl
  obtain ⟨obs4, ρ4, hk, hA5, hW5⟩ := setCells_sat x hWc hlen2 L.cells hk hcells hA4 hW4 hs4 (by
    intro i t cs hi
    rcases get_app hi with ⟨h1, h2⟩ | ⟨j, rfl, h2⟩
    · rcases get_app h2 with ⟨h3, h4⟩ | ⟨j, rfl, h4⟩
      · obtain ⟨_, c, h5, h6, _⟩ := live i _ h4 rfl
        exact ⟨by rw [← hlen]; exact h3, by rw [hρ3 i h1, hρ2 i h3], c, h5, h6⟩
      · exact (hnobox j t cs h4).elim
    · exact (hnobox' j t cs h2).elim)
  exact ⟨sl4, obs4, ρ4, hk, hA5, hW5⟩

end
end Go.Pv

/- A region that draws its order, written in another order. -/
namespace Go.Pv
open Go.Vc

section
variable {P : Program} {Q : Exit → Act → World → Prop}

theorem ren_wp (inv : List Nat) (o : Oper) (a : Act) (w : World) (K : Act → World → Prop) : (renO inv o).wp P a w K Q = o.wp P a w K Q := by
  cases o with | mk dst op type pos after guard => rfl

theorem ren_asks (inv : List Nat) (o : Oper) (a : Act) (w : World) : (renO inv o).asks P a w = o.asks P a w := by
  cases o with | mk dst op type pos after guard => rfl

theorem permOk_spec {π inv : List Nat} {all : List Oper} (h : permOk π inv all = true) :
    π.length = all.length ∧ inv.length = all.length ∧ (∀ i, i < all.length → inv.getD (π.getD i 0) 0 = i ∧ π.getD (inv.getD i 0) 0 = i ∧ π.getD i 0 < all.length ∧ inv.getD i 0 < all.length) ∧
    ∀ o ∈ all, (∀ e ∈ o.after.toList, e.on < all.length) ∧ ∀ j b, o.guard = some (j, b) → j < all.length := by
  simp only [permOk, Bool.and_eq_true, beq_iff_eq, List.all_eq_true, decide_eq_true_eq, List.mem_range] at h
  obtain ⟨⟨⟨h1, h2⟩, h3⟩, h4⟩ := h
  refine ⟨h1, h2, fun i hi => ?_, fun o ho => ⟨(h4 o ho).1, fun j b hg => ?_⟩⟩
  · obtain ⟨a1, a2, a3, a4⟩ := h3 i hi
    exact ⟨a1, a2, a3, a4⟩
  · have := (h4 o ho).2
    rw [hg] at this
    simpa using this

theorem permOps_get {π inv : List Nat} {all : List Oper} (h : permOk π inv all = true) {i : Nat} {o : Oper} (hi : all[i]? = some o) : (permOps π inv all)[inv.getD i 0]? = some (renO inv o) := by
  obtain ⟨h1, h2, h3, _⟩ := permOk_spec h
  have hlt : i < all.length := (List.getElem?_eq_some_iff.1 hi).1
  obtain ⟨_, a2, _, a4⟩ := h3 i hlt
  have hl : inv.getD i 0 < π.length := by omega
  have e : π[inv.getD i 0]? = some i := by
    rw [List.getElem?_eq_getElem hl]
    rw [List.getD_eq_getElem?_getD, List.getElem?_eq_getElem hl] at a2
    exact congrArg some a2
  rw [permOps, List.getElem?_map, e]
  simp [List.getD_eq_getElem?_getD, hi]

theorem permOps_length {π inv : List Nat} {all : List Oper} (h : permOk π inv all = true) : (permOps π inv all).length = all.length := by
  rw [permOps, List.length_map, (permOk_spec h).1]

theorem binds_on (md : Region.Mode) (e : Edge) (n : Nat) : Region.binds md { e with on := n } = Region.binds md e := rfl

/-- The flags of the one order and of the other. -/
def Flags (inv : List Nat) (n : Nat) (l l' : Array Bool) : Prop := l.size = n ∧ l'.size = n ∧ ∀ j, j < n → l[j]? = l'[inv.getD j 0]?

theorem flags_getD {inv : List Nat} {n : Nat} {l l' : Array Bool} (h : Flags inv n l l') {j : Nat} (hj : j < n) (b : Bool) : l.getD j b = l'.getD (inv.getD j 0) b := by
  rw [Array.getD_eq_getD_getElem?, Array.getD_eq_getD_getElem?, h.2.2 j hj]

theorem ready_perm {π inv : List Nat} {all : List Oper} (h : permOk π inv all = true) {md : Region.Mode} {l l' : Array Bool} (hf : Flags inv all.length l l') {i : Nat} (hi : i < all.length) :
    i ∈ Region.ready md all.toArray l ↔ inv.getD i 0 ∈ Region.ready md (permOps π inv all).toArray l' := by
  obtain ⟨h1, h2, h3, h4⟩ := permOk_spec h
  obtain ⟨o, ho⟩ : ∃ o, all[i]? = some o := ⟨all[i], List.getElem?_eq_getElem hi⟩
  have ho' := permOps_get h ho
  have hm : o ∈ all := List.mem_of_getElem? ho
  simp only [Region.ready, List.mem_filter, List.mem_range, List.size_toArray, permOps_length h, hi, (h3 i hi).2.2.2, true_and, List.getElem?_toArray, ho, ho', Option.map_some, Option.getD_some, flags_getD hf hi true]
  have : (o.after.all fun e => !Region.binds md e || l.getD e.on false) = ((renO inv o).after.all fun e => !Region.binds md e || l'.getD e.on false) := by
    simp only [renO]
    rw [← Array.all_toList, ← Array.all_toList, List.toList_toArray, List.all_map]
    rw [Bool.eq_iff_iff, List.all_eq_true, List.all_eq_true]
    constructor
    · intro hh e he
      have := hh e he
      rw [flags_getD hf ((h4 o hm).1 e he) false] at this
      exact this
    · intro hh e he
      have := hh e he
      rw [flags_getD hf ((h4 o hm).1 e he) false]
      exact this
  rw [this]

theorem yielded_perm {π inv : List Nat} {all : List Oper} (h : permOk π inv all = true) (tmps : Array Value) {j : Nat} (hj : j < all.length) : yielded (permOps π inv all).toArray tmps (inv.getD j 0) = yielded all.toArray tmps j := by
  obtain ⟨o, ho⟩ : ∃ o, all[j]? = some o := ⟨all[j], List.getElem?_eq_getElem hj⟩
  have ho' := permOps_get h ho
  unfold yielded
  simp only [List.getElem?_toArray, ho, ho', Option.bind_some]
  rfl

theorem wanted_perm {π inv : List Nat} {all : List Oper} (h : permOk π inv all = true) (tmps : Array Value) {o : Oper} (ho : o ∈ all) : Region.wanted (renO inv o) (yielded (permOps π inv all).toArray tmps) = Region.wanted o (yielded all.toArray tmps) := by
  obtain ⟨_, _, _, h4⟩ := permOk_spec h
  unfold Region.wanted renO
  cases hg : o.guard with
  | none => rfl
  | some q =>
    obtain ⟨j, b⟩ := q
    simp only [Option.map_some]
    rw [yielded_perm h tmps ((h4 o ho).2 j b hg)]

theorem wpOp_perm {π inv : List Nat} {all : List Oper} (h : permOk π inv all = true) {i : Nat} (hi : i < all.length) {K K' : Act → World → Prop} (hK : ∀ a w, K' a w → K a w) {a : Act} {w : World} (hw : wpOp P (permOps π inv all).toArray Q (inv.getD i 0) K' a w) : wpOp P all.toArray Q i K a w := by
  obtain ⟨o, ho⟩ : ∃ o, all[i]? = some o := ⟨all[i], List.getElem?_eq_getElem hi⟩
  have ho' := permOps_get h ho
  have hm : o ∈ all := List.mem_of_getElem? ho
  unfold wpOp at hw ⊢
  simp only [List.getElem?_toArray, ho, ho', wanted_perm h _ hm, ren_wp, ren_asks] at hw ⊢
  split
  · rename_i hh
    rw [if_pos hh] at hw
    exact hw.imp (Oper.wp_mono hK) id
  · rename_i hh
    rw [if_neg hh] at hw
    exact hK _ _ hw

theorem flags_set {π inv : List Nat} {all : List Oper} (h : permOk π inv all = true) {l l' : Array Bool} (hf : Flags inv all.length l l') {i : Nat} (hi : i < all.length) : Flags inv all.length (l.setIfInBounds i true) (l'.setIfInBounds (inv.getD i 0) true) := by
  obtain ⟨_, _, h3, _⟩ := permOk_spec h
  refine ⟨by simpa using hf.1, by simpa using hf.2.1, fun j hj => ?_⟩
  rw [Array.getElem?_setIfInBounds, Array.getElem?_setIfInBounds]
  have hii := (h3 i hi).2.2.2
  by_cases e : i = j
  · subst e
    rw [if_pos rfl, if_pos rfl, if_pos (by rw [hf.1]; exact hi), if_pos (by rw [hf.2.1]; exact hii)]
  · have hne : inv.getD i 0 ≠ inv.getD j 0 := fun he => e (by
      have a := (h3 i hi).2.1
      have b := (h3 j hj).2.1
      rw [he, b] at a
      exact a.symm)
    rw [if_neg e, if_neg hne]
    exact hf.2.2 j hj

theorem wpAny_perm {π inv : List Nat} {all : List Oper} (h : permOk π inv all = true) {md : Region.Mode} : ∀ (fuel : Nat) (l l' : Array Bool) (a : Act) (w : World), Flags inv all.length l l' → wpAny P md (permOps π inv all).toArray Q fuel l' a w → wpAny P md all.toArray Q fuel l a w := by
  have lt : ∀ {l : Array Bool} {i : Nat}, i ∈ Region.ready md all.toArray l → i < all.length := by
    intro l i hi
    simp only [Region.ready, List.mem_filter, List.mem_range, List.size_toArray] at hi
    exact hi.1
  have back : ∀ {l l' : Array Bool}, Flags inv all.length l l' → Region.ready md all.toArray l = [] → Region.ready md (permOps π inv all).toArray l' = [] := by
    intro l l' hf hr
    obtain ⟨_, _, h3, _⟩ := permOk_spec h
    apply List.eq_nil_iff_forall_not_mem.2
    intro k hk
    have hkl : k < all.length := by
      simp only [Region.ready, List.mem_filter, List.mem_range, List.size_toArray, permOps_length h] at hk
      exact hk.1
    obtain ⟨a1, _, a3, _⟩ := h3 k hkl
    have := (ready_perm h hf (md := md) a3).2 (by rw [a1]; exact hk)
    rw [hr] at this
    cases this
  have forth : ∀ {l l' : Array Bool}, Flags inv all.length l l' → Region.ready md (permOps π inv all).toArray l' = [] → Region.ready md all.toArray l = [] := by
    intro l l' hf hr
    apply List.eq_nil_iff_forall_not_mem.2
    intro k hk
    have := (ready_perm h hf (md := md) (lt hk)).1 hk
    rw [hr] at this
    cases this
  intro fuel
  induction fuel with
  | zero =>
    intro l l' a w hf hw
    exact ⟨forth hf hw.1, hw.2⟩
  | succ fuel ih =>
    intro l l' a w hf hw
    refine ⟨fun hr => hw.1 (back hf hr), fun i hi => ?_⟩
    have hil := lt hi
    exact wpOp_perm h hil (fun a w hk => ih _ _ a w (flags_set h hf hil) hk) (hw.2 _ ((ready_perm h hf hil).1 hi))

theorem flags_start {π inv : List Nat} {all : List Oper} (h : permOk π inv all = true) : Flags inv all.length (Array.replicate all.toArray.size false) (Array.replicate (permOps π inv all).toArray.size false) := by
  obtain ⟨_, _, h3, _⟩ := permOk_spec h
  refine ⟨by simp, by simp [permOps_length h], fun j hj => ?_⟩
  have := (h3 j hj).2.2.2
  rw [Array.getElem?_replicate, Array.getElem?_replicate, if_pos (by simpa using hj), if_pos (by simpa [permOps_length h] using this)]

/-- A region, by what holds of it as it is written in the order of the VC generator. -/
theorem wp_drawn (hm : P.follows .mixedOrders = true) {id : Nat} {all : List Oper} (hp : (perms all = true → permOk (permOf all) (invOf (permOf all) all.length) all = true)) {a : Act} {w : World}
    (h : wpAny P .any (drawn all).toArray Q (drawn all).toArray.size (Array.replicate (drawn all).toArray.size false) a { w with drawn := w.drawn + 1 }) : (Code.region id all.toArray true).wp P Q a w := by
  refine wp_region_any hm ?_
  unfold Pv.drawn at h
  cases hb : perms all with
  | false => simpa only [hb, cond_false] using h
  | true =>
    simp only [hb, cond_true] at h
    have hok := hp hb
    have hsz : (permOps (permOf all) (invOf (permOf all) all.length) all).toArray.size = all.toArray.size := by simp [permOps_length hok]
    have := wpAny_perm hok _ _ _ a _ (flags_start hok) h
    rwa [hsz] at this
end
end Go.Pv

/- Loops, code and functions do what their VCs say. -/
namespace Go.Pv
open Go.Vc
open Go.RowKit (Below)

/-- The exits of a piece of code. -/
def QK (w0 : World) (S0 : Fr) (N : Nat) (kn kr : K) (kx : Nat → K) : Exit → Act → World → Prop
  | .normal, a, w => Kpost w0 S0 N kn a w
  | .ret, a, w => Kpost w0 S0 N kr a w
  | .exit i, a, w => Kpost w0 S0 N (kx i) a w
  | _, _, _ => False

theorem killS_length (y : SV) (obs : Obs) : (killS y obs).length = obs.length := by cases y <;> simp [killS]

theorem killS_refs {B : Nat → Prop} (y : SV) (obs : Obs) (h : ∀ (i : Nat) (o : Ob), obs[i]? = some o → RefsOb B o) : ∀ (i : Nat) (o : Ob), (killS y obs)[i]? = some o → RefsOb B o := by
  intro i o ho
  cases y with
  | ob j =>
    rcases get_set ho with ⟨_, h1⟩ | ⟨_, _, rfl⟩
    · exact h i o h1
    · trivial
  | _ => exact h i o ho

theorem killRows_spec {X : Type} {B : Nat → Prop} (sl : Slots) : ∀ (l : List (RowSpec X)) (obs : Obs), (∀ (i : Nat) (o : Ob), obs[i]? = some o → RefsOb B o) → (killRows sl l obs).length = obs.length ∧ ∀ (i : Nat) (o : Ob), (killRows sl l obs)[i]? = some o → RefsOb B o
  | [], obs, h => ⟨rfl, h⟩
  | (t, q) :: r, obs, h => by
    obtain ⟨h1, h2⟩ := killRows_spec sl r (killS (sl.get t) obs) (killS_refs _ _ h)
    exact ⟨by rw [killRows, h1, killS_length], h2⟩

theorem killNRows_spec {X : Type} {B : Nat → Prop} (sl : Slots) : ∀ (l : List (NRowSpec X)) (obs : Obs), (∀ (i : Nat) (o : Ob), obs[i]? = some o → RefsOb B o) → (killNRows sl l obs).length = obs.length ∧ ∀ (i : Nat) (o : Ob), (killNRows sl l obs)[i]? = some o → RefsOb B o
  | [], obs, h => ⟨rfl, h⟩
  | (t, q) :: r, obs, h => by
    obtain ⟨h1, h2⟩ := killNRows_spec sl r (killS (sl.get t) obs) (killS_refs _ _ h)
    exact ⟨by rw [killNRows, h1, killS_length], h2⟩

theorem inIf_spec {w0 : World} {S0 : Fr} {N : Nat} {sl : Slots} {obs : Obs} {ρ : Nat → Value} {S : Nat → Prop} {a : Act} {w : World} {b : Bool} {k : K} (h : inIf b k sl obs) (hA : SatA N sl (Lt obs.length) ρ S w a) (hW : SatW w0 S0 obs ρ S w) : ∃ obs', k sl obs' ∧ SatA N sl (Lt obs'.length) ρ S w a ∧ SatW w0 S0 obs' ρ S w := by
  cases b with
  | true =>
    obtain ⟨obs', h1, h2, h3, _⟩ := vcIn_spec h hA hW
    exact ⟨obs', h1, h2, h3⟩
  | false => exact ⟨obs, h, hA, hW⟩

theorem killCells_spec {X : Type} {B : Nat → Prop} (obs0 : Obs) : ∀ (l : List (CellSpec X)) (obs : Obs), (∀ (i : Nat) (o : Ob), obs[i]? = some o → RefsOb B o) → (killCells obs0 l obs).length = obs.length ∧ ∀ (i : Nat) (o : Ob), (killCells obs0 l obs)[i]? = some o → RefsOb B o
  | [], obs, h => ⟨rfl, h⟩
  | (i, o, q) :: r, obs, h => by
    obtain ⟨h1, h2⟩ := killCells_spec obs0 r (killS (cellAt obs0 i o) obs) (killS_refs _ _ h)
    exact ⟨by rw [killCells, h1, killS_length], h2⟩

theorem loop_sound {w0 : World} {S0 : Fr} {P : Program} {N : Nat} {W : List Nat} {body : K → K} {c : Code} {kr : K} {kx : Nat → K} {kn : K}
    (hbody : ∀ k sl obs ρ S a w, body k sl obs → SatA N sl (Lt obs.length) ρ S w a → SatW w0 S0 obs ρ S w → c.wp P (QK w0 S0 N k kr kx) a w)
    {sl : Slots} {obs : Obs} {ρ : Nat → Value} {S : Nat → Prop} {a : Act} {w : World} (h : vcLoop N W body sl obs) (hA : SatA N sl (Lt obs.length) ρ S w a) (hW : SatW w0 S0 obs ρ S w) : (Code.loop c).wp P (QK w0 S0 N kn kr kx) a w := by
  obtain ⟨X, L, x0, h⟩ := h
  obtain ⟨sl, obs, S, h, hA, hW, _, _, _, _⟩ := frzL_spec _ h hA hW
  obtain ⟨obs, h, hA, hW⟩ := inIf_spec h hA hW
  rw [fL_iff, fL_iff, clear_iff] at h
  have hr0 : ∀ (i : Nat) (o : Ob), obs[i]? = some o → RefsOb (Lt obs.length) o := fun i o ho => (hW.objs i o ho).refs
  obtain ⟨l1, r1⟩ := killRows_spec sl L.rows obs hr0
  obtain ⟨l3, r3⟩ := killNRows_spec sl L.nrows _ r1
  obtain ⟨l2, r2⟩ := killCells_spec obs L.cells _ r3
  rw [l3, l1] at l2
  generalize hW' : W ++ (keysOf L.slots ++ (keysOf L.rows ++ keysOf L.nrows)) = CW at h
  generalize hE : killCells obs L.cells (killNRows sl L.nrows (killRows sl L.rows obs)) = obsE at h l2 r2
  obtain ⟨hat, hround⟩ := h
  have hrefs : ∀ t, RefsIn (Lt obsE.length) ((clearL CW sl).get t) := by
    intro t
    rw [get_clearL, l2]
    split
    · exact .any
    · exact (hA.slots t).refs
  have hRE : ∀ (i : Nat) (ob : Ob), obsE[i]? = some ob → RefsOb (Lt obsE.length) ob := by rw [l2]; exact r2
  refine wp_loop_ghost (fun m a w => ∃ x slc obsc ρc S, L.mu x = m ∧ SatA N slc (Lt obsc.length) ρc S w a ∧ SatW w0 S0 obsc ρc S w ∧ (∀ t, (clearL CW sl).get t = slc.get t ∨ (clearL CW sl).get t = .any) ∧ isAt L obsE x slc obsc) (L.mu x0)
    ⟨x0, sl, obs, ρ, S, rfl, hA, hW, fun t => ?_, hat⟩ ?_
  · rw [get_clearL]
    split
    · exact .inr rfl
    · exact .inl rfl
  rintro m a1 w1 ⟨x, slc, obsc, ρc, Sc, rfl, hAc, hWc, hsub, hatc⟩
  obtain ⟨sl3, obs3, ρ3, h, hA3, hW3⟩ := rehead x L hRE hrefs (fun i v hp => by rw [l2]; exact (hW.pins i v hp).2) hAc hWc hsub hatc (hround x hatc.2.2.2)
  refine wp_mono (hbody _ _ _ ρ3 Sc a1 w1 h hA3 hW3) ?_
  intro e a2 w2 hq
  cases e with
  | normal =>
    obtain ⟨sl', obs', ρ', S', hq, hA', hW'⟩ := hq
    obtain ⟨obs', ⟨x', hmu, ⟨h4, h5⟩, hat'⟩, hA', hW'⟩ := inIf_spec hq hA' hW'
    rw [takeN_eq] at h5
    simp only [len_eq] at h4 h5
    refine ⟨L.mu x', hmu, x', sl', obs', ρ', S', rfl, hA', hW', fun t => ?_, hat'⟩
    by_cases ht : t ∈ CW
    · exact .inr (by rw [get_clearL, if_pos ht])
    · refine .inl ?_
      have hin := allIn_spec h5
      have hsplit : sl' = sl'.take (sl'.length - (clearL CW sl).length) ++ clearL CW sl := by
        conv => lhs; rw [← List.take_append_drop (sl'.length - (clearL CW sl).length) sl', h4]
      rw [hsplit, get_append_other (t := t) (fun p hp e => ht (by rw [← e]; exact hin p hp))]
  | ret => exact hq
  | exit i => exact hq
  | _ => exact hq.elim

/-- Every region that draws its order is of the form that the VC generator takes. -/
def drawsB : Code → Bool
  | .region _ ops d => !d || (drawB (drawn ops.toList) && (!perms ops.toList || permOk (permOf ops.toList) (invOf (permOf ops.toList) ops.toList.length) ops.toList))
  | .seq a b => drawsB a && drawsB b
  | .cond _ a b => drawsB a && drawsB b
  | .block _ b => drawsB b
  | .loop b => drawsB b
  | _ => true

theorem vcCode_sound {w0 : World} {S0 : Fr} {P : Program} {F : Nat} {T : Tab} {N : Nat} (hm : P.follows .mixedOrders = true) (hT : TabOk P T) (hF : ∀ f, 2 < f → f < F → FnOk P f) : ∀ (c : Code), drawsB c = true → ∀ (kn kr : K) (kx : Nat → K) (sl : Slots) (obs : Obs) (ρ : Nat → Value) (S : Nat → Prop) (a : Act) (w : World),
    vcCode P F T N c kn kr kx sl obs → SatA N sl (Lt obs.length) ρ S w a → SatW w0 S0 obs ρ S w → c.wp P (QK w0 S0 N kn kr kx) a w
  | .skip, _, kn, kr, kx, sl, obs, ρ, S, a, w, h, hA, hW => wp_skip ⟨sl, obs, ρ, S, h, hA, hW⟩
  | .seq x y, hd, kn, kr, kx, sl, obs, ρ, S, a, w, h, hA, hW => by
    simp only [drawsB, Bool.and_eq_true] at hd
    refine wp_seq (wp_mono (vcCode_sound hm hT hF x hd.1 _ kr kx sl obs ρ S a w h hA hW) ?_)
    intro e a' w' hq
    cases e with
    | normal =>
      obtain ⟨sl', obs', ρ', S', hk, hA', hW'⟩ := hq
      exact vcCode_sound hm hT hF y hd.2 kn kr kx sl' obs' ρ' S' a' w' hk hA' hW'
    | _ => exact hq
  | .cond c x y, hd, kn, kr, kx, sl, obs, ρ, S, a, w, h, hA, hW => by
    simp only [drawsB, Bool.and_eq_true] at hd
    obtain ⟨sv, h, hden⟩ := ev_spec hA h
    split at h
    · exact wp_cond_true (den_kb hden) (vcCode_sound hm hT hF x hd.1 kn kr kx sl obs ρ S a w h hA hW)
    · exact wp_cond_false (den_kb hden) (vcCode_sound hm hT hF y hd.2 kn kr kx sl obs ρ S a w h hA hW)
    · exact wp_cond_split (den_pv hden) (fun e => vcCode_sound hm hT hF x hd.1 kn kr kx sl obs ρ S a w (h.1 e) hA hW) (fun e => vcCode_sound hm hT hF y hd.2 kn kr kx sl obs ρ S a w (h.2 e) hA hW)
    · exact h.elim
  | .block id b, hd, kn, kr, kx, sl, obs, ρ, S, a, w, h, hA, hW => by
    simp only [drawsB] at hd
    refine wp_block (wp_mono (vcCode_sound hm hT hF b hd kn kr _ sl obs ρ S a w h hA hW) ?_)
    intro e a' w' hq
    cases e with
    | exit i =>
      simp only [Exit.inBlock]
      by_cases hi : i = id
      · subst hi
        rw [if_pos rfl]
        simpa [QK] using hq
      · rw [if_neg hi]
        have : Nat.beq i id = false := by rw [Bool.eq_false_iff]; intro h'; exact hi (Nat.eq_of_beq_eq_true h')
        simpa [QK, this] using hq
    | _ => exact hq
  | .exit i, _, kn, kr, kx, sl, obs, ρ, S, a, w, h, hA, hW => wp_exit ⟨sl, obs, ρ, S, h, hA, hW⟩
  | .ret, _, kn, kr, kx, sl, obs, ρ, S, a, w, h, hA, hW => wp_ret ⟨sl, obs, ρ, S, h, hA, hW⟩
  | .loop b, hd, kn, kr, kx, sl, obs, ρ, S, a, w, h, hA, hW => by
    simp only [drawsB] at hd
    exact loop_sound (fun k sl obs ρ S a w h hA hW => vcCode_sound hm hT hF b hd k kr kx sl obs ρ S a w h hA hW) h hA hW
  | .region id ops d, hd, kn, kr, kx, sl, obs, ρ, S, a, w, h, hA, hW => by
    cases d with
    | false =>
      obtain ⟨obs', ρ', h, hA, hW⟩ := gh_spec (show vcGh ops.toList (vcOps P F T N ops.toList ops.toList kn) sl obs from h) hA hW
      exact wp_region_list (by simpa using vcOps_sound hT hF ops.toList (QK w0 S0 N kn kr kx) (fun a w h => h) ops.toList h hA hW)
    | true =>
      obtain ⟨obs', ρ', h, hA, hW⟩ := gh_spec (show vcGh ops.toList (fun sl obs => Vc.fL (drawn ops.toList) fun l => vcDraw P F T N l kn sl obs) sl obs from h) hA hW
      rw [fL_iff] at h
      simp only [drawsB, Bool.not_true, Bool.false_or, Bool.and_eq_true] at hd
      have := draw_any hT hF hd.1 (Q := QK w0 S0 N kn kr kx) (fun _ _ _ h => h) (fun ⟨_, _, h⟩ => h) (fun a w h => h) h hA hW
      have := wp_drawn (id := id) hm (fun hb => by have := hd.2; rw [hb] at this; simpa using this) this
      simpa using this
  | .rangeFunc _ _ _ _, _, kn, kr, kx, sl, obs, ρ, S, a, w, h, hA, hW => h.elim
  | .scope _, _, kn, kr, kx, sl, obs, ρ, S, a, w, h, hA, hW => h.elim
  | .label _, _, kn, kr, kx, sl, obs, ρ, S, a, w, h, hA, hW => h.elim
  | .goto _, _, kn, kr, kx, sl, obs, ρ, S, a, w, h, hA, hW => h.elim
  | .refuse _, _, kn, kr, kx, sl, obs, ρ, S, a, w, h, hA, hW => h.elim

def resOf (tmps : Array Value) : ResultVar → Sem Value
  | .tmp t => pure (tmps.getD t undef)
  | .cell a t => do loadVar t (← asAddr (tmps.getD a undef))

section
variable {w0 : World} {S0 : Fr} {P : Program} {F : Nat} {T : Tab} {N : Nat}

theorem rets_spec (hT : TabOk P T) {sl : Slots} {obs : Obs} {ρ : Nat → Value} {S : Nat → Prop} {a : Act} {w : World} (hA : SatA N sl (Lt obs.length) ρ S w a) (hW : SatW w0 S0 obs ρ S w) : ∀ (rs : List ResultVar) {k : List SV → Prop}, vcRets T sl obs rs k →
    ∃ vs xs, k vs ∧ DenL ρ (Lt obs.length) w S vs xs ∧ (rs.mapM (resOf a.tmps)).run P w = Result.ok xs w
  | [], k, h => ⟨[], [], h, denL_nil, by simp⟩
  | .tmp t :: r, k, h => by
    simp only [vcRets, fSV_iff] at h
    obtain ⟨vs, xs, hk, hd, hr⟩ := rets_spec hT hA hW r h
    exact ⟨_, _, hk, denL_cons (hA.slots t) hd, by simp only [List.mapM_cons, resOf, Sem.run_bind, Sem.run_pure, Result.andThen_ok, hr]⟩
  | .cell t ty :: r, k, h => by
    simp only [vcRets, fSV_iff] at h
    obtain ⟨sv, v, h, hdv, hrun⟩ := vcLoad_spec hT hW (fun _ h => h) h (hA.slots t)
    obtain ⟨vs, xs, hk, hd, hr⟩ := rets_spec hT hA hW r h
    refine ⟨_, _, hk, denL_cons hdv hd, ?_⟩
    have hrun' : (resOf a.tmps (.cell t ty)).run P w = Result.ok v w := by
      have h0 := hrun
      simp only [Instr.loadAt, Sem.run_bind] at h0
      simp only [resOf, Sem.run_bind]
      generalize a.tmps.getD t undef = vt at h0 ⊢
      cases vt with
      | pointer ad =>
        cases ad with
        | none => simp [Instr.sureAddr, stuck, Result.andThen] at h0
        | some ad => simpa [Instr.sureAddr, asAddr] using h0
      | _ => simp [Instr.sureAddr, stuck, Result.andThen] at h0
    simp only [List.mapM_cons, Sem.run_bind, hrun', Result.andThen_ok, hr]
    rfl

def oneOf : List Value → Value
  | [x] => x
  | vs => .tuple vs.toArray

theorem results_of (fn : Func) (tmps : Array Value) (w : World) (vs : List Value) (h : (fn.results.toList.mapM (resOf tmps)).run P w = Result.ok vs w) :
    (results fn tmps).run P w = Result.ok (oneOf vs) w := by
  have e : (fn.results.mapM (resOf tmps)).run P w = Result.ok vs.toArray w := by
    rw [Array.mapM_eq_mapM_toList]
    simp [h]
  have e2 : results fn tmps = (do
      let vs ← fn.results.mapM (resOf tmps)
      pure (if h : vs.size = 1 then vs[0] else .tuple vs)) := by
    unfold results
    rfl
  rw [e2]
  simp only [Sem.run_bind, e, Result.andThen_ok, Sem.run_pure]
  match vs with
  | [] => rfl
  | [x] => rfl
  | x :: y :: r => rfl

theorem get_initS : ∀ (i : Nat) (args : List PV) (t : Nat), (initS i args).get t = if i ≤ t ∧ t < i + args.length then .p (args.getD (t - i) (.v undef)) else .any
  | i, [], t => by
    rw [if_neg (by simp)]
    rfl
  | i, x :: r, t => by
    rw [initS, get_cons, get_initS (i + 1) r t]
    by_cases h : i = t
    · subst h; simp
    · rw [if_neg h]
      by_cases h2 : i + 1 ≤ t ∧ t < i + 1 + r.length
      · rw [if_pos h2, if_pos (by simp; omega)]
        congr 1
        have : t - i = (t - (i + 1)) + 1 := by omega
        rw [this]; simp
      · rw [if_neg h2, if_neg (by simp; omega)]

theorem retS_den {ρ : Nat → Value} {B : Nat → Prop} {w : World} {S : Nat → Prop} {vs : List SV} {xs : List Value} (h : DenL ρ B w S vs xs) : Den ρ B w S (retS vs) (oneOf xs) := by
  match vs, xs, h with
  | [], [], h => exact .tup h.1 h.2
  | [x], [y], h => exact h.2 0 x y rfl rfl
  | x :: y :: r, [], h => exact absurd h.1 (by simp)
  | x :: y :: r, [_], h => exact absurd h.1 (by simp)
  | x :: y :: r, _ :: _ :: _, h => exact .tup h.1 h.2
  | [], _ :: _, h => exact absurd h.1 (by simp)
  | [x], [], h => exact absurd h.1 (by simp)
  | [x], _ :: _ :: _, h => exact absurd h.1 (by simp)

/-- Results in rows of the call's own, one behind the other. -/
theorem own_spec {obs obsR : Obs} {ρ : Nat → Value} {S : Nat → Prop} {w : World} (hW : SatW w0 S0 obs ρ S w) : ∀ (rs vs : List SV) (xs : List Value) (c : Nat) (seen : List Nat) (ρR : Nat → Value), isOwn obs obsR rs vs c seen → DenL ρ (Lt obs.length) w S vs xs → c ≤ obsR.length →
    SatW w0 S0 (obsR.take c) ρR S w → SrcW w obs ρ [] seen (obsR.take c) ρR →
    ∃ ρ', (∀ i, i < c → ρ' i = ρR i) ∧ SatW w0 S0 obsR ρ' S w ∧ DenL ρ' (Lt obsR.length) w S rs xs
  | [], [], xs, c, seen, ρR, h, hd, hc, hWR, hs => by
    have hx : xs = [] := List.eq_nil_of_length_eq_zero (by simpa using hd.1.symm)
    subst hx
    have h : c = obsR.length := h
    subst h
    rw [List.take_length] at hWR
    exact ⟨ρR, fun _ _ => rfl, hWR, denL_nil⟩
  | [], _ :: _, _, _, _, _, h, _, _, _, _ => h.elim
  | _ :: _, [], _, _, _, _, h, _, _, _, _ => h.elim
  | r :: rs, y :: ys, xs, c, seen, ρR, h, hd, hc, hWR, hs => by
    obtain ⟨v, xr, rfl, hdy, hdr⟩ := denL_uncons hd
    simp only [isOwn] at h
    split at h
    · rename_i i
      rw [cond_false_iff] at h
      obtain ⟨hic, h⟩ := h
      have hic : i = c := Nat.eq_of_beq_eq_true hic
      subst hic
      rw [at_iff] at h
      obtain ⟨ob, hob, h⟩ := h
      have hlt : i < obsR.length := (List.getElem?_eq_some_iff.1 hob).1
      have htake : obsR.take (i + 1) = obsR.take i ++ [ob] := by
        rw [List.take_succ_eq_append_getElem hlt]
        congr 2
        rw [List.getElem?_eq_getElem hlt] at hob
        exact Option.some.inj hob
      have htl : (obsR.take i).length = i := by simp; omega
      have fin : ∀ seen', isOwn obs obsR rs ys (i + 1) seen' → SatW w0 S0 (obsR.take (i + 1)) (updρ ρR i v) S w → SrcW w obs ρ [] seen' (obsR.take (i + 1)) (updρ ρR i v) → ∃ ρ', (∀ j, j < i → ρ' j = ρR j) ∧ SatW w0 S0 obsR ρ' S w ∧ DenL ρ' (Lt obsR.length) w S (.ob i :: rs) (v :: xr) := by
        intro seen' h1 h2 h3
        obtain ⟨ρ', h4, h5, h6⟩ := own_spec hW rs ys xr (i + 1) seen' _ h1 hdr (by omega) h2 h3
        refine ⟨ρ', fun j hj => by rw [h4 j (by omega), updρ_lt hj], h5, denL_cons ?_ h6⟩
        have : Den ρ' (Lt obsR.length) w S (.ob i) (ρ' i) := .ob hlt
        rwa [h4 i (by omega), updρ_eq] at this
      split at h
      · rename_i e sz m cs
        have step : ∀ k : List Nat → Prop, hasRow y obs [] e sz m cs seen k → ∃ seen', k seen' ∧ SatW w0 S0 (obsR.take (i + 1)) (updρ ρR i v) S w ∧ SrcW w obs ρ [] seen' (obsR.take (i + 1)) (updρ ρR i v) := by
          intro k hk
          obtain ⟨seen', h1, h2, h3⟩ := add_row hW hdy hk hWR hs
          rw [htl] at h2 h3
          exact ⟨seen', h1, by rw [htake]; exact h2, by rw [htake]; exact h3⟩
        split at h
        · obtain ⟨seen', h1, h2, h3⟩ := step (fun seen' => isOwn obs obsR rs ys (i + 1) seen') h
          exact fin seen' h1 h2 h3
        · rename_i j
          rw [cond_false_iff] at h
          obtain ⟨seen', h1, h2, h3⟩ := step (fun seen' => isOwn obs obsR rs ys (i + 1) seen') (by
            show (bif deadAt [] j && !memN j seen then _ ∧ _ else False)
            rw [cond_false_iff, Bool.and_eq_true]
            exact ⟨⟨rfl, h.1⟩, h.2⟩)
          exact fin seen' h1 h2 h3
        · exact h.elim
      · rename_i e sz m cs
        have step : ∀ k : List Nat → Prop, hasNRow y obs [] e sz m cs seen k → ∃ seen', k seen' ∧ SatW w0 S0 (obsR.take (i + 1)) (updρ ρR i v) S w ∧ SrcW w obs ρ [] seen' (obsR.take (i + 1)) (updρ ρR i v) := by
          intro k hk
          obtain ⟨seen', h1, h2, h3⟩ := add_nrow hW hdy hk hWR hs
          rw [htl] at h2 h3
          exact ⟨seen', h1, by rw [htake]; exact h2, by rw [htake]; exact h3⟩
        split at h
        · obtain ⟨seen', h1, h2, h3⟩ := step (fun seen' => isOwn obs obsR rs ys (i + 1) seen') h
          exact fin seen' h1 h2 h3
        · rename_i j
          rw [cond_false_iff] at h
          obtain ⟨seen', h1, h2, h3⟩ := step (fun seen' => isOwn obs obsR rs ys (i + 1) seen') (by
            show (bif deadAt [] j && !memN j seen then _ ∧ _ else False)
            rw [cond_false_iff, Bool.and_eq_true]
            exact ⟨⟨rfl, h.1⟩, h.2⟩)
          exact fin seen' h1 h2 h3
        · exact h.elim
      · exact h.elim
    · obtain ⟨h1, h⟩ := h
      obtain ⟨y', h1, hr⟩ := toP_spec hdy h1
      obtain ⟨ρ', h4, h5, h6⟩ := own_spec hW rs ys xr c seen ρR h hdr hc hWR hs
      exact ⟨ρ', h4, h5, denL_cons (.p (by rw [← h1]; exact weakA_rep hr)) h6⟩
    · exact h.elim

theorem retK_post (hT : TabOk P T) (hno : ∀ i, S0.pin i = none) {fn : Func} {obsR : Obs} {r : SV} {a : Act} {w : World} (h : Kpost w0 S0 N (retK T fn.results.toList obsR r) a w) :
    a.defers = [] ∧ ∃ v, (results fn a.tmps).run P w = .ok v w ∧ ∃ v' ρ S', Ending.returned v = .returned v' ∧ SatW w0 S0 obsR ρ S' w ∧ Den ρ (Lt obsR.length) w S' r v' := by
  obtain ⟨sl, obs, ρ, S, h, hA, hW⟩ := h
  unfold retK at h
  obtain ⟨obs, h, hA, hW, _⟩ := vcIn_spec h hA hW
  unfold retK0 at h
  split at h
  · obtain ⟨sl', obs', S', h, hA', hW', _, _⟩ := freeze_spec _ h hA hW
    obtain ⟨vs, xs, h, hd, hrun⟩ := rets_spec (P := P) hT hA' hW' _ h
    refine ⟨hA.defs, _, results_of fn a.tmps w xs hrun, _, ρ, S', rfl, ?_, ?_⟩
    · exact hW'.shrink (by simp) (fun i o h => by simp at h) (fun i o h => by simp at h) (fun i v hp => by rw [hno] at hp; cases hp)
    · cases hp : pures vs with
      | none => simp only [hp] at h
      | some l =>
        simp only [hp, fWs_iff] at h
        rw [← h]
        have := weakAll_rep (pures_spec hp hd)
        exact retS_den (mapP_den this)
  · rename_i obsR' hne
    obtain ⟨vs, xs, h, hd, hrun⟩ := rets_spec (P := P) hT hA hW _ h
    refine ⟨hA.defs, _, results_of fn a.tmps w xs hrun, ?_⟩
    rw [cond_false_iff] at h
    obtain ⟨hnot, h⟩ := h
    obtain ⟨ρ', _, h2, h3⟩ := own_spec hW _ _ xs 0 [] ρ h hd (Nat.zero_le _) (by
      rw [List.take_zero]
      exact hW.shrink (by simp) (fun i o h => by simp at h) (fun i o h => by simp at h) (fun i v hp => by rw [hno] at hp; cases hp)) (fun i o b hi => by simp at hi)
    refine ⟨_, ρ', S, rfl, h2, ?_⟩
    have : retS (ofS r) = r ∨ (∃ x, r = .tup [x]) := by
      cases r with
      | tup l =>
        match l with
        | [] => exact .inl rfl
        | [x] => exact .inr ⟨x, rfl⟩
        | _ :: _ :: _ => exact .inl rfl
      | _ => exact .inl rfl
    rcases this with h | ⟨x, rfl⟩
    · rw [← h]; exact retS_den h3
    · cases hnot

/-- A function's contract out of its VC. -/
theorem ret_of_vc (hm : P.follows .mixedOrders = true) (hT : TabOk P T) (hF : ∀ f, 2 < f → f < F → FnOk P f) {f : FuncId} {fn : Func} (hf : P.funcs[f]? = some fn) (hd : (match fn.body with | some c => drawsB c | none => false) = true) {args : List PV} (hn : args.length ≤ fn.ntmps) {obsR : Obs} {r : SV}
    (h : vcFun P F T fn args obsR r) : Ret P f args obsR r := by
  intro w S xs hlt hrep
  unfold vcFun at h
  cases hb : fn.body with
  | none => simp [hb] at h
  | some c =>
    simp only [hb] at h hd
    refine calls_of_wp hf hb ?_
    have hxl : args.length = xs.length := hrep.1
    have hA : SatA fn.ntmps (initS 0 args) (Lt ([] : Obs).length) (fun _ => undef) S w { tmps := xs.toArray ++ Array.replicate (fn.ntmps - xs.toArray.size) undef, defers := [] } := by
      refine ⟨by simp; omega, rfl, fun t => ?_⟩
      rw [get_initS]
      split
      · rename_i ht
        have h1 : t < args.length := by omega
        have h2 : t < xs.length := by omega
        have := hrep.2 t args[t] xs[t] (List.getElem?_eq_getElem h1) (List.getElem?_eq_getElem h2)
        have e1 : (xs.toArray ++ Array.replicate (fn.ntmps - xs.toArray.size) undef).getD t undef = xs[t] := by simp [Array.getElem?_append, h2]
        have e2 : args.getD (t - 0) (.v undef) = args[t] := by simp [List.getD, h1]
        rw [e1, e2]
        exact .p this
      · exact .any _
    have hW : SatW w (Fr.of S) [] (fun _ => undef) S w :=
      ⟨fun i ob hi => by simp at hi, fun i j oi oj b hi => by simp at hi, fun i ob b hi => by simp at hi, fun _ h => h, hlt, fun _ h => .inl h, LeM.refl _ _, fun i hi => by simp at hi, fun i v hp => by cases hp⟩
    refine wp_mono (vcCode_sound hm hT hF c hd _ _ _ _ _ _ _ _ w h hA hW) ?_
    intro e a' w' hq
    cases e with
    | normal => exact retK_post hT (fun _ => rfl) hq
    | ret => exact retK_post hT (fun _ => rfl) hq
    | exit i => obtain ⟨_, _, _, _, h, _⟩ := hq; exact h.elim
    | _ => exact hq.elim

/-! ### Functions that may change a variable of the caller's -/

def initSV (i : Nat) : List SV → Slots
  | [] => []
  | x :: r => (i, x) :: initSV (i + 1) r

def retKM (T : Tab) (rs : List ResultVar) (t : TypeId) (b : Bool) (r : PV) : K := fun sl obs => obs.at 0 fun o => (match o with
  | .box t' cs => bif Nat.beq t' t then (match cs with
    | [.p y] => y = .v (.bool b)
    | [.kb c] => c = b
    | _ => False) else False
  | _ => False) ∧ vcRets T sl obs rs fun vs => match vs with
    | [.p y] => y = r
    | [.kb c] => .v (.bool c) = r
    | _ => False

def vcFunM (P : Program) (F : Nat) (T : Tab) (fn : Func) (args : List SV) (ob : Ob) (t : TypeId) (b : Bool) (r : PV) : Prop :=
  match fn.body with
  | some c => vcCode P F T fn.ntmps c (retKM T fn.results.toList t b r) (retKM T fn.results.toList t b r) (fun _ _ _ => False) (initSV 0 args) [ob]
  | none => False

theorem get_initSV : ∀ (i : Nat) (args : List SV) (t : Nat), (initSV i args).get t = if i ≤ t ∧ t < i + args.length then args.getD (t - i) .any else .any
  | i, [], t => by
    rw [if_neg (by simp)]
    rfl
  | i, x :: r, t => by
    rw [initSV, get_cons, get_initSV (i + 1) r t]
    by_cases h : i = t
    · subst h; simp
    · rw [if_neg h]
      by_cases h2 : i + 1 ≤ t ∧ t < i + 1 + r.length
      · rw [if_pos h2, if_pos (by simp; omega)]
        have : t - i = (t - (i + 1)) + 1 := by omega
        rw [this]; simp
      · rw [if_neg h2, if_neg (by simp; omega)]

theorem retKM_post (hT : TabOk P T) (hno : ∀ i v, S0.pin i = some v → i < 1) {fn : Func} {t : TypeId} {b : Bool} {r : PV} {a : Act} {w : World} (h : Kpost w0 S0 N (retKM T fn.results.toList t b r) a w) :
    a.defers = [] ∧ ∃ v, (results fn a.tmps).run P w = .ok v w ∧ ∃ v' ρ S', Ending.returned v = .returned v' ∧ SatW w0 S0 [.box t [.p (.v (.bool b))]] ρ S' w ∧ Rep w S' r v' := by
  obtain ⟨sl, obs, ρ, S, h, hA, hW⟩ := h
  unfold retKM at h
  rw [at_iff] at h
  obtain ⟨o, ho, hob, h⟩ := h
  have hob : o = .box t [.p (.v (.bool b))] ∨ o = .box t [.kb b] := by
    split at hob
    · rw [cond_false_iff] at hob
      obtain ⟨h1, h2⟩ := hob
      rw [Nat.eq_of_beq_eq_true h1]
      split at h2
      · rw [h2]; exact .inl rfl
      · rw [h2]; exact .inr rfl
      · exact h2.elim
    · exact hob.elim
  have hlen : 1 ≤ obs.length := (List.getElem?_eq_some_iff.1 ho).1
  obtain ⟨vs, xs, h, hd, hrun⟩ := rets_spec (P := P) hT hA hW _ h
  have hsh0 : SatW w0 S0 [o] ρ S w := by
    refine hW.shrink hlen (fun i o hi _ => ?_) (fun i o' hi => ?_) hno
    · cases i with
      | zero => cases hi; exact ho
      | succ i => simp at hi
    · cases i with
      | zero =>
        cases hi
        rcases hob with rfl | rfl
        · intro j p hp
          cases j with
          | zero => cases hp; exact .p _
          | succ j => simp at hp
        · intro j p hp
          cases j with
          | zero => cases hp; exact .kb _
          | succ j => simp at hp
      | succ i => simp at hi
  have hsh : SatW w0 S0 [.box t [.p (.v (.bool b))]] ρ S w := by
    rcases hob with rfl | rfl
    · exact hsh0
    · have hk := hsh0.objs 0 _ rfl
      obtain ⟨bb, xs, hx, hb, hd, h1⟩ := hk
      have hk' : ObOk ρ (Lt 1) w S (.box t [.p (.v (.bool b))]) (ρ 0) := by
        refine ⟨bb, xs, hx, hb, ⟨hd.1, fun j p y hp hy => ?_⟩, h1⟩
        cases j with
        | zero =>
          cases hp
          have := den_kb (hd.2 0 _ y rfl hy)
          subst this
          exact .p (.v _)
        | succ j => simp at hp
      exact hsh0.retell1 (i := 0) rfl rfl hk' (fun b hb => .inl (hb.flat rfl))
  split at h
  · rename_i y
    subst h
    match xs, hd with
    | [x], hd =>
      refine ⟨hA.defs, x, results_of fn a.tmps w [x] hrun, x, ρ, S, rfl, hsh, den_p (hd.2 0 _ x rfl rfl)⟩
    | [], hd => exact absurd hd.1 (by simp)
    | _ :: _ :: _, hd => exact absurd hd.1 (by simp)
  · rename_i c
    subst h
    match xs, hd with
    | [x], hd =>
      have := den_kb (hd.2 0 _ x rfl rfl)
      subst this
      refine ⟨hA.defs, _, results_of fn a.tmps w [_] hrun, _, ρ, S, rfl, hsh, .v _⟩
    | [], hd => exact absurd hd.1 (by simp)
    | _ :: _ :: _, hd => exact absurd hd.1 (by simp)
  · exact h.elim

theorem retM_of_vc (hm : P.follows .mixedOrders = true) (hT : TabOk P T) (hF : ∀ f, 2 < f → f < F → FnOk P f) {f : FuncId} {fn : Func} (hf : P.funcs[f]? = some fn) (hd : (match fn.body with | some c => drawsB c | none => false) = true) {args : List SV} (hn : args.length ≤ fn.ntmps) {ob : Ob} {t : TypeId} {b : Bool} {r : PV}
    (h : vcFunM P F T fn args ob t b r) : RetM P f args ob (.box t [.p (.v (.bool b))]) r := by
  intro w S m ρ xs hW hrep
  unfold vcFunM at h
  cases hb : fn.body with
  | none => simp [hb] at h
  | some c =>
    simp only [hb] at h hd
    refine calls_of_wp hf hb ?_
    have hxl : args.length = xs.length := hrep.1
    have hA : SatA fn.ntmps (initSV 0 args) (Lt ([ob] : Obs).length) ρ S w { tmps := xs.toArray ++ Array.replicate (fn.ntmps - xs.toArray.size) undef, defers := [] } := by
      refine ⟨by simp; omega, rfl, fun t => ?_⟩
      rw [get_initSV]
      split
      · rename_i ht
        have h1 : t < args.length := by omega
        have h2 : t < xs.length := by omega
        have := hrep.2 t args[t] xs[t] (List.getElem?_eq_getElem h1) (List.getElem?_eq_getElem h2)
        have e1 : (xs.toArray ++ Array.replicate (fn.ntmps - xs.toArray.size) undef).getD t undef = xs[t] := by simp [Array.getElem?_append, h2]
        have e2 : args.getD (t - 0) .any = args[t] := by simp [List.getD, h1]
        rw [e1, e2]
        exact this
      · exact .any _
    have hpin : ∀ i v, (fun i => if i = 0 then some (ρ 0) else none : Nat → Option Value) i = some v → i < 1 := by
      intro i v hv
      by_cases e : i = 0
      · omega
      · simp [e] at hv
    refine wp_mono (vcCode_sound hm hT hF c hd _ _ _ _ _ _ _ _ w h hA hW) ?_
    intro e a' w' hq
    cases e with
    | normal => exact retKM_post hT hpin hq
    | ret => exact retKM_post hT hpin hq
    | exit i => obtain ⟨_, _, _, _, h, _⟩ := hq; exact h.elim
    | _ => exact hq.elim

end
end Go.Pv

/- Arguments of a law, opened; data written as cells. -/
namespace Go.Pv
open Go.Vc
open Go.ChangeShapes Go.WideShapes Go.ChangeAt Go.RowKit

abbrev i64 (n : Int) : PV := .v (.int .i64 n)
abbrev u8 (n : Int) : PV := .v (.int .u8 n)
abbrev bl (b : Bool) : PV := .v (.bool b)

def I64 (n : Int) : Prop := -9223372036854775808 ≤ n ∧ n ≤ 9223372036854775807

/-- Data that are written as cells. -/
class Enc (α : Type) where
  sz : Nat
  cs : α → List PV
  ok : α → Prop
  len : ∀ x, (cs x).length = sz
  pos : 0 < sz

section
variable {α : Type} [Enc α]

def flat (xs : List α) : List PV := (xs.map Enc.cs).flatten

@[simp] theorem flat_nil : flat ([] : List α) = [] := rfl
theorem flat_cons (x : α) (xs : List α) : flat (x :: xs) = Enc.cs x ++ flat xs := by simp [flat]
theorem flat_append (xs ys : List α) : flat (xs ++ ys) = flat xs ++ flat ys := by simp [flat]
theorem flat_snoc (xs : List α) (y : α) : flat (xs ++ [y]) = flat xs ++ Enc.cs y := by simp [flat]

theorem flat_length : ∀ xs : List α, (flat xs).length = xs.length * Enc.sz α
  | [] => by simp
  | x :: r => by rw [flat_cons, List.length_append, flat_length r, Enc.len, List.length_cons, Nat.add_mul]; omega

theorem flat_drop : ∀ (xs : List α) (i : Nat), (flat xs).drop (i * Enc.sz α) = flat (xs.drop i)
  | [], i => by simp
  | x :: r, 0 => by simp
  | x :: r, i + 1 => by
    rw [flat_cons, List.drop_succ_cons, ← flat_drop r i, Nat.add_mul, Nat.add_comm (i * Enc.sz α), List.drop_append, Enc.len]
    simp [Enc.len]

theorem flat_take : ∀ (xs : List α) (i : Nat), (flat xs).take (i * Enc.sz α) = flat (xs.take i)
  | [], i => by simp
  | x :: r, 0 => by simp
  | x :: r, i + 1 => by
    rw [flat_cons, List.take_succ_cons, flat_cons, ← flat_take r i, Nat.add_mul, Nat.add_comm (i * Enc.sz α), List.take_append, Enc.len, List.take_of_length_le (by rw [Enc.len]; omega)]
    simp

/-- The cells of element i. -/
theorem idx {xs : List α} {i : Nat} (h : i < xs.length) : ((flat xs).drop (i * Enc.sz α)).take (Enc.sz α) = Enc.cs xs[i] := by
  rw [flat_drop, List.drop_eq_getElem_cons h, flat_cons]
  rw [show Enc.sz α = (Enc.cs xs[i]).length from (Enc.len _).symm]
  exact List.take_left

theorem flat_part (xs : List α) (a b : Nat) : ((flat xs).drop (a * Enc.sz α)).take ((b - a) * Enc.sz α) = flat ((xs.drop a).take (b - a)) := by
  rw [flat_drop, flat_take]

/-- A store into element i. -/
theorem flat_put {xs : List α} {i : Nat} (h : i < xs.length) (y : α) : spl (flat xs) (i * Enc.sz α) (Enc.cs y) = flat (xs.set i y) := by
  unfold spl
  rw [Enc.len, flat_take, show i * Enc.sz α + Enc.sz α = (i + 1) * Enc.sz α by rw [Nat.add_mul]; omega, flat_drop]
  rw [List.set_eq_take_append_cons_drop, if_pos h, flat_append, flat_cons, List.append_assoc]

/-- A store into a part of element i. -/
theorem flat_put_part {xs : List α} {i o : Nat} (h : i < xs.length) (l : List PV) (y : α) (hy : spl (Enc.cs xs[i]) o l = Enc.cs y) (ho : o + l.length ≤ Enc.sz α) : spl (flat xs) (i * Enc.sz α + o) l = flat (xs.set i y) := by
  rw [← flat_put h, ← hy]
  have e1 : flat xs = flat (xs.take i) ++ (Enc.cs xs[i] ++ flat (xs.drop (i + 1))) := by
    rw [← flat_cons, ← List.drop_eq_getElem_cons h, ← flat_append, List.take_append_drop]
  have hl : (flat (xs.take i)).length = i * Enc.sz α := by rw [flat_length, List.length_take, Nat.min_eq_left (by omega)]
  have hcl := Enc.len xs[i]
  generalize flat (xs.take i) = A at *
  generalize flat (xs.drop (i + 1)) = C at *
  generalize Enc.cs xs[i] = M at *
  rw [e1]
  unfold spl
  have hml : (M.take o ++ l ++ M.drop (o + l.length)).length = Enc.sz α := by simp; omega
  rw [hml, ← hl]
  have hA : ∀ k, (A ++ (M ++ C)).take (A.length + k) = A ++ (M ++ C).take k := fun k => by rw [List.take_append, List.take_of_length_le (by omega)]; congr 2; omega
  have hD : ∀ k, (A ++ (M ++ C)).drop (A.length + k) = (M ++ C).drop k := fun k => by rw [List.drop_append, List.drop_of_length_le (by omega), List.nil_append]; congr 1; omega
  have h0 := hA 0
  rw [Nat.add_zero, List.take_zero, List.append_nil] at h0
  rw [h0, hA, Nat.add_assoc, hD, hD]
  rw [List.take_append, List.drop_append, List.drop_append, hcl, show o - Enc.sz α = 0 by omega, show o + l.length - Enc.sz α = 0 by omega, Nat.sub_self]
  rw [List.drop_of_length_le (l := M) (i := Enc.sz α) (by omega)]
  simp

theorem reps_flat (z : α) : ∀ n : Nat, reps n (Enc.cs z) = flat (List.replicate n z)
  | 0 => rfl
  | n + 1 => by rw [List.replicate_succ, flat_cons, ← reps_flat z n]; simp [reps, List.replicate_succ]

end

/-- A slice. -/
abbrev sl {α : Type} [Enc α] (xs : List α) : PV := .sl false xs.length (flat xs)

instance : Enc Int where
  sz := 1
  cs x := [i64 x]
  ok x := I64 x
  len _ := rfl
  pos := Nat.one_pos

instance {α : Type} [Enc α] : Enc (List α) where
  sz := 1
  cs xs := [sl xs]
  ok xs := xs.length ≤ maxLen ∧ ∀ x ∈ xs, Enc.ok x
  len _ := rfl
  pos := Nat.one_pos

theorem wrap_id {n : Int} (h0 : -9223372036854775808 ≤ n) (h1 : n ≤ 9223372036854775807) : IntKind.i64.wrap n = n := by
  rw [IntKind.wrap_i64]
  omega

/-! ### Opening -/

def layB (P : Program) : List Field → Nat → Nat → Bool
  | [], o, n => o == n
  | f :: r, o, n => f.offset == o && layB P r (o + P.cellsOf f.type) n

/-- Whatever is read at this type is told by Q. -/
def Opens (P : Program) (t : TypeId) (Q : List PV → Prop) : Prop :=
  ∀ {H : Type} (enc : TypeId × Value → H) (w : World) (base : Nat) (spare : Nat → Bool) (held : Bool) (fuel : Nat) (cs : List Value) (x : DataW H × List MemPlace), DataW.trod enc P w base spare held fuel t cs = some x →
    ∃ l, RepL (Rep w (fun b => b < w.heap.size)) l cs ∧ Ones cs ∧ Q l ∧ cs.length = P.cellsOf t

def IsInt (l : List PV) : Prop := ∃ n, l = [i64 n] ∧ I64 n
def IsU8 (l : List PV) : Prop := ∃ n, l = [u8 n] ∧ 0 ≤ n ∧ n ≤ 255

theorem opens_int {P : Program} {t : TypeId} (h : P.underlying t = some (.int .i64)) (hc : P.cellsOf t = 1) : Opens P t IsInt := by
  intro H enc w base spare held fuel cs x hx
  obtain ⟨n, rfl, _, hw⟩ := DataW.trod_int h hx
  refine ⟨[i64 n], repL_cons (.v _) repL_nil, fun y hy => by simp at hy; subst hy; rfl, ⟨n, rfl, ?_⟩, by simp [hc]⟩
  simp only [Lit.wf, Bool.and_eq_true, decide_eq_true_eq] at hw
  exact hw

theorem opens_u8 {P : Program} {t : TypeId} (h : P.underlying t = some (.int .u8)) (hc : P.cellsOf t = 1) : Opens P t IsU8 := by
  intro H enc w base spare held fuel cs x hx
  obtain ⟨n, rfl, _, hw⟩ := DataW.trod_int h hx
  refine ⟨[u8 n], repL_cons (.v _) repL_nil, fun y hy => by simp at hy; subst hy; rfl, ⟨n, rfl, ?_⟩, by simp [hc]⟩
  simp only [Lit.wf, Bool.and_eq_true, decide_eq_true_eq] at hw
  exact hw

/-- Parts one behind the other. -/
def Parts : List (List PV → Prop) → List PV → Prop
  | [], l => l = []
  | Q :: r, l => ∃ l1 l2, l = l1 ++ l2 ∧ Q l1 ∧ Parts r l2

theorem parts_of {w : World} {S : Nat → Prop} {P : Program} : ∀ (fs : List Field) (Qs : List (List PV → Prop)) (o n : Nat) (cs : List Value), layB P fs o n = true → n = cs.length → fs.length = Qs.length →
    (∀ (i : Nat) (f : Field) (Q : List PV → Prop), fs[i]? = some f → Qs[i]? = some Q → ∃ l, RepL (Rep w S) l ((cs.drop f.offset).take (P.cellsOf f.type)) ∧ Ones ((cs.drop f.offset).take (P.cellsOf f.type)) ∧ Q l ∧ ((cs.drop f.offset).take (P.cellsOf f.type)).length = P.cellsOf f.type) →
    ∃ l, RepL (Rep w S) l (cs.drop o) ∧ Ones (cs.drop o) ∧ Parts Qs l
  | [], [], o, n, cs, hl, hn, _, _ => by
    simp only [layB, beq_iff_eq] at hl
    rw [List.drop_eq_nil_of_le (by omega)]
    exact ⟨[], repL_nil, fun y hy => by simp at hy, rfl⟩
  | [], _ :: _, _, _, _, _, _, h, _ => by simp at h
  | _ :: _, [], _, _, _, _, _, h, _ => by simp at h
  | f :: r, Q :: Qr, o, n, cs, hl, hn, hlen, h => by
    simp only [layB, Bool.and_eq_true, beq_iff_eq] at hl
    obtain ⟨l1, a1, a2, a3, a4⟩ := h 0 f Q rfl rfl
    obtain ⟨l2, b1, b2, b3⟩ := parts_of r Qr (o + P.cellsOf f.type) n cs hl.2 hn (by simpa using hlen) fun i g R hg hR => h (i + 1) g R (by simpa using hg) (by simpa using hR)
    rw [hl.1] at a1 a2 a4
    have e : cs.drop o = (cs.drop o).take (P.cellsOf f.type) ++ cs.drop (o + P.cellsOf f.type) := by
      rw [← List.drop_drop, List.take_append_drop]
    rw [e]
    refine ⟨l1 ++ l2, repL_app a1 b1, fun y hy => ?_, l1, l2, rfl, a3, b3⟩
    rcases List.mem_append.1 hy with hy | hy
    · exact a2 y hy
    · exact b2 y hy

theorem opens_struct {P : Program} {t : TypeId} {fs : Array Field} (Qs : List (List PV → Prop)) (hu : P.underlying t = some (.struct fs)) (hlay : layB P fs.toList 0 (P.cellsOf t) = true) (hlen : fs.toList.length = Qs.length)
    (h : ∀ (i : Nat) (f : Field) (Q : List PV → Prop), fs.toList[i]? = some f → Qs[i]? = some Q → Opens P f.type Q) : Opens P t (Parts Qs) := by
  intro H enc w base spare held fuel cs x hx
  obtain ⟨xs, n, rfl, rfl, hcl, hxs, hf⟩ := DataW.trod_struct hu hx
  obtain ⟨l, h1, h2, h3⟩ := parts_of (w := w) (S := fun b => b < w.heap.size) fs.toList Qs 0 (P.cellsOf t) cs hlay hcl.symm hlen (by
    intro i f Q hi hQ
    have hi' : fs[i]? = some f := by simpa using hi
    have hil : i < xs.length := by rw [hxs]; exact (Array.getElem?_eq_some_iff.1 hi').1
    have hr := hf i f hi'
    rw [List.getElem?_eq_getElem hil] at hr
    exact h i f Q hi hQ enc w base spare held n _ _ hr)
  rw [List.drop_zero] at h1 h2
  exact ⟨l, h1, h2, h3, hcl⟩

theorem parts_arr {w : World} {S : Nat → Prop} {c : Nat} {Q : List PV → Prop} : ∀ (n : Nat) (o : Nat) (cs : List Value), cs.length = (o + n) * c →
    (∀ i, i < o + n → ∃ l, RepL (Rep w S) l ((cs.drop (i * c)).take c) ∧ Ones ((cs.drop (i * c)).take c) ∧ Q l ∧ ((cs.drop (i * c)).take c).length = c) →
    ∃ l, RepL (Rep w S) l (cs.drop (o * c)) ∧ Ones (cs.drop (o * c)) ∧ Parts (List.replicate n Q) l
  | 0, o, cs, hl, _ => by
    rw [List.drop_eq_nil_of_le (by rw [hl]; simp)]
    exact ⟨[], repL_nil, fun y hy => by simp at hy, rfl⟩
  | n + 1, o, cs, hl, h => by
    obtain ⟨l1, a1, a2, a3, a4⟩ := h o (by omega)
    obtain ⟨l2, b1, b2, b3⟩ := parts_arr n (o + 1) cs (by rw [hl]; congr 1; omega) fun i hi => h i (by omega)
    have e : cs.drop (o * c) = (cs.drop (o * c)).take c ++ cs.drop ((o + 1) * c) := by
      rw [show (o + 1) * c = o * c + c by rw [Nat.add_mul]; omega, ← List.drop_drop, List.take_append_drop]
    rw [e]
    refine ⟨l1 ++ l2, repL_app a1 b1, fun y hy => ?_, l1, l2, rfl, a3, b3⟩
    rcases List.mem_append.1 hy with hy | hy
    · exact a2 y hy
    · exact b2 y hy

theorem opens_array {P : Program} {t e : TypeId} {n : Nat} {Q : List PV → Prop} (hu : P.underlying t = some (.array n e)) (hc : P.cellsOf t = n * P.cellsOf e) (h : Opens P e Q) : Opens P t (Parts (List.replicate n Q)) := by
  intro H enc w base spare held fuel cs x hx
  obtain ⟨xs, m, rfl, rfl, hcl, hxs, hf⟩ := DataW.trod_array hu hx
  obtain ⟨l, h1, h2, h3⟩ := parts_arr (w := w) (S := fun b => b < w.heap.size) (c := P.cellsOf e) (Q := Q) n 0 cs (by rw [hcl, hc]; simp) (by
    intro i hi
    have hr := hf i (by omega)
    rw [List.getElem?_eq_getElem (by omega)] at hr
    exact h enc w base spare held m _ _ hr)
  rw [Nat.zero_mul, List.drop_zero] at h1 h2
  exact ⟨l, h1, h2, h3, hcl⟩

/-- A slice of elements that are told by Q. -/
def IsSl (Q : List PV → Prop) (l : List PV) : Prop := ∃ ls : List (List PV), l = [.sl false ls.length ls.flatten] ∧ ls.length ≤ maxLen ∧ ∀ x ∈ ls, Q x

theorem opens_slice {P : Program} {t e : TypeId} {Q : List PV → Prop} (hu : P.underlying t = some (.slice e)) (hc : P.cellsOf t = 1) (he : 0 < P.cellsOf e) (h : Opens P e Q) : Opens P t (IsSl Q) := by
  intro H enc w base spare held fuel cs x hx
  rcases Go.Deep.open_slice hu hx with ⟨rfl, _⟩ | ⟨ad, len, cap, m, n, D, Pl, rfl, hb, hl, hm, hmm, _, hel⟩
  · exact ⟨[.sl false 0 []], repL_cons (Rep.nil0 _) repL_nil, fun y hy => by simp at hy; subst hy; rfl, ⟨[], by simp, by simp, by simp⟩, by simp [hc]⟩
  · have hlm : len ≤ m := by rw [hmm]; split <;> omega
    -- the elements, one behind the other
    have all : ∀ k, k ≤ len → ∃ (ls : List (List PV)) (xs : List Value), ls.length = k ∧ xs.length = k * P.cellsOf e ∧ RepL (Rep w (fun b => b < w.heap.size)) ls.flatten xs ∧ Ones xs ∧ (∀ (j : Nat) (v : Value), xs[j]? = some v → w.cell? (ad.add j) = some v) ∧ ∀ x ∈ ls, Q x := by
      intro k
      induction k with
      | zero => exact fun _ => ⟨[], [], rfl, by simp, repL_nil, fun y hy => by simp at hy, fun j v hj => by simp at hj, fun x hx => by cases hx⟩
      | succ k ih =>
        intro hk
        obtain ⟨ls, xs, i1, i2, i3, i4, i5, i6⟩ := ih (by omega)
        obtain ⟨cs', h1, h2⟩ := hel k (by omega)
        obtain ⟨_, hlen, hcell⟩ := World.cells?_some h1
        obtain ⟨l, j1, j2, j3, j4⟩ := h enc w base spare held n cs' _ h2
        refine ⟨ls ++ [l], xs ++ cs', by simp [i1], by rw [List.length_append, i2, j4, Nat.add_mul]; omega, by simpa using repL_app i3 j1, fun y hy => ?_, fun j v hj => ?_, fun y hy => ?_⟩
        · rcases List.mem_append.1 hy with hy | hy
          · exact i4 y hy
          · exact j2 y hy
        · by_cases hjl : j < xs.length
          · rw [List.getElem?_append_left hjl] at hj; exact i5 j v hj
          · rw [List.getElem?_append_right (by omega)] at hj
            have hlt : j - xs.length < cs'.length := (List.getElem?_eq_some_iff.1 hj).1
            have := hcell (j - xs.length) (by omega)
            rw [Go.Deep.add_add, i2] at this
            rw [show k * P.cellsOf e + (j - k * P.cellsOf e) = j by omega] at this
            rw [this, ← i2, hj]
        · rcases List.mem_append.1 hy with hy | hy
          · exact i6 y hy
          · simp at hy; subst hy; exact j3
    obtain ⟨ls, xs, i1, i2, i3, i4, i5, i6⟩ := all len (Nat.le_refl _)
    refine ⟨[.sl false ls.length ls.flatten], repL_cons ?_ repL_nil, fun y hy => by simp at hy; subst hy; rfl, ⟨ls, rfl, by omega, i6⟩, by simp [hc]⟩
    by_cases h0 : len = 0
    · subst h0
      have : ls = [] := List.eq_nil_of_length_eq_zero i1
      subst this
      exact .nil _ _ _ (by simp) (by simp)
    · rw [i1]
      refine .sl ?_ hl (by simp) i3.1 i4 i5 i3.2
      have h1 : 0 < xs.length := by rw [i2]; exact Nat.mul_pos (by omega) he
      have h2 := i5 0 xs[0] (List.getElem?_eq_getElem h1)
      rw [show ad.add 0 = ad from rfl] at h2
      unfold World.cell? at h2
      cases hh : w.heap[ad.block]? with
      | none => simp [hh] at h2
      | some o => exact (Array.getElem?_eq_some_iff.1 hh).1

/-! ### By checks that run -/

def intB (P : Program) (t : TypeId) : Bool := (match P.underlying t with | some (.int .i64) => true | _ => false) && P.cellsOf t == 1
def u8B (P : Program) (t : TypeId) : Bool := (match P.underlying t with | some (.int .u8) => true | _ => false) && P.cellsOf t == 1
def structB (P : Program) (t : TypeId) (ts : List TypeId) : Bool := match P.underlying t with
  | some (.struct fs) => fs.toList.map (·.type) == ts && layB P fs.toList 0 (P.cellsOf t)
  | _ => false
def arrB (P : Program) (t : TypeId) (n : Nat) (e : TypeId) : Bool := (match P.underlying t with | some (.array n' e') => n' == n && e' == e | _ => false) && P.cellsOf t == n * P.cellsOf e
def sliceB (P : Program) (t e : TypeId) : Bool := (match P.underlying t with | some (.slice e') => e' == e | _ => false) && P.cellsOf t == 1 && Nat.blt 0 (P.cellsOf e)

theorem intB_und {P : Program} {t : TypeId} (h : intB P t = true) : P.underlying t = some (.int .i64) ∧ P.cellsOf t = 1 := by
  simp only [intB, Bool.and_eq_true, beq_iff_eq] at h
  refine ⟨?_, h.2⟩
  have h1 := h.1
  split at h1
  · assumption
  · cases h1

theorem u8B_und {P : Program} {t : TypeId} (h : u8B P t = true) : P.underlying t = some (.int .u8) ∧ P.cellsOf t = 1 := by
  simp only [u8B, Bool.and_eq_true, beq_iff_eq] at h
  refine ⟨?_, h.2⟩
  have h1 := h.1
  split at h1
  · assumption
  · cases h1

theorem sliceB_und {P : Program} {t e : TypeId} (h : sliceB P t e = true) : P.underlying t = some (.slice e) ∧ P.cellsOf t = 1 ∧ 0 < P.cellsOf e := by
  simp only [sliceB, Bool.and_eq_true, beq_iff_eq, Nat.blt_eq] at h
  refine ⟨?_, h.1.2, h.2⟩
  have h1 := h.1.1
  split at h1
  · rename_i e' he
    rw [he, beq_iff_eq.1 h1]
  · cases h1

theorem arrB_und {P : Program} {t e : TypeId} {n : Nat} (h : arrB P t n e = true) : P.underlying t = some (.array n e) ∧ P.cellsOf t = n * P.cellsOf e := by
  simp only [arrB, Bool.and_eq_true, beq_iff_eq] at h
  refine ⟨?_, h.2⟩
  have h1 := h.1
  split at h1
  · rename_i n' e' he
    simp only [Bool.and_eq_true, beq_iff_eq] at h1
    rw [he, h1.1, h1.2]
  · cases h1

theorem opens_structB {P : Program} {t : TypeId} {ts : List TypeId} (Qs : List (List PV → Prop)) (h : structB P t ts = true) (hl : ts.length = Qs.length) (hq : ∀ (i : Nat) (u : TypeId) (Q : List PV → Prop), ts[i]? = some u → Qs[i]? = some Q → Opens P u Q) : Opens P t (Parts Qs) := by
  unfold structB at h
  split at h
  · rename_i fs hu
    simp only [Bool.and_eq_true, beq_iff_eq] at h
    refine opens_struct Qs hu h.2 (by rw [← hl, ← h.1]; simp) fun i f Q hf hQ => hq i f.type Q ?_ hQ
    rw [← h.1, List.getElem?_map, hf]; rfl
  · cases h

/-! ### Typed -/

/-- A type is that of α. -/
def Is (P : Program) (t : TypeId) (α : Type) [Enc α] : Prop := Opens P t (fun l => ∃ x : α, l = Enc.cs x ∧ Enc.ok x)

theorem is_of {P : Program} {t : TypeId} {α : Type} [Enc α] {Q : List PV → Prop} (h : Opens P t Q) (hq : ∀ l, Q l → ∃ x : α, l = Enc.cs x ∧ Enc.ok x) : Is P t α := by
  intro H enc w base spare held fuel cs x hx
  obtain ⟨l, h1, h2, h3, h4⟩ := h enc w base spare held fuel cs x hx
  exact ⟨l, h1, h2, hq l h3, h4⟩

theorem is_int {P : Program} {t : TypeId} (h : intB P t = true) : Is P t Int :=
  is_of (opens_int (intB_und h).1 (intB_und h).2) fun l ⟨n, h1, h2⟩ => ⟨n, h1, h2⟩

theorem flat_of {α : Type} [Enc α] : ∀ (ls : List (List PV)), (∀ l ∈ ls, ∃ x : α, l = Enc.cs x ∧ Enc.ok x) → ∃ xs : List α, ls.flatten = flat xs ∧ xs.length = ls.length ∧ ∀ x ∈ xs, Enc.ok x
  | [], _ => ⟨[], rfl, rfl, fun x hx => by cases hx⟩
  | l :: r, h => by
    obtain ⟨x, rfl, hx⟩ := h l (by simp)
    obtain ⟨xs, h1, h2, h3⟩ := flat_of r fun l hl => h l (by simp [hl])
    refine ⟨x :: xs, by rw [List.flatten_cons, h1, flat_cons], by simp [h2], fun y hy => ?_⟩
    rcases List.mem_cons.1 hy with rfl | hy
    · exact hx
    · exact h3 y hy

theorem is_slice {P : Program} {t e : TypeId} {α : Type} [Enc α] (hb : sliceB P t e = true) (h : Is P e α) : Is P t (List α) :=
  is_of (opens_slice (sliceB_und hb).1 (sliceB_und hb).2.1 (sliceB_und hb).2.2 h) fun l ⟨ls, h1, h2, h3⟩ => by
    obtain ⟨xs, e1, e2, e3⟩ := flat_of ls h3
    exact ⟨xs, by rw [h1, e1, ← e2]; rfl, ⟨by omega, e3⟩⟩

/-- An argument that fills one cell. -/
theorem arg_cell {P : Program} {t : TypeId} {α : Type} [Enc α] (h : Is P t α) {H : Type} {enc : TypeId × Value → H} {w : World} {v : Value} {d : DataW H} {p : List MemPlace} (hp : Plain v) (ht : DataW.Trod enc P w 0 (fun _ => true) true t v d p) {f : α → PV} (hf : ∀ x, Enc.cs x = [f x]) :
    ∃ x : α, Rep w (fun b => b < w.heap.size) (f x) v ∧ Enc.ok x := by
  obtain ⟨fuel, hx⟩ := ht
  obtain ⟨l, h1, h2, ⟨x, rfl, hok⟩, _⟩ := h enc w 0 _ true fuel _ _ hx
  rw [hp.2, hf] at h1
  exact ⟨x, h1.2 0 _ _ rfl rfl, hok⟩

/-- An argument that is a struct or an array. -/
theorem arg_agg {P : Program} {t : TypeId} {α : Type} [Enc α] (h : Is P t α) {H : Type} {enc : TypeId × Value → H} {w : World} {cs : Array Value} {d : DataW H} {p : List MemPlace} (ht : DataW.Trod enc P w 0 (fun _ => true) true t (.agg cs) d p) :
    ∃ x : α, Rep w (fun b => b < w.heap.size) (.agg (Enc.cs x)) (.agg cs) ∧ Enc.ok x := by
  obtain ⟨fuel, hx⟩ := ht
  obtain ⟨l, h1, h2, ⟨x, rfl, hok⟩, _⟩ := h enc w 0 _ true fuel _ _ hx
  have : Rep w (fun b => b < w.heap.size) (.agg (Enc.cs x)) (.agg cs.toList.toArray) := .agg h1.1 h2 h1.2
  exact ⟨x, this, hok⟩

theorem arg_slice {P : Program} {t e : TypeId} {α : Type} [Enc α] (hb : sliceB P t e = true) (h : Is P t (List α)) {H : Type} {enc : TypeId × Value → H} {w : World} {r : Reach} {b : Nat} {v : Value} {d : DataW H} {p : List MemPlace} (hv : Value.okWide P w r b t v) (ht : DataW.Trod enc P w 0 (fun _ => true) true t v d p) :
    ∃ xs : List α, Rep w (fun b => b < w.heap.size) (sl xs) v ∧ Enc.ok xs := by
  obtain ⟨a, len, cap, rfl⟩ := okWide_slice (sliceB_und hb).1 hv
  exact arg_cell h ⟨rfl, rfl⟩ ht (f := fun xs => sl xs) fun _ => rfl

theorem arg_int {P : Program} {t : TypeId} (hb : intB P t = true) {H : Type} {enc : TypeId × Value → H} {w : World} {r : Reach} {b : Nat} {v : Value} {d : DataW H} {p : List MemPlace} (hv : Value.okWide P w r b t v) (ht : DataW.Trod enc P w 0 (fun _ => true) true t v d p) :
    ∃ x : Int, Rep w (fun b => b < w.heap.size) (i64 x) v ∧ I64 x := by
  obtain ⟨n, rfl⟩ := okWide_int (intB_und hb).1 hv
  exact arg_cell (is_int hb) ⟨rfl, rfl⟩ ht (f := fun x => i64 x) fun _ => rfl

theorem arg_struct {P : Program} {t : TypeId} {ts : List TypeId} {α : Type} [Enc α] (hb : structB P t ts = true) (h : Is P t α) {H : Type} {enc : TypeId × Value → H} {w : World} {r : Reach} {b : Nat} {v : Value} {d : DataW H} {p : List MemPlace} (hv : Value.okWide P w r b t v) (ht : DataW.Trod enc P w 0 (fun _ => true) true t v d p) :
    ∃ x : α, Rep w (fun b => b < w.heap.size) (.agg (Enc.cs x)) v ∧ Enc.ok x := by
  unfold structB at hb
  split at hb
  · rename_i fs hu
    obtain ⟨cs, rfl, _⟩ := okWide_struct hu hv
    exact arg_agg h ht
  · cases hb

theorem arg_arr {P : Program} {t e : TypeId} {n : Nat} {α : Type} [Enc α] (hb : arrB P t n e = true) (h : Is P t α) {H : Type} {enc : TypeId × Value → H} {w : World} {r : Reach} {b : Nat} {v : Value} {d : DataW H} {p : List MemPlace} (hv : Value.okWide P w r b t v) (ht : DataW.Trod enc P w 0 (fun _ => true) true t v d p) :
    ∃ x : α, Rep w (fun b => b < w.heap.size) (.agg (Enc.cs x)) v ∧ Enc.ok x := by
  have hu := (arrB_und hb).1
  unfold Value.okWide at hv
  rw [hu] at hv
  obtain ⟨cs, rfl, _⟩ := hv
  exact arg_agg h ht

/-- The arguments read as they did. -/
theorem below_all {H : Type} {enc : TypeId × Value → H} {P : Program} (hl : laidOutB P = true) {W W' : World} (hb : Below W.heap.size W W') : ∀ {ts : List TypeId} {vs : List Value} {ds : List (DataW H)} {ps : List MemPlace}, (ts.all fun t => P.readableRec t && decide (t < P.types.size)) = true → DataW.TrodAll enc P W 0 (fun _ => true) true ts vs ds ps → DataW.TrodAll enc P W' 0 (fun b => decide (b < W.heap.size)) true ts vs ds ps
  | [], vs, ds, ps, _, h => by
    obtain ⟨rfl, rfl, rfl⟩ := trodAll_nil h
    exact trodAll_mk0
  | t :: ts, vs, ds, ps, hr, h => by
    obtain ⟨v, vs', d, ds', p, q, rfl, rfl, rfl, h0, h1⟩ := trodAll_cons h
    simp only [List.all_cons, Bool.and_eq_true, decide_eq_true_eq] at hr
    have lt : ∀ x ∈ p, x.block < W.heap.size := by obtain ⟨m, hm⟩ := h0; exact DataW.trod_lt m _ _ _ hm
    exact trodAll_cons_mk (Below.trod hl hr.1.1 hr.1.2 h0 hb lt) (below_all hl hb hr.2 h1)

/-- What the frame of a law wants. -/
theorem walk_of {P : Program} {f : FuncId} {args : List PV} (h : Ret P f args [] (.p (bl true))) {w : World} {xs : List Value} (hr : RepL (Rep w (fun b => b < w.heap.size)) args xs) :
    Calls P f xs.toArray w fun e w' => e = .returned (.bool true) ∧ Below w.heap.size w w' := by
  refine (h w _ xs (fun _ h => h) hr).mono ?_
  rintro e w' ⟨v, ρ, S', rfl, hW, hd⟩
  exact ⟨by rw [den_pv hd], hW.toLe⟩

end Go.Pv
