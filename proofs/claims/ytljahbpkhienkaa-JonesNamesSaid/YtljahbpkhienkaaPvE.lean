/- Calls, objects that nobody changes any more, lists of operations. -/
import Derived.Test.YtljahbpkhienkaaPvBm
set_option linter.unusedSimpArgs false
namespace Go.Pv
open Go.Vc
open Go.RowKit (Below)

def mrg (n : Nat) (ρ ρ' : Nat → Value) : Nat → Value := fun i => if i < n then ρ i else ρ' (i - n)

theorem mrg_lt {n i : Nat} {ρ ρ' : Nat → Value} (h : i < n) : mrg n ρ ρ' i = ρ i := by rw [mrg, if_pos h]
theorem mrg_ge {n i : Nat} {ρ ρ' : Nat → Value} : mrg n ρ ρ' (n + i) = ρ' i := by rw [mrg, if_neg (by omega)]; congr 1; omega

theorem rowsOnly_get : ∀ {obs : Obs} {i : Nat} {ob : Ob}, rowsOnly obs = true → obs[i]? = some ob → (∃ e sz m ex cs, ob = .row e sz m ex cs) ∨ ∃ e sz m cs, ob = .nest e sz m cs none
  | [], _, _, _, h => by simp at h
  | o :: r, i, ob, hr, h => by
    cases o with
    | row e sz m ex cs =>
      cases i with
      | zero => simp at h; exact .inl ⟨_, _, _, _, _, h.symm⟩
      | succ i => exact rowsOnly_get (by simpa [rowsOnly] using hr) (by simpa using h)
    | nest e sz m cs hole =>
      cases hole with
      | none =>
        cases i with
        | zero => simp at h; exact .inr ⟨_, _, _, _, h.symm⟩
        | succ i => exact rowsOnly_get (by simpa [rowsOnly] using hr) (by simpa using h)
      | some _ => simp [rowsOnly] at hr
    | _ => simp [rowsOnly] at hr

/-- Such objects speak of no others. -/
theorem ObOk.free {ρ ρ' : Nat → Value} {n n' : Nat → Prop} {w : World} {S : Nat → Prop} {ob : Ob} {x : Value} (hf : (∃ e sz m ex cs, ob = .row e sz m ex cs) ∨ ∃ e sz m cs, ob = .nest e sz m cs none) (h : ObOk ρ n w S ob x) : ObOk ρ' n' w S ob x := by
  rcases hf with ⟨e, sz, m, ex, cs, rfl⟩ | ⟨e, sz, m, cs, rfl⟩
  · exact h
  · obtain ⟨xs, h1, h2, h3, h4, h5, h6, h7⟩ := h
    exact ⟨xs, h1, h2, h3, h4, fun p y hp => (by cases hp), h6, h7⟩

section
variable {P : Program} {T : Tab} {N : Nat} {sl : Slots} {obs obsR : Obs} {n : Nat → Prop} {ρ ρR : Nat → Value} {S S' : Nat → Prop} {S0 : Fr} {a : Act} {w w0 w' : World}

theorem get_app {obs obsR : Obs} {i : Nat} {ob : Ob} (h : (obs ++ obsR)[i]? = some ob) : (i < obs.length ∧ obs[i]? = some ob) ∨ ∃ j, i = obs.length + j ∧ obsR[j]? = some ob := by
  by_cases hi : i < obs.length
  · rw [List.getElem?_append_left hi] at h; exact .inl ⟨hi, h⟩
  · rw [List.getElem?_append_right (by omega)] at h
    exact .inr ⟨i - obs.length, by omega, h⟩

theorem SatW.merge (h : SatW w0 S0 obs ρ S w) (hR : SatW w (Fr.of S) obsR ρR S' w') (hrows : rowsOnly obsR = true) : SatW w0 S0 (obs ++ obsR) (mrg obs.length ρ ρR) S' w' := by
  have hle := hR.toLe
  have hk := h.keeps hle
  have hold' : ∀ i ob b, obs[i]? = some ob → ob.live = true → Owns w' ob (mrg obs.length ρ ρR i) b → Owns w ob (ρ i) b := by
    intro i ob b hi hl hb
    rw [mrg_lt (List.getElem?_eq_some_iff.1 hi).1] at hb
    exact h.same hi hl (fun g hg => Below.block hle g (h.owned hi hl hg)) hb
  have hold : ∀ i ob b, obs[i]? = some ob → ob.live = true → Owns w' ob (mrg obs.length ρ ρR i) b → b < w.heap.size := by
    intro i ob b hi hl hb
    exact h.owned hi hl (hold' i ob b hi hl hb)
  have hnew : ∀ j ob b, obsR[j]? = some ob → ob.live = true → Owns w' ob (ρR j) b → w.heap.size ≤ b := by
    intro j ob b hj hl hb
    rcases (hR.own j ob b hj hl hb).1 with h | h
    · exact h
    · exact h.elim
  refine ⟨fun i ob hi => ?_, fun i j oi oj b hi hj li lj bi bj => ?_, fun i ob b hi hl hb => ?_, fun b hb => hR.sub b (h.sub b hb), hR.lt, fun b hb => ?_, h.le.trans hle, fun i hi => ?_, fun i v hp => ⟨(mrg_lt (h.pins i v hp).2).trans (h.pins i v hp).1, by rw [List.length_append]; exact Nat.lt_add_right _ (h.pins i v hp).2⟩⟩
  · rcases get_app hi with ⟨h1, h2⟩ | ⟨j, rfl, h2⟩
    · rw [mrg_lt h1]
      exact (h.objs i ob h2).mono (fun g hl hg => Below.block hle g (h.owned h2 hl hg)) hk hR.sub (fun j hj => by simp only [Lt, List.length_append] at *; omega) (fun j hj => mrg_lt hj)
    · rw [mrg_ge]
      exact (hR.objs j _ h2).free (rowsOnly_get hrows h2)
  · rcases get_app hi with ⟨h1, h2⟩ | ⟨i', rfl, h2⟩ <;> rcases get_app hj with ⟨h3, h4⟩ | ⟨j', rfl, h4⟩
    · exact h.dist i j oi oj b h2 h4 li lj (hold' i oi b h2 li bi) (hold' j oj b h4 lj bj)
    · have e1 := hold i oi b h2 li bi
      rw [mrg_ge] at bj
      have e2 := hnew j' oj b h4 lj bj
      omega
    · have e1 := hold j oj b h4 lj bj
      rw [mrg_ge] at bi
      have e2 := hnew i' oi b h2 li bi
      omega
    · rw [mrg_ge] at bi bj
      rw [hR.dist i' j' oi oj b h2 h4 li lj bi bj]
  · rcases get_app hi with ⟨h1, h2⟩ | ⟨j, rfl, h2⟩
    · have e1 := hold i ob b h2 hl hb
      obtain ⟨e2, e3⟩ := h.own i ob b h2 hl (hold' i ob b h2 hl hb)
      refine ⟨e2, fun hS => ?_⟩
      rcases hR.new b hS with h | h | h
      · exact e3 h
      · omega
      · exact h.elim
    · rw [mrg_ge] at hb
      have e1 := hnew j ob b h2 hl hb
      obtain ⟨e2, e3⟩ := hR.own j ob b h2 hl hb
      have := h.le.size
      exact ⟨.inl (by omega), e3⟩
  · rcases hR.new b hb with h1 | h1 | h1
    · exact h.new b h1
    · have := h.le.size
      exact .inr (.inl (by omega))
    · exact h1.elim
  · by_cases h1 : i < obs.length
    · rw [mrg_lt h1]; exact h.plain i h1
    · have : i = obs.length + (i - obs.length) := by omega
      rw [this, mrg_ge]
      simp at hi
      exact hR.plain _ (by omega)

theorem sh1_den {x : SV} {v : Value} (hd : Den ρR (Lt obsR.length) w' S' x v) (hok : okR x = true) : Den (mrg obs.length ρ ρR) (Lt (obs ++ obsR).length) w' S' (sh1 obs.length x) v := by
  cases hd with
  | p h => exact .p h
  | kb b => exact .kb b
  | nil => exact .nil
  | ob hi =>
    rename_i i
    have : Den (mrg obs.length ρ ρR) (Lt (obs ++ obsR).length) w' S' (.ob (obs.length + i)) (mrg obs.length ρ ρR (obs.length + i)) := .ob (by simp only [Lt, List.length_append] at *; omega)
    rwa [mrg_ge] at this
  | _ => cases hok

theorem okRL_get : ∀ {l : List SV} {j : Nat} {p : SV}, okRL l = true → l[j]? = some p → okR p = true
  | [], _, _, _, h => by simp at h
  | x :: r, j, p, hr, h => by
    simp only [okRL, Bool.and_eq_true] at hr
    cases j with
    | zero => simp at h; subst h; exact hr.1
    | succ j => exact okRL_get hr.2 (by simpa using h)

theorem shS_den {x : SV} {v : Value} (hd : Den ρR (Lt obsR.length) w' S' x v) (hok : okRS x = true) : Den (mrg obs.length ρ ρR) (Lt (obs ++ obsR).length) w' S' (shS obs.length x) v := by
  cases hd with
  | tup hl hh =>
    simp only [okRS] at hok
    simp only [shS, shL_eq]
    refine .tup (by simpa using hl) fun j p x hp hx => ?_
    rw [List.getElem?_map, Option.map_eq_some_iff] at hp
    obtain ⟨q, hq, rfl⟩ := hp
    exact sh1_den (hh j q x hq hx) (okRL_get hok hq)
  | p h => exact .p h
  | kb b => exact .kb b
  | nil => exact .nil
  | ob hi => exact sh1_den (.ob hi) rfl
  | _ => cases hok

/-! ### Freezing -/

theorem frozen_row {e : TypeId} {sz m : Nat} {ex : Bool} {cs : List PV} {xs : List Value} {x : Value} {S1 : Nat → Prop} (hs : ∀ b, S b → S1 b) (hx : ∀ b, blk x = some b → S1 b) (hrow : RowOk w e sz m xs ex x) (hr : RepL (Rep w S) cs xs) (h1 : Ones xs) : Rep w S1 (.sl ex m cs) x := by
  obtain ⟨hl, hv⟩ := hrow
  rcases hv with ⟨rfl, rfl⟩ | ⟨g, cap, cur, rfl, hg, hnc, _, hcs, ht, hex⟩
  · have hx0 : xs = [] := List.eq_nil_of_length_eq_zero (by simpa using hl)
    subst hx0
    have hc0 : cs = [] := List.eq_nil_of_length_eq_zero (by simpa using hr.1)
    subst hc0
    exact Rep.nil0 _
  · have hr' := hr.mono (w' := w) (fun _ _ => rfl) hs
    refine .sl (hx g rfl) hnc hex hr'.1 h1 (fun j c hj => ?_) hr'.2
    rw [Addr.add0, Nat.zero_add, cell_of_row w g j cur e (0, 0) hg]
    rw [← ht, List.getElem?_take] at hj
    split at hj
    · simpa using hj
    · cases hj

theorem nc_rep {c : NC} {v : Value} {S1 : Nat → Prop} (hs : ∀ b, S b → S1 b) (hx : ∀ b, isOw c = true → blk v = some b → S1 b) (h : NcOk w S c v) : Rep w S1 (ncP c) v := by
  cases c with
  | pu p => exact Rep.mono (fun _ _ => rfl) hs h
  | ow e sz m l =>
    obtain ⟨ys, h1, h2, h3⟩ := h
    exact frozen_row hs (fun b hb => hx b rfl hb) h1 h2 h3

theorem frozen_nest {e : TypeId} {sz m : Nat} {cs : List NC} {x : Value} {S1 : Nat → Prop} (hs : ∀ b, S b → S1 b) (hx : ∀ b, Owns w (.nest e sz m cs none) x b → S1 b) (hob : ObOk ρ n w S (.nest e sz m cs none) x) : Rep w S1 (.sl false m (cs.map ncP)) x := by
  obtain ⟨xs, hrow, hlen, h1, h3, _, _, _⟩ := hob
  refine frozen_row (S := S1) (fun _ h => h) (fun b hb => hx b (.inl hb)) hrow ⟨by simpa using hlen, fun j p v hp hv => ?_⟩ h1
  rw [List.getElem?_map, Option.map_eq_some_iff] at hp
  obtain ⟨c, hc, rfl⟩ := hp
  have hoff : Off none j := fun p y he => by cases he
  exact nc_rep hs (fun b how hb => hx b (.inr ⟨_, _, _, _, _, xs, j, rfl, hrow, c, v, hc, how, hoff, hv, hb⟩)) (h3 j c v hc hv hoff)

theorem frozen_spec {ob : Ob} {x : Value} {k : PV → Prop} (h : frozen ob k) (hob : ObOk ρ n w S ob x) : ∃ y, k y ∧ Rep w (fun b => S b ∨ Owns w ob x b) y x := by
  have mono : ∀ {l : List PV} {xs : List Value}, RepL (Rep w S) l xs → RepL (Rep w (fun b => S b ∨ Owns w ob x b)) l xs := fun h => h.mono (fun _ _ => rfl) (fun _ h => .inl h)
  cases ob with
  | row e sz m ex cs =>
    obtain ⟨xs, hrow, hr, h1⟩ := hob
    exact ⟨_, h, frozen_row (fun _ h => .inl h) (fun b hb => .inr (.inl hb)) hrow hr h1⟩
  | nest e sz m cs hole =>
    cases hole with
    | none => exact ⟨_, h, frozen_nest (fun _ h => .inl h) (fun b hb => .inr hb) hob⟩
    | some _ => exact h.elim
  | arr t cs =>
    obtain ⟨b, xs, rfl, hb, hr, h1⟩ := hob
    refine ⟨_, h, ?_⟩
    have hr' := mono hr
    refine .fp (.inr (.inl rfl)) hr'.1 h1 (fun j c hj => ?_) hr'.2
    rw [Addr.add0, Nat.zero_add, cell_of_row w b j xs.toArray t (0, 0) hb]
    simpa using hj
  | box t cs =>
    obtain ⟨b, xs, rfl, hb, hr, h1⟩ := hob
    simp only [frozen] at h
    cases hp : pures cs with
    | none => simp only [hp] at h
    | some l =>
      simp only [hp, fL_iff] at h
      refine ⟨_, h, ?_⟩
      have hr' := mono (pures_spec hp hr)
      refine .fp (.inr (.inl rfl)) hr'.1 h1 (fun j c hj => ?_) hr'.2
      rw [Addr.add0, Nat.zero_add, cell_of_row w b j xs.toArray t (0, 0) hb]
      simpa using hj
  | dead => exact h.elim

theorem sub1_den {i : Nat} {y : PV} (hy : Rep w S y (ρ i)) {x : SV} {v : Value} (hd : Den ρ n w S x v) : Den ρ n w S (sub1 i y x) v := by
  cases hd with
  | ob hi =>
    rename_i j
    simp only [sub1]
    cases hb : Nat.beq j i with
    | true =>
      have : j = i := Nat.eq_of_beq_eq_true hb
      subst this
      exact .p hy
    | false => exact .ob hi
  | p h => exact .p h
  | kb b => exact .kb b
  | any v => exact .any v
  | nil => exact .nil
  | pt hi hb => exact .pt hi hb
  | ag hl h1 hh => exact .ag hl h1 hh
  | tup hl hh => exact .tup hl hh
  | cl ha hb h1 h2 => exact .cl ha hb h1 h2

theorem subM_den {i : Nat} {y : PV} (hy : Rep w S y (ρ i)) {l : List SV} {xs : List Value} (hd : DenL ρ n w S l xs) : DenL ρ n w S (subM i y l) xs := by
  rw [subM_eq]
  refine ⟨by simpa using hd.1, fun j p x hp hx => ?_⟩
  rw [List.getElem?_map, Option.map_eq_some_iff] at hp
  obtain ⟨q, hq, rfl⟩ := hp
  exact sub1_den hy (hd.2 j q x hq hx)

theorem subV_den {i : Nat} {y : PV} (hy : Rep w S y (ρ i)) {x : SV} {v : Value} (hd : Den ρ n w S x v) : Den ρ n w S (subV i y x) v := by
  cases hd with
  | ob hi => exact sub1_den hy (.ob hi)
  | p h => exact .p h
  | kb b => exact .kb b
  | any v => exact .any v
  | nil => exact .nil
  | pt hi hb => exact .pt hi hb
  | ag hl h1 hh => exact aggOf_den (subM_den hy ⟨hl, hh⟩) h1
  | tup hl hh => have := subM_den hy (⟨hl, hh⟩ : DenL ρ n w S _ _); exact .tup this.1 this.2
  | cl ha hb h1 h2 => exact clOf_den (subM_den hy ⟨ha, h1⟩) (subM_den hy ⟨hb, h2⟩)

def subSl (i : Nat) (y : PV) (sl : Slots) : Slots := sl.map fun p => (p.1, subV i y p.2)

theorem subS_iff (i : Nat) (y : PV) (sl : Slots) (k : Slots → Prop) : subS i y sl k ↔ k (subSl i y sl) := by
  induction sl generalizing k with
  | nil => exact Iff.rfl
  | cons p r ih => obtain ⟨t, x⟩ := p; simp [subS, fSV_iff, ih, subSl]

theorem get_subSl (i : Nat) (y : PV) (sl : Slots) (t : Nat) : (subSl i y sl).get t = subV i y (sl.get t) := by
  induction sl with
  | nil => rfl
  | cons p r ih =>
    obtain ⟨d, x⟩ := p
    have : subSl i y ((d, x) :: r) = (d, subV i y x) :: subSl i y r := rfl
    rw [this, get_cons, get_cons, ih]
    split <;> rfl

theorem subB_live (i : Nat) (y : PV) (ob : Ob) : (subB i y ob).live = ob.live := by cases ob <;> rfl

theorem subH_off {i : Nat} {y : PV} {h : Option (Nat × SV)} {j : Nat} : Off (subH i y h) j ↔ Off h j := by
  cases h with
  | none => exact ⟨fun _ p y he => (by cases he), fun _ p y he => (by cases he)⟩
  | some q =>
    obtain ⟨p, z⟩ := q
    exact ⟨fun h p' y' he => by cases he; exact h p _ rfl, fun h p' y' he => by cases he; exact h p _ rfl⟩

theorem inn_off {cs : List NC} {h h' : Option (Nat × SV)} {xs : List Value} {j b : Nat} (hh : ∀ j, Off h j → Off h' j) (hi : Inn cs h xs j b) : Inn cs h' xs j b := by
  obtain ⟨c, v, h1, h2, h3, h4, h5⟩ := hi
  exact ⟨c, v, h1, h2, hh j h3, h4, h5⟩

theorem owns_subB {i : Nat} {y : PV} {ob : Ob} {x : Value} {b : Nat} (h : Owns w (subB i y ob) x b) : Owns w ob x b := by
  rcases h with h | ⟨e, sz, m, cs, hole, xs, j, he, hr, hin⟩
  · exact .inl h
  · cases ob <;> simp only [subB] at he <;> first | (cases he; done) | skip
    cases he
    exact .inr ⟨_, _, _, _, _, xs, j, rfl, hr, inn_off (fun j => subH_off.1) hin⟩

theorem owns_subB' {i : Nat} {y : PV} {ob : Ob} {x : Value} {b : Nat} (h : Owns w ob x b) : Owns w (subB i y ob) x b := by
  rcases h with h | ⟨e, sz, m, cs, hole, xs, j, rfl, hr, hin⟩
  · exact .inl h
  · exact .inr ⟨_, _, _, _, _, xs, j, rfl, hr, inn_off (fun j => subH_off.2) hin⟩

theorem SatW.subst (h : SatW w0 S0 obs ρ S w) {i : Nat} {y : PV} (hy : Rep w S y (ρ i)) : SatW w0 S0 (subO i y obs) ρ S w := by
  rw [subO_eq]
  have get : ∀ (j : Nat) (o : Ob), (obs.map (subB i y))[j]? = some o → ∃ o', obs[j]? = some o' ∧ o = subB i y o' := by
    intro j o ho
    rw [List.getElem?_map, Option.map_eq_some_iff] at ho
    obtain ⟨o', h1, h2⟩ := ho
    exact ⟨o', h1, h2.symm⟩
  refine ⟨fun j o ho => ?_, fun j k oj ok b hj hk lj lk bj bk => ?_, fun j o b ho hl hb => ?_, h.sub, h.lt, h.new, h.le, by simpa using h.plain, by simpa using h.pins⟩
  · obtain ⟨o', ho', rfl⟩ := get j o ho
    rw [List.length_map]
    have := h.objs j o' ho'
    cases o' with
    | box t cs =>
      obtain ⟨b, xs, hx, hb, hd, h1⟩ := this
      exact ⟨b, xs, hx, hb, subM_den hy hd, h1⟩
    | nest e sz m cs hole =>
      obtain ⟨xs, h1, h2, h3, h4, h5, h6, h7⟩ := this
      refine ⟨xs, h1, h2, h3, fun j c v hc hv ho => h4 j c v hc hv (subH_off.1 ho), fun p z hp => ?_, fun j j' b hj hj' => h6 j j' b (inn_off (fun j => subH_off.1) hj) (inn_off (fun j => subH_off.1) hj'), fun j b hj => h7 j b (inn_off (fun j => subH_off.1) hj)⟩
      cases hole with
      | none => cases hp
      | some q =>
        obtain ⟨p', z'⟩ := q
        cases hp
        obtain ⟨v, hv, hd⟩ := h5 _ _ rfl
        exact ⟨v, hv, sub1_den hy hd⟩
    | _ => exact this
  · obtain ⟨oj', hj', rfl⟩ := get j oj hj
    obtain ⟨ok', hk', rfl⟩ := get k ok hk
    rw [subB_live] at lj lk
    exact h.dist j k oj' ok' b hj' hk' lj lk (owns_subB bj) (owns_subB bk)
  · obtain ⟨o', ho', rfl⟩ := get j o ho
    rw [subB_live] at hl
    exact h.own j o' b ho' hl (owns_subB hb)

theorem fSVs_iff (l : List SV) (k : List SV → Prop) : fSVs l k ↔ k l := by
  induction l generalizing k with
  | nil => rfl
  | cons x r ih => simp only [fSVs, fSV_iff, ih]

theorem fOb_iff (o : Ob) (k : Ob → Prop) : fOb o k ↔ k o := by cases o <;> simp only [fOb, fSVs_iff]

theorem subOF_iff (i : Nat) (y : PV) (obs : Obs) (k : Obs → Prop) : subOF i y obs k ↔ k (subO i y obs) := by
  induction obs generalizing k with
  | nil => rfl
  | cons o r ih => simp only [subOF, fOb_iff, ih, subO]

theorem frz1_spec (i : Nat) {k : K} (h : frz1 i k sl obs) (hA : SatA N sl (Lt obs.length) ρ S w a) (hW : SatW w0 S0 obs ρ S w) :
    ∃ sl' obs' S', k sl' obs' ∧ SatA N sl' (Lt obs'.length) ρ S' w a ∧ SatW w0 S0 obs' ρ S' w ∧ obs'.length = obs.length ∧ (∀ b, S b → S' b) ∧ (∀ ob b, obs[i]? = some ob → ob.live = true → Owns w ob (ρ i) b → S' b) ∧ ∀ (j : Nat) (ob : Ob), obs[j]? = some ob → ob.live = true → j ≠ i → ∃ ob', obs'[j]? = some ob' ∧ ob'.live = true ∧ ∀ b, Owns w ob (ρ j) b → Owns w ob' (ρ j) b := by
  unfold frz1 at h
  rw [at_iff] at h
  obtain ⟨ob, hi, h⟩ := h
  cases hl : ob.live with
  | false => simp only [hl] at h; exact ⟨sl, obs, S, h, hA, hW, rfl, fun _ h => h, (fun ob' b hi' hl' => by rw [hi] at hi'; cases hi'; rw [hl] at hl'; cases hl'), fun j ob hj hlj _ => ⟨ob, hj, hlj, fun _ h => h⟩⟩
  | true =>
    simp only [hl] at h
    obtain ⟨y, h, hy⟩ := frozen_spec h (hW.objs i ob hi)
    rw [subS_iff, subOF_iff, upd_iff] at h
    have hkill := (hW.kill i).more (S' := fun b => S b ∨ Owns w ob (ρ i) b) (fun _ h => .inl h) (by
      intro b hb
      rcases hb with hb | hb
      · exact hW.lt b hb
      · exact (hW.objs i ob hi).lt hl hb) (by
      intro b hb
      rcases hb with hb | hb
      · exact .inl hb
      · refine .inr ⟨(hW.own i ob b hi hl hb).1, fun j oj hj lj bj => ?_⟩
        rcases get_set hj with ⟨h3, h4⟩ | ⟨_, _, rfl⟩
        · exact h3 (hW.dist i j ob oj b hi h4 hl lj hb bj)
        · cases lj)
    have hsub := hkill.subst hy
    have he : (subO i y obs).set i .dead = subO i y (obs.set i .dead) := by
      rw [subO_eq, subO_eq, List.map_set]; rfl
    refine ⟨_, _, fun b => S b ∨ Owns w ob (ρ i) b, h.2, ⟨hA.size, hA.defs, fun t => ?_⟩, by rw [he]; exact hsub, by simp [subO_eq], fun _ h => .inl h, fun ob1 b h1 _ hb => .inr (by rw [hi] at h1; cases h1; exact hb), fun j ob' hj hlj hji => ⟨subB i y ob', by rw [List.getElem?_set_ne (fun e => hji e.symm), subO_eq, List.getElem?_map, hj]; rfl, by rw [subB_live]; exact hlj, fun b hb => owns_subB' hb⟩⟩
    rw [get_subSl]
    have e : ((subO i y obs).set i .dead).length = obs.length := by simp [subO_eq]
    rw [e]
    exact subV_den hy ((hA.slots t).mono (fun _ _ => rfl) (fun _ h => .inl h) (fun _ h => h) (fun _ _ => rfl))

/-- An object is told in another way; what it owns, it owned, or object j did, which is given up. -/
theorem SatW.retell (h : SatW w0 S0 obs ρ S w) {i j : Nat} {ob ob' oj : Ob} (hi : obs[i]? = some ob) (hl : ob.live = true) (hj : obs[j]? = some oj) (hlj : oj.live = true) (hij : i ≠ j) (hob : ObOk ρ (Lt obs.length) w S ob' (ρ i)) (hown : ∀ b, Owns w ob' (ρ i) b → Owns w ob (ρ i) b ∨ Owns w oj (ρ j) b) :
    SatW w0 S0 ((obs.set j .dead).set i ob') ρ S w := by
  have get : ∀ k o, ((obs.set j .dead).set i ob')[k]? = some o → (k = i ∧ o = ob') ∨ (k ≠ i ∧ k = j ∧ o = .dead) ∨ (k ≠ i ∧ k ≠ j ∧ obs[k]? = some o) := by
    intro k o hk
    rcases get_set hk with ⟨h1, h2⟩ | ⟨rfl, _, rfl⟩
    · rcases get_set h2 with ⟨h3, h4⟩ | ⟨rfl, _, rfl⟩
      · exact .inr (.inr ⟨Ne.symm h1, Ne.symm h3, h4⟩)
      · exact .inr (.inl ⟨Ne.symm h1, rfl, rfl⟩)
    · exact .inl ⟨rfl, rfl⟩
  -- where a block comes from
  have from_ : ∀ k o b, ((obs.set j .dead).set i ob')[k]? = some o → o.live = true → Owns w o (ρ k) b → ∃ s os, obs[s]? = some os ∧ os.live = true ∧ Owns w os (ρ s) b ∧ (k = i ∧ (s = i ∨ s = j) ∨ (k ≠ i ∧ k ≠ j ∧ s = k)) := by
    intro k o b hk hlo hb
    rcases get k o hk with ⟨rfl, rfl⟩ | ⟨_, _, rfl⟩ | ⟨h1, h2, h3⟩
    · rcases hown b hb with hb | hb
      · exact ⟨k, ob, hi, hl, hb, .inl ⟨rfl, .inl rfl⟩⟩
      · exact ⟨j, oj, hj, hlj, hb, .inl ⟨rfl, .inr rfl⟩⟩
    · cases hlo
    · exact ⟨k, o, h3, hlo, hb, .inr ⟨h1, h2, rfl⟩⟩
  refine ⟨fun k o hk => ?_, fun k k' o o' b hk hk' lk lk' bk bk' => ?_, fun k o b hk hlo hb => ?_, h.sub, h.lt, h.new, h.le, by simpa using h.plain, by simpa using h.pins⟩
  · rw [List.length_set, List.length_set]
    rcases get k o hk with ⟨rfl, rfl⟩ | ⟨_, _, rfl⟩ | ⟨_, _, h3⟩
    · exact hob
    · trivial
    · exact h.objs k o h3
  · obtain ⟨s, os, a1, a2, a3, a4⟩ := from_ k o b hk lk bk
    obtain ⟨s', os', b1, b2, b3, b4⟩ := from_ k' o' b hk' lk' bk'
    have := h.dist s s' os os' b a1 b1 a2 b2 a3 b3
    omega
  · obtain ⟨s, os, a1, a2, a3, _⟩ := from_ k o b hk hlo hb
    exact h.own s os b a1 a2 a3

theorem _root_.Go.Vc.RowOk.inexact {e : TypeId} {sz m : Nat} {xs : List Value} {ex : Bool} {x : Value} (h : RowOk w e sz m xs ex x) : RowOk w e sz m xs false x := by
  refine ⟨h.1, ?_⟩
  rcases h.2 with h | ⟨g, cap, cur, r1, r2, r3, r4, r5, r6, _⟩
  · exact .inl h
  · exact .inr ⟨g, cap, cur, r1, r2, r3, r4, r5, r6, by simp⟩

theorem den_ob {i : Nat} {v : Value} (h : Den ρ n w S (.ob i) v) : v = ρ i := by
  generalize hz : (SV.ob i) = z at h
  cases h <;> cases hz
  rfl

theorem den_obB {i : Nat} {v : Value} (h : Den ρ n w S (.ob i) v) : n i := by
  generalize hz : (SV.ob i) = z at h
  cases h <;> cases hz
  assumption

theorem den_p {x : PV} {v : Value} (h : Den ρ n w S (.p x) v) : Rep w S x v := by
  generalize hz : (SV.p x) = z at h
  cases h <;> cases hz
  assumption

theorem set_get {α : Type} {l : List α} {p q : Nat} {x c : α} (h : (l.set p x)[q]? = some c) : (q = p ∧ c = x) ∨ (q ≠ p ∧ l[q]? = some c) := by
  by_cases hq : q = p
  · subst hq
    have hlt : q < l.length := by simpa using (List.getElem?_eq_some_iff.1 h).1
    rw [List.getElem?_set_self hlt] at h
    exact .inl ⟨rfl, by simpa using h.symm⟩
  · rw [List.getElem?_set_ne (Ne.symm hq)] at h
    exact .inr ⟨hq, h⟩

theorem SatW.checkin (h : SatW w0 S0 obs ρ S w) {i j p : Nat} {e e' : TypeId} {sz m sz' m' : Nat} {cs : List NC} {ex : Bool} {l : List PV} (hi : obs[i]? = some (.nest e sz m cs (some (p, .ob j)))) (hj : obs[j]? = some (.row e' sz' m' ex l)) :
    SatW w0 S0 ((obs.set j .dead).set i (.nest e sz m (cs.set p (.ow e' sz' m' l)) none)) ρ S w := by
  have hij : i ≠ j := by rintro rfl; rw [hi] at hj; cases hj
  obtain ⟨xs, h1, h2, h3, h4, h5, h6, h7⟩ := h.objs i _ hi
  obtain ⟨ys, r1, r2, r3⟩ := h.objs j _ hj
  obtain ⟨v, hv, hd⟩ := h5 p _ rfl
  have hv' := den_ob hd
  subst hv'
  have inn : ∀ q b, Inn (cs.set p (.ow e' sz' m' l)) none xs q b → (q = p ∧ blk (ρ j) = some b) ∨ (q ≠ p ∧ Inn cs (some (p, .ob j)) xs q b) := by
    rintro q b ⟨c, u, hc, how, _, hu, hb⟩
    rcases set_get hc with ⟨rfl, rfl⟩ | ⟨hq, hc⟩
    · rw [hv] at hu
      cases hu
      exact .inl ⟨rfl, hb⟩
    · exact .inr ⟨hq, c, u, hc, how, (fun p' y' he => by cases he; exact hq), hu, hb⟩
  have clash : ∀ b, blk (ρ j) = some b → ¬ Owns w (.nest e sz m cs (some (p, .ob j))) (ρ i) b := fun b hb hb' => hij (h.dist i j _ _ b hi hj rfl rfl hb' (.inl hb))
  refine h.retell hi rfl hj rfl hij ⟨xs, h1, by simpa using h2, h3, fun q c u hc hu _ => ?_, fun p y he => (by cases he), fun q q' b hq hq' => ?_, fun q b hq hb => ?_⟩ ?_
  · rcases set_get hc with ⟨rfl, rfl⟩ | ⟨hq, hc⟩
    · rw [hv] at hu
      cases hu
      exact ⟨ys, r1.inexact, r2, r3⟩
    · exact h4 q c u hc hu (fun p' y' he => by cases he; exact hq)
  · rcases inn q b hq with ⟨rfl, g1⟩ | ⟨g0, g1⟩ <;> rcases inn q' b hq' with ⟨rfl, g2⟩ | ⟨g3, g2⟩
    · rfl
    · exact (clash b g1 (.inr ⟨_, _, _, _, _, xs, q', rfl, h1, g2⟩)).elim
    · exact (clash b g2 (.inr ⟨_, _, _, _, _, xs, q, rfl, h1, g1⟩)).elim
    · exact h6 q q' b g1 g2
  · rcases inn q b hq with ⟨rfl, g1⟩ | ⟨g0, g1⟩
    · exact clash b g1 (.inl hb)
    · exact h7 q b g1 hb
  · rintro b (hb | ⟨e1, sz1, m1, cs1, hh1, xs1, q, he, hr, hin⟩)
    · exact .inl (.inl hb)
    · cases he
      have := h1.uniq hr
      subst this
      rcases inn q b hin with ⟨rfl, g1⟩ | ⟨g0, g1⟩
      · exact .inr (.inl g1)
      · exact .inl (.inr ⟨_, _, _, _, _, xs, q, rfl, h1, g1⟩)

/-- An object is told in another way. -/
theorem SatW.retell1 (h : SatW w0 S0 obs ρ S w) {i : Nat} {ob ob' : Ob} (hi : obs[i]? = some ob) (hl : ob.live = true) (hob : ObOk ρ (Lt obs.length) w S ob' (ρ i)) (hown : ∀ b, Owns w ob' (ρ i) b → Owns w ob (ρ i) b) :
    SatW w0 S0 (obs.set i ob') ρ S w := by
  have from_ : ∀ k o b, (obs.set i ob')[k]? = some o → o.live = true → Owns w o (ρ k) b → ∃ os, obs[k]? = some os ∧ os.live = true ∧ Owns w os (ρ k) b := by
    intro k o b hk hlo hb
    rcases get_set hk with ⟨h1, h2⟩ | ⟨rfl, _, rfl⟩
    · exact ⟨o, h2, hlo, hb⟩
    · exact ⟨ob, hi, hl, hown b hb⟩
  refine ⟨fun k o hk => ?_, fun k k' o o' b hk hk' lk lk' bk bk' => ?_, fun k o b hk hlo hb => ?_, h.sub, h.lt, h.new, h.le, by simpa using h.plain, by simpa using h.pins⟩
  · rw [List.length_set]
    rcases get_set hk with ⟨h1, h2⟩ | ⟨rfl, _, rfl⟩
    · exact h.objs k o h2
    · exact hob
  · obtain ⟨os, a1, a2, a3⟩ := from_ k o b hk lk bk
    obtain ⟨os', b1, b2, b3⟩ := from_ k' o' b hk' lk' bk'
    exact h.dist k k' os os' b a1 b1 a2 b2 a3 b3
  · obtain ⟨os, a1, a2, a3⟩ := from_ k o b hk hlo hb
    exact h.own k os b a1 a2 a3

theorem SatW.checkinP (h : SatW w0 S0 obs ρ S w) {i p : Nat} {e : TypeId} {sz m : Nat} {cs : List NC} {x : PV} (hi : obs[i]? = some (.nest e sz m cs (some (p, .p x)))) :
    SatW w0 S0 (obs.set i (.nest e sz m (cs.set p (.pu x)) none)) ρ S w := by
  obtain ⟨xs, h1, h2, h3, h4, h5, h6, h7⟩ := h.objs i _ hi
  obtain ⟨v, hv, hd⟩ := h5 p _ rfl
  have hrep := den_p hd
  have inn : ∀ q b, Inn (cs.set p (.pu x)) none xs q b → Inn cs (some (p, .p x)) xs q b := by
    rintro q b ⟨c, u, hc, how, _, hu, hb⟩
    rcases set_get hc with ⟨rfl, rfl⟩ | ⟨hq, hc⟩
    · cases how
    · exact ⟨c, u, hc, how, (fun p' y' he => by cases he; exact hq), hu, hb⟩
  refine h.retell1 hi rfl ⟨xs, h1, by simpa using h2, h3, fun q c u hc hu _ => ?_, fun p y he => (by cases he), fun q q' b hq hq' => h6 q q' b (inn q b hq) (inn q' b hq'), fun q b hq => h7 q b (inn q b hq)⟩ ?_
  · rcases set_get hc with ⟨rfl, rfl⟩ | ⟨hq, hc⟩
    · rw [hv] at hu
      cases hu
      exact hrep
    · exact h4 q c u hc hu (fun p' y' he => by cases he; exact hq)
  · rintro b (hb | ⟨e1, sz1, m1, cs1, hh1, xs1, q, he, hr, hin⟩)
    · exact .inl hb
    · cases he
      have := h1.uniq hr
      subst this
      exact .inr ⟨_, _, _, _, _, xs, q, rfl, h1, inn q b hin⟩

theorem inN_spec (i : Nat) {k : K} (h : inN i k sl obs) (hW : SatW w0 S0 obs ρ S w) : ∃ obs', k sl obs' ∧ SatW w0 S0 obs' ρ S w ∧ obs'.length = obs.length := by
  unfold inN at h
  rw [at_iff] at h
  obtain ⟨ob, hi, h⟩ := h
  split at h
  · rename_i e sz n cs p y
    split at h
    · rename_i j
      rw [at_iff] at h
      obtain ⟨oj, hj, h⟩ := h
      split at h
      · rw [upd_iff] at h
        obtain ⟨_, h⟩ := h
        rw [upd_iff] at h
        exact ⟨_, h.2, hW.checkin hi hj, by simp⟩
      · exact h.elim
    · rw [upd_iff] at h
      exact ⟨_, h.2, hW.checkinP hi, by simp⟩
    · exact h.elim
  · exact ⟨obs, h, hW, rfl⟩

theorem vcIn_spec {k : K} (h : vcIn k sl obs) (hA : SatA N sl (Lt obs.length) ρ S w a) (hW : SatW w0 S0 obs ρ S w) : ∃ obs', k sl obs' ∧ SatA N sl (Lt obs'.length) ρ S w a ∧ SatW w0 S0 obs' ρ S w ∧ obs'.length = obs.length := by
  unfold vcIn at h
  cases hh : holeIx 0 obs with
  | some i =>
    simp only [hh] at h
    obtain ⟨obs', h1, h2, h3⟩ := inN_spec _ h hW
    exact ⟨obs', h1, by rw [h3]; exact hA, h2, h3⟩
  | none =>
    simp only [hh] at h
    exact ⟨obs, h, hA, hW, rfl⟩

theorem frzL_spec : ∀ (is : List Nat) {sl : Slots} {obs : Obs} {S : Nat → Prop} {k : K}, frzL is k sl obs → SatA N sl (Lt obs.length) ρ S w a → SatW w0 S0 obs ρ S w →
    ∃ sl' obs' S', k sl' obs' ∧ SatA N sl' (Lt obs'.length) ρ S' w a ∧ SatW w0 S0 obs' ρ S' w ∧ obs'.length = obs.length ∧ (∀ b, S b → S' b) ∧ (∀ i ∈ is, ∀ ob b, obs[i]? = some ob → ob.live = true → Owns w ob (ρ i) b → S' b) ∧ ∀ (i : Nat) (ob : Ob), obs[i]? = some ob → ob.live = true → i ∉ is → ∃ ob', obs'[i]? = some ob' ∧ ob'.live = true ∧ ∀ b, Owns w ob (ρ i) b → Owns w ob' (ρ i) b
  | [], sl, obs, S, k, h, hA, hW => ⟨sl, obs, S, h, hA, hW, rfl, fun _ h => h, fun i hi => by simp at hi, fun i ob hi hl _ => ⟨ob, hi, hl, fun _ h => h⟩⟩
  | i :: r, sl, obs, S, k, h, hA, hW => by
    obtain ⟨sl1, obs1, S1, h, hA1, hW1, hl1, hs1, hb1, hk1⟩ := frz1_spec i h hA hW
    obtain ⟨sl2, obs2, S2, h, hA2, hW2, hl2, hs2, hb2, hk2⟩ := frzL_spec r h hA1 hW1
    refine ⟨sl2, obs2, S2, h, hA2, hW2, by omega, fun b hb => hs2 b (hs1 b hb), fun j hj ob b ho hl hb => ?_, fun j ob ho hl hj => ?_⟩
    · by_cases hji : j = i
      · subst hji; exact hs2 b (hb1 ob b ho hl hb)
      · have hjr : j ∈ r := by rcases List.mem_cons.1 hj with h | h; exact absurd h hji; exact h
        obtain ⟨ob', h1, h2, h3⟩ := hk1 j ob ho hl hji
        exact hb2 j hjr ob' b h1 h2 (h3 b hb)
    · obtain ⟨ob', h1, h2, h3⟩ := hk1 j ob ho hl (fun e => hj (by simp [e]))
      obtain ⟨ob2, h4, h5, h6⟩ := hk2 j ob' h1 h2 (fun e => hj (by simp [e]))
      exact ⟨ob2, h4, h5, fun b hb => h6 b (h3 b hb)⟩

theorem freeze_spec (xs : List Operand) {k : K} (h : vcFreeze xs k sl obs) (hA : SatA N sl (Lt obs.length) ρ S w a) (hW : SatW w0 S0 obs ρ S w) :
    ∃ sl' obs' S', k sl' obs' ∧ SatA N sl' (Lt obs'.length) ρ S' w a ∧ SatW w0 S0 obs' ρ S' w ∧ obs'.length = obs.length ∧ ∀ b, S b → S' b := by
  unfold vcFreeze at h
  rw [fL_iff, fL_iff] at h
  obtain ⟨sl1, obs1, S1, h, hA1, hW1, hl1, hs1, _⟩ := frzL_spec _ h hA hW
  obtain ⟨sl2, obs2, S2, h, hA2, hW2, hl2, hs2, _⟩ := frzL_spec _ h hA1 hW1
  exact ⟨sl2, obs2, S2, h, hA2, hW2, by omega, fun b hb => hs2 b (hs1 b hb)⟩

theorem den_kb {b : Bool} {v : Value} (h : Den ρ n w S (.kb b) v) : v = .bool b := by cases h; rfl

/-! ### Rows of rows: rows taken out, made, put in, joined -/

theorem off_none (j : Nat) : Off none j := fun _ _ he => by cases he

theorem SatW.checkout (h : SatW w0 S0 obs ρ S w) {i p : Nat} {e e' : TypeId} {sz m sz' m' : Nat} {cs : List NC} {l : List PV} (hi : obs[i]? = some (.nest e sz m cs none)) (hp : cs[p]? = some (.ow e' sz' m' l)) :
    ∃ v, SatW w0 S0 (obs.set i (.nest e sz m cs (some (p, .ob obs.length))) ++ [.row e' sz' m' false l]) (updρ ρ obs.length v) S w := by
  obtain ⟨xs, h1, h2, h3, h4, h5, h6, h7⟩ := h.objs i _ hi
  have hlt : p < xs.length := by rw [← h2]; exact (List.getElem?_eq_some_iff.1 hp).1
  have hil : i < obs.length := (List.getElem?_eq_some_iff.1 hi).1
  obtain ⟨v, hv⟩ : ∃ v, xs[p]? = some v := ⟨xs[p], List.getElem?_eq_getElem hlt⟩
  obtain ⟨ys, r1, r2, r3⟩ := h4 p _ v hp hv (off_none p)
  have inn : ∀ y q b, Inn cs (some (p, y)) xs q b → q ≠ p ∧ Inn cs none xs q b := by
    rintro y q b ⟨c, u, hc, how, ho, hu, hb⟩
    exact ⟨ho p y rfl, c, u, hc, how, off_none q, hu, hb⟩
  have sub : ∀ y b, Owns w (.nest e sz m cs (some (p, y))) (ρ i) b → blk (ρ i) = some b ∨ ∃ q, q ≠ p ∧ Inn cs none xs q b := by
    rintro y b (hb | ⟨e1, sz1, m1, cs1, hh1, xs1, q, he, hr, hin⟩)
    · exact .inl hb
    · cases he
      have := h1.uniq hr
      subst this
      exact .inr ⟨q, inn _ _ _ hin⟩
  have owns : ∀ b, (blk (ρ i) = some b ∨ ∃ q, q ≠ p ∧ Inn cs none xs q b) → Owns w (.nest e sz m cs none) (ρ i) b := by
    rintro b (hb | ⟨q, _, hin⟩)
    · exact .inl hb
    · exact .inr ⟨_, _, _, _, _, xs, q, rfl, h1, hin⟩
  have tell : ∀ (ρ' : Nat → Value) (n' : Nat → Prop) (y : SV), Den ρ' n' w S y v → ObOk ρ' n' w S (.nest e sz m cs (some (p, y))) (ρ i) := fun ρ' n' y hd =>
    ⟨xs, h1, h2, h3, fun j c u hc hu _ => h4 j c u hc hu (off_none j), fun p' y' he => (by cases he; exact ⟨v, hv, hd⟩), fun j j' b hj hj' => h6 j j' b (inn _ _ _ hj).2 (inn _ _ _ hj').2, fun j b hj => h7 j b (inn _ _ _ hj).2⟩
  have hinn : ∀ b, blk v = some b → Inn cs none xs p b := fun b hb => ⟨_, v, hp, rfl, off_none p, hv, hb⟩
  have hW1 := h.retell1 hi rfl (ob' := .nest e sz m cs (some (p, .any))) (tell _ _ _ (.any v)) (fun b hb => owns b (sub _ b hb))
  have hW2 := hW1.snoc' (ob := .row e' sz' m' false l) (x := v) ⟨ys, r1, r2, r3⟩ (by
    intro b hb
    have hb := hb.flat rfl
    have hin := hinn b hb
    have hown : Owns w (.nest e sz m cs none) (ρ i) b := .inr ⟨_, _, _, _, _, xs, p, rfl, h1, hin⟩
    obtain ⟨g1, g2⟩ := h.own i _ b hi rfl hown
    refine ⟨g1, g2, fun j oj hj lj bj => ?_⟩
    rcases get_set hj with ⟨hij, hj'⟩ | ⟨rfl, _, rfl⟩
    · exact hij (h.dist i j _ oj b hi hj' rfl lj hown bj)
    · rcases sub _ b bj with bj | ⟨q, hq, bj⟩
      · exact h7 p b hin bj
      · exact hq (h6 q p b bj hin)) (plain_row r1)
  rw [List.length_set] at hW2
  have hget : (obs.set i (.nest e sz m cs (some (p, .any))) ++ [Ob.row e' sz' m' false l])[i]? = some (.nest e sz m cs (some (p, .any))) := by
    rw [List.getElem?_append_left (by simpa using hil), List.getElem?_set_self hil]
  have hρi : updρ ρ obs.length v i = ρ i := updρ_lt hil
  have hW3 := hW2.retell1 hget rfl (ob' := .nest e sz m cs (some (p, .ob obs.length))) (by
    rw [hρi]
    refine tell _ _ _ ?_
    have : Den (updρ ρ obs.length v) (Lt (obs.set i (.nest e sz m cs (some (p, .any))) ++ [Ob.row e' sz' m' false l]).length) w S (.ob obs.length) (updρ ρ obs.length v obs.length) := .ob (by simp [Lt])
    rwa [updρ_eq] at this) (by
    intro b hb
    rw [hρi] at hb ⊢
    rcases sub _ b hb with hb | ⟨q, hq, c, u, hc, how, _, hu, hb⟩
    · exact .inl hb
    · exact .inr ⟨_, _, _, _, _, xs, q, rfl, h1, c, u, hc, how, (fun p' y' he => by cases he; exact hq), hu, hb⟩)
  refine ⟨v, ?_⟩
  rw [List.set_append_left _ _ (by simpa using hil), List.set_set] at hW3
  exact hW3

theorem outN_spec {i p : Nat} {e : TypeId} {sz m : Nat} {l : List PV} {k : K} (h : outN i p e sz m l k sl obs) (hA : SatA N sl (Lt obs.length) ρ S w a) (hW : SatW w0 S0 obs ρ S w) :
    ∃ obs' ρ', k sl obs' ∧ SatA N sl (Lt obs'.length) ρ' S w a ∧ SatW w0 S0 obs' ρ' S w := by
  unfold outN at h
  rw [at_iff] at h
  obtain ⟨ob, hi, h⟩ := h
  split at h
  · obtain ⟨hp, h⟩ := h
    rw [fN_iff, upd_iff, snoc_iff, len_eq] at h
    obtain ⟨v, hv⟩ := hW.checkout hi hp
    exact ⟨_, _, h.2, hA.mono (fun _ _ => rfl) (fun _ h => h) (fun j hj => by simp only [Lt, List.length_append, List.length_set] at *; omega) (fun j hj => updρ_lt hj), hv⟩
  · exact h.elim

theorem ghost_spec {g : Gh} {k : K} (h : ghost g k sl obs) (hA : SatA N sl (Lt obs.length) ρ S w a) (hW : SatW w0 S0 obs ρ S w) :
    ∃ obs' ρ', k sl obs' ∧ SatA N sl (Lt obs'.length) ρ' S w a ∧ SatW w0 S0 obs' ρ' S w := by
  cases g with
  | no => exact ⟨obs, ρ, h, hA, hW⟩
  | inn =>
    obtain ⟨obs', h1, h2, h3, _⟩ := vcIn_spec h hA hW
    exact ⟨obs', ρ, h1, h2, h3⟩
  | kill i =>
    simp only [ghost] at h
    rw [upd_iff] at h
    exact ⟨_, ρ, h.2, by rw [List.length_set]; exact hA, hW.kill i⟩
  | out i p e sz m l =>
    obtain ⟨obs', h1, h2, h3, _⟩ := vcIn_spec h hA hW
    exact outN_spec h1 h2 h3

theorem gh_spec {ops : List Oper} {k : K} (h : vcGh ops k sl obs) (hA : SatA N sl (Lt obs.length) ρ S w a) (hW : SatW w0 S0 obs ρ S w) :
    ∃ obs' ρ', k sl obs' ∧ SatA N sl (Lt obs'.length) ρ' S w a ∧ SatW w0 S0 obs' ρ' S w := by
  unfold vcGh at h
  cases hb : (anyNest obs && anyLoad ops) with
  | true =>
    simp only [hb] at h
    obtain ⟨g, h⟩ := h
    exact ghost_spec h hA hW
  | false =>
    simp only [hb] at h
    exact ⟨obs, ρ, h, hA, hW⟩

theorem repl_nil_get {z : List Value} (hz : nil1 z = true) {m j : Nat} {v : Value} (h : (repl m z)[j]? = some v) : v = .slice none 0 0 := by
  have hm : v ∈ repl m z := List.mem_of_getElem? h
  unfold nil1 at hz
  split at hz
  · simp only [repl, List.mem_flatten, List.mem_replicate] at hm
    obtain ⟨l, ⟨_, rfl⟩, hm⟩ := hm
    simpa using hm
  · cases hz

theorem vcMake2_spec (hT : TabOk P T) {t : Nat} {l c : Int} {k : Ob → Prop} (h : vcMake2 T t l c k) (kl kc : IntKind) :
    ∃ ob v w', k ob ∧ (Instr.makeSlice t (.int kl l) (.int kc c)).run P w = .ok v w' ∧ Le w w' ∧ ObOk ρ n w' S ob v ∧ (∀ b, Owns w' ob v b → w.heap.size ≤ b) ∧ Plain v := by
  unfold vcMake2 at h
  rw [find_iff] at h
  obtain ⟨ty, ht, h⟩ := h
  split at h
  · rename_i e hk
    have hu := kd_slice (hT _ _ ht) hk
    rw [find_iff] at h
    obtain ⟨te, hte, h⟩ := h
    split at h
    · rename_i e2 hk2
      rw [find_iff] at h
      obtain ⟨t2, ht2, h⟩ := h
      rw [cond_false_iff, Bool.and_eq_true, Bool.and_eq_true, Nat.ble_eq, len_eq] at h
      obtain ⟨⟨⟨hsz, hz⟩, hnil⟩, n', m, rfl, rfl, hnm, ⟨hm, hb⟩, h⟩ := h
      have hz : te.zero.length = te.size := Nat.eq_of_beq_eq_true hz
      obtain ⟨v, w', hrun, hrow, hle, hbl⟩ := run_make_row (P := P) hu (hT _ _ hte) hsz hz kl kc n' m hnm (by omega) (by simpa using hb) w
      have hz1 : te.zero = [.slice none 0 0] := by
        have := hnil
        unfold nil1 at this
        split at this
        · assumption
        · cases this
      have hs1 : te.size = 1 := by rw [← hz, hz1]; rfl
      have noinn : ∀ xs, xs = repl n' te.zero → ∀ j b, ¬ Inn (List.replicate n' (.ow e2 t2.size 0 [])) none xs j b := by
        rintro xs rfl j b ⟨c, u, hc, how, _, hu, hb⟩
        rw [repl_nil_get hnil hu] at hb
        cases hb
      refine ⟨_, v, w', h, hrun, hle, ⟨_, hrow, by rw [List.length_replicate, repl_length, hz, hs1, Nat.mul_one], ?_, fun j c u hc hu _ => ?_, fun p y he => (by cases he), fun j j' b hj => (noinn _ rfl j b hj).elim, fun j b hj => (noinn _ rfl j b hj).elim⟩, ?_, plain_row hrow⟩
      · refine ones_repl ?_ _
        rw [hz1]
        intro x hx
        rw [List.mem_singleton] at hx
        subst hx
        rfl
      · have hcm := List.mem_of_getElem? hc
        obtain ⟨_, rfl⟩ := List.mem_replicate.1 hcm
        rw [repl_nil_get hnil hu]
        exact ⟨[], ⟨by simp, .inl ⟨rfl, rfl⟩⟩, repL_nil, fun _ h => by simp at h⟩
      · rintro b (hb | ⟨e1, sz1, m1, cs1, hh1, xs1, q, he, hr, hin⟩)
        · rw [hbl] at hb; simp at hb; omega
        · cases he
          exact (noinn xs1 (hrow.uniq hr).symm q b hin).elim
    · obtain ⟨ob, v, w', h1, h2, h3, h4, h5, h6, h7, h8⟩ := vcMake_spec (ρ := ρ) (n := n) (S := S) (w := w) hT h kl kc
      exact ⟨ob, v, w', h1, h2, h3, h5, fun b hb => by have hb := hb.flat h8; rw [h6] at hb; simp at hb; omega, h7⟩
  · exact h.elim

theorem ncOf_spec (hW : SatW w0 S0 obs ρ S w) {c : Nat} {e2 : TypeId} {sz2 : Nat} : ∀ {l : List SV} {xs : List Value} {j : Nat} {k : List NC → Option Nat → Prop}, ncOf obs c e2 sz2 j l k → DenL ρ (Lt obs.length) w S l xs →
    ∃ ncs d, k ncs d ∧ ncs.length = xs.length ∧ (∀ q nc v, ncs[q]? = some nc → xs[q]? = some v → NcOk w S nc v ∧ (isOw nc = true → j + q = c ∧ ∀ b, blk v = some b → ∃ i ob, d = some i ∧ obs[i]? = some ob ∧ ob.live = true ∧ v = ρ i))
  | [], xs, j, k, h, hd => by
    have : xs = [] := List.eq_nil_of_length_eq_zero (by rw [← hd.1]; rfl)
    subst this
    exact ⟨[], none, h, rfl, fun q nc v hq => by simp at hq⟩
  | x :: r, xs, j, k, h, hd => by
    obtain ⟨v, xs, rfl, hdx, hd⟩ := denL_uncons hd
    -- the first cell, and the others
    have main : ∀ (y : NC) (f : Option Nat → Option Nat), NcOk w S y v → (isOw y = true → j = c) → (∀ d, (isOw y = true → ∀ b, blk v = some b → ∃ i ob, f d = some i ∧ obs[i]? = some ob ∧ ob.live = true ∧ v = ρ i) ∧ (isOw y = true ∨ f d = d)) →
        (ncOf obs c e2 sz2 (j + 1) r fun ys d => k (y :: ys) (f d)) → ∃ ncs d, k ncs d ∧ ncs.length = (v :: xs).length ∧ (∀ (q : Nat) (nc : NC) (u : Value), ncs[q]? = some nc → (v :: xs)[q]? = some u → NcOk w S nc u ∧ (isOw nc = true → j + q = c ∧ ∀ b, blk u = some b → ∃ i ob, d = some i ∧ obs[i]? = some ob ∧ ob.live = true ∧ u = ρ i)) := by
      intro y f hy hyc hf h
      obtain ⟨ncs, d, h1, h2, h3⟩ := ncOf_spec hW h hd
      refine ⟨y :: ncs, f d, h1, by simp [h2], fun q nc u hq hu => ?_⟩
      cases q with
      | zero =>
        simp only [List.getElem?_cons_zero, Option.some.injEq] at hq hu
        subst hq hu
        exact ⟨hy, fun ho => ⟨by rw [Nat.add_zero]; exact hyc ho, (hf d).1 ho⟩⟩
      | succ q =>
        simp only [List.getElem?_cons_succ] at hq hu
        obtain ⟨g1, g2⟩ := h3 q nc u hq hu
        refine ⟨g1, fun ho => ?_⟩
        obtain ⟨g3, g4⟩ := g2 ho
        refine ⟨by omega, ?_⟩
        rcases (hf d).2 with hy | hy
        · have := hyc hy; omega
        · rw [hy]; exact g4
    cases x with
    | p y =>
      simp only [ncOf] at h
      rw [fw1_iff] at h
      exact main (.pu (weak y)) id (weak_rep (den_p hdx)) (by simp [isOw]) (fun d => ⟨by simp [isOw], .inr rfl⟩) h
    | kb b =>
      simp only [ncOf] at h
      have := den_kb hdx
      subst this
      exact main (.pu (.v (.bool b))) id (.v _) (by simp [isOw]) (fun d => ⟨by simp [isOw], .inr rfl⟩) h
    | nil =>
      simp only [ncOf] at h
      have hv : v = .slice none 0 0 := by cases hdx; rfl
      subst hv
      cases hj : Nat.beq j c with
      | true =>
        simp only [hj, cond_true] at h
        exact main (.ow e2 sz2 0 []) id ⟨[], ⟨by simp, .inl ⟨rfl, rfl⟩⟩, repL_nil, fun _ h => by simp at h⟩ (fun _ => Nat.eq_of_beq_eq_true hj) (fun d => ⟨fun _ b hb => (by cases hb), .inr rfl⟩) h
      | false =>
        simp only [hj, cond_false] at h
        exact main (.pu (.sl false 0 [])) id (Rep.nil0 _) (by simp [isOw]) (fun d => ⟨by simp [isOw], .inr rfl⟩) h
    | ob i =>
      simp only [ncOf] at h
      rw [cond_false_iff] at h
      obtain ⟨hj, h⟩ := h
      rw [at_iff] at h
      obtain ⟨ob, hi, h⟩ := h
      split at h
      · have hv := den_ob hdx
        subst hv
        obtain ⟨ys, r1, r2, r3⟩ := hW.objs i _ hi
        rename_i e' sz' m' ex' l'
        exact main (.ow e' sz' m' l') (fun _ => some i) ⟨ys, r1.inexact, r2, r3⟩ (fun _ => Nat.eq_of_beq_eq_true hj) (fun d => ⟨fun _ b _ => ⟨i, _, rfl, hi, rfl, rfl⟩, .inl rfl⟩) h
      · exact h.elim
    | _ => simp only [ncOf] at h

theorem killO_spec (hW : SatW w0 S0 obs ρ S w) {d : Option Nat} {k : Obs → Prop} (h : killO d obs k) : ∃ obs1, k obs1 ∧ SatW w0 S0 obs1 ρ S w ∧ obs1.length = obs.length ∧ ∀ (i : Nat) (o : Ob), obs1[i]? = some o → o.live = true → obs[i]? = some o ∧ d ≠ some i := by
  cases d with
  | none => exact ⟨obs, h, hW, rfl, fun i o hi _ => ⟨hi, by simp⟩⟩
  | some j =>
    simp only [killO] at h
    rw [upd_iff] at h
    refine ⟨_, h.2, hW.kill j, by simp, fun i o hi hl => ?_⟩
    rcases get_set hi with ⟨h1, h2⟩ | ⟨rfl, _, rfl⟩
    · exact ⟨h2, by simpa using h1⟩
    · cases hl

theorem step_absorb (hT : TabOk P T) (hA : SatA N sl (Lt obs.length) ρ S w a) (hW : SatW w0 S0 obs ρ S w) {o : Oper} {t : Nat} {x : Operand} {sx : SV} (ho : o.op = .buildSlice t 1 #[(0, x)]) {k : SV → K} {K : Act → World → Prop} {Q : Exit → Act → World → Prop}
    (h : vcAbsorb T t sx obs fun x obs => k x sl obs) (hx : Den ρ (Lt obs.length) w S sx (a.eval x)) : Step w0 S0 P N o a w k K Q := by
  unfold vcAbsorb at h
  rw [find_iff] at h
  obtain ⟨ty, ht, h⟩ := h
  split at h
  · rename_i e hk
    have hu := kd_slice (hT _ _ ht) hk
    rw [find_iff] at h
    obtain ⟨te, hte, h⟩ := h
    rw [cond_false_iff, Bool.and_eq_true, Bool.and_eq_true, Bool.and_eq_true, Nat.ble_eq, len_eq, Nat.ble_eq] at h
    obtain ⟨⟨⟨⟨hsz, hz⟩, hone⟩, hmx⟩, h⟩ := h
    have hz : te.zero.length = te.size := Nat.eq_of_beq_eq_true hz
    obtain ⟨l, h, hl, h1, hnt⟩ := cellsS_spec (fun i hi => hW.plain i hi) hx h
    rw [cond_false_iff, len_eq] at h
    obtain ⟨hlen, c, e2, sz2, h⟩ := h
    have hlen : l.length = te.size := Nat.eq_of_beq_eq_true hlen
    have hcl : (a.eval x).cells.toList.length = te.size := by rw [← hl.1]; exact hlen
    have hpp : putParts (repl 1 te.zero) (rowPl te.size 1 0) [(0, a.eval x)] (fun z => z = (a.eval x).cells.toList) := by
      simp only [putParts, rowPl, List.drop_zero]
      rw [cellsOf_iff]
      refine ⟨hnt, ?_⟩
      rw [cond_false_iff, fL_iff, Bool.and_eq_true, len_eq, len_eq, Nat.ble_eq, repl_length, hz, hcl]
      refine ⟨⟨by simp, by omega⟩, ?_⟩
      have : (repl 1 te.zero).drop te.size = [] := List.drop_eq_nil_of_le (by rw [repl_length, hz]; omega)
      simp [splice, hcl, this]
    obtain ⟨l2, v, w', hrun, hrow, hle, hbl, rfl⟩ := run_buildSlice (P := P) hu (hT _ _ hte) hsz hz 1 (by omega) #[(0, a.eval x)] _ hpp w
    have hW' := hW.mono hle
    obtain ⟨ncs, d, h, hn1, hn2⟩ := ncOf_spec hW' h (hl.mono (hW.keeps hle) (fun _ h => h) (fun _ h => h) (fun _ _ => rfl))
    obtain ⟨obs1, h, hK, hlen1, hlive⟩ := killO_spec hW' h
    rw [snoc_iff, fN_iff, len_eq] at h
    -- an own row's block is older
    have old : ∀ q b, Inn ncs none (a.eval x).cells.toList q b → 0 + q = c ∧ ∃ i ob, d = some i ∧ obs[i]? = some ob ∧ ob.live = true ∧ blk (ρ i) = some b := by
      rintro q b ⟨nc, u, hc, how, _, hu, hb⟩
      obtain ⟨g1, g2⟩ := (hn2 q nc u hc hu).2 how
      obtain ⟨i, ob, g3, g4, g5, rfl⟩ := g2 b hb
      exact ⟨g1, i, ob, g3, g4, g5, hb⟩
    have hsn := hK.snoc' (ob := .nest e te.size 1 ncs none) (x := v) ⟨_, hrow.inexact, hn1, h1, fun q nc u hc hu _ => (hn2 q nc u hc hu).1, fun p y he => (by cases he), fun q q' b hq hq' => (by
        have := (old q b hq).1; have := (old q' b hq').1; omega), fun q b hq hb => (by
        obtain ⟨_, i, ob, _, g4, g5, g6⟩ := old q b hq
        have := hW.owned g4 g5 (.inl g6)
        rw [hbl] at hb; simp at hb; omega)⟩ (by
      intro b hb
      rcases hb with hb | ⟨e1, sz1, m1, cs1, hh1, xs1, q, he, hr, hin⟩
      · rw [hbl] at hb
        simp at hb
        subst hb
        refine ⟨.inl hW.le.size, fun hS => absurd (hW.lt _ hS) (Nat.lt_irrefl _), fun j oj hj lj bj => ?_⟩
        obtain ⟨hj, _⟩ := hlive j oj hj lj
        exact absurd (hW.owned hj lj (hW.same hj lj (fun g hg => Below.block hle _ (hW.owned hj lj hg)) bj)) (Nat.lt_irrefl _)
      · cases he
        have := hrow.uniq hr
        subst this
        obtain ⟨_, i, ob, g3, g4, g5, g6⟩ := old q b hin
        obtain ⟨q1, q2⟩ := hW'.own i ob b g4 g5 (.inl g6)
        refine ⟨q1, q2, fun j oj hj lj bj => ?_⟩
        obtain ⟨hj, hd⟩ := hlive j oj hj lj
        have := hW'.dist i j ob oj b g4 hj g5 lj (.inl g6) bj
        subst this
        exact hd g3) (plain_row hrow)
    rw [hlen1] at hsn
    have hden : Den (updρ ρ obs.length v) (Lt (obs1 ++ [Ob.nest e te.size 1 ncs none]).length) w' S (.ob obs.length) v := by
      have : Den (updρ ρ obs.length v) (Lt (obs1 ++ [Ob.nest e te.size 1 ncs none]).length) w' S (.ob obs.length) (updρ ρ obs.length v obs.length) := .ob (by simp [Lt, hlen1])
      rwa [updρ_eq] at this
    exact step_value hA (by simp [execOp, ho, hrun]) h hsn hden (hW.keeps hle) (fun _ h => h) (fun j hj => updρ_lt hj) (by simp [hlen1])
  · exact h.elim

theorem inn_app {cs cs' : List NC} {xs xs' : List Value} (hl : cs.length = xs.length) {q b : Nat} (h : Inn (cs ++ cs') none (xs ++ xs') q b) : (q < cs.length ∧ Inn cs none xs q b) ∨ (cs.length ≤ q ∧ Inn cs' none xs' (q - cs.length) b) := by
  obtain ⟨c, u, hc, how, _, hu, hb⟩ := h
  by_cases hq : q < cs.length
  · rw [List.getElem?_append_left hq] at hc
    rw [List.getElem?_append_left (by omega)] at hu
    exact .inl ⟨hq, c, u, hc, how, off_none q, hu, hb⟩
  · rw [List.getElem?_append_right (by omega)] at hc
    rw [List.getElem?_append_right (by omega), ← hl] at hu
    exact .inr ⟨by omega, c, u, hc, how, off_none _, hu, hb⟩

theorem step_appN (hT : TabOk P T) (hA : SatA N sl (Lt obs.length) ρ S w a) (hW : SatW w0 S0 obs ρ S w) {o : Oper} {t j : Nat} {s : SV} {os ox : Operand} (ho : o.op = .call { callee := .builtin .append, args := #[os, ox], argTypes := #[t, t] }) {e : TypeId} {te : Ty} (hu : P.underlying t = some (.slice e)) (hte : TyOk P e te) (hz : te.zero.length = te.size)
    {k : SV → K} {K : Act → World → Prop} {Q : Exit → Act → World → Prop} (h : vcAppN te e s j obs fun x obs => k x sl obs) (hs : Den ρ (Lt obs.length) w S s (a.eval os)) (hx : Den ρ (Lt obs.length) w S (.ob j) (a.eval ox)) : Step w0 S0 P N o a w k K Q := by
  unfold vcAppN at h
  split at h
  · rename_i i
    rw [at_iff] at h
    obtain ⟨oi, hi, h⟩ := h
    rw [at_iff] at h
    obtain ⟨oj, hj, h⟩ := h
    split at h
    · rename_i e1 sz1 n0 cs e2 sz2 m cs'
      rw [cond_false_iff, Bool.and_eq_true, Bool.and_eq_true, Bool.and_eq_true] at h
      obtain ⟨⟨⟨⟨hsz1, he1⟩, hsz2⟩, hij⟩, ⟨hb1, hb2⟩, h⟩ := h
      have hsz1 : sz1 = te.size := Nat.eq_of_beq_eq_true hsz1
      have hsz2 : sz2 = te.size := Nat.eq_of_beq_eq_true hsz2
      have he1 : e1 = e := Nat.eq_of_beq_eq_true he1
      subst hsz1 he1 hsz2
      have hij : i ≠ j := by rintro rfl; simp at hij
      rw [upd_iff] at h
      obtain ⟨_, h⟩ := h
      rw [upd_iff] at h
      obtain ⟨_, h⟩ := h
      rw [snoc_iff, fN_iff, len_eq] at h
      have hs := den_ob hs
      have hx := den_ob hx
      obtain ⟨xs, r1, r2, r3, r4, _, r6, r7⟩ := hW.objs i _ hi
      obtain ⟨ys, s1, s2, s3, s4, _, s6, s7⟩ := hW.objs j _ hj
      -- the source
      obtain ⟨ad, c, hvx, hsrc⟩ : ∃ ad c, ρ j = .slice ad m c ∧ (m = 0 ∨ Cells w ad 0 ys) := by
        obtain ⟨hlen, hv⟩ := s1
        rcases hv with ⟨hx, rfl⟩ | ⟨g, cap, cur, hx, hg, hnc, _, hcs, ht, _⟩
        · exact ⟨none, 0, hx, .inl rfl⟩
        · refine ⟨_, cap, hx, .inr ⟨_, rfl, fun j c hj => ?_⟩⟩
          rw [Addr.add0, Nat.zero_add, Nat.zero_add, cell_of_row w g j cur e2 (0, 0) hg]
          rw [← ht, List.getElem?_take] at hj
          split at hj
          · simpa using hj
          · cases hj
      obtain ⟨v', w', hr, hrow', hfr⟩ := run_append_row (P := P) o.type hu hte hz w (ρ i) n0 xs false r1 ad m c ys s1.1 ((oneCells_iff ys).2 s3) hsrc hb1 hb2
      have hrun : (execOp a.eval o).run P w = .ok (.value v') w' := by
        simp only [execOp, ho, resolve, invoke, builtin, Sem.run_bind, Sem.run_pure, Result.andThen_ok, List.map_toArray, List.map_cons, List.map_nil, hs, hx, hvx, hr]
      have hxy : Ones (xs ++ ys) := by
        intro x hx
        rcases List.mem_append.1 hx with hx | hx
        · exact r3 x hx
        · exact s3 x hx
      -- which blocks the inner rows have
      have own1 : ∀ q b, Inn cs none xs q b → Owns w (.nest e1 te.size n0 cs none) (ρ i) b := fun q b hq => .inr ⟨_, _, _, _, _, xs, q, rfl, r1, hq⟩
      have own2 : ∀ q b, Inn cs' none ys q b → Owns w (.nest e2 te.size m cs' none) (ρ j) b := fun q b hq => .inr ⟨_, _, _, _, _, ys, q, rfl, s1, hq⟩
      have clash : ∀ b, Owns w (.nest e1 te.size n0 cs none) (ρ i) b → Owns w (.nest e2 te.size m cs' none) (ρ j) b → False := fun b g1 g2 => hij (hW.dist i j _ _ b hi hj rfl rfl g1 g2)
      have inj : ∀ q q' b, Inn (cs ++ cs') none (xs ++ ys) q b → Inn (cs ++ cs') none (xs ++ ys) q' b → q = q' := by
        intro q q' b hq hq'
        rcases inn_app r2 hq with ⟨g0, g1⟩ | ⟨g0, g1⟩ <;> rcases inn_app r2 hq' with ⟨g2, g3⟩ | ⟨g2, g3⟩
        · exact r6 q q' b g1 g3
        · exact (clash b (own1 _ _ g1) (own2 _ _ g3)).elim
        · exact (clash b (own1 _ _ g3) (own2 _ _ g1)).elim
        · have := s6 _ _ b g1 g3; omega
      have innOwn : ∀ q b, Inn (cs ++ cs') none (xs ++ ys) q b → Owns w (.nest e1 te.size n0 cs none) (ρ i) b ∨ Owns w (.nest e2 te.size m cs' none) (ρ j) b := by
        intro q b hq
        rcases inn_app r2 hq with ⟨_, g⟩ | ⟨_, g⟩
        · exact .inl (own1 _ _ g)
        · exact .inr (own2 _ _ g)
      have hkill := (hW.kill i).kill j
      -- nothing else owns what they owned
      have others : ∀ b, (Owns w (.nest e1 te.size n0 cs none) (ρ i) b ∨ Owns w (.nest e2 te.size m cs' none) (ρ j) b) → ∀ (q : Nat) (oq : Ob), ((obs.set i .dead).set j .dead)[q]? = some oq → oq.live = true → ¬ Owns w oq (ρ q) b := by
        intro b hb q oq hq lq bq
        rcases get_set hq with ⟨q1, q2⟩ | ⟨rfl, _, rfl⟩
        · rcases get_set q2 with ⟨q3, q4⟩ | ⟨rfl, _, rfl⟩
          · rcases hb with hb | hb
            · exact q3 (hW.dist i q _ oq b hi q4 rfl lq hb bq)
            · exact q1 (hW.dist j q _ oq b hj q4 rfl lq hb bq)
          · cases lq
        · cases lq
      have live2 : ∀ (q : Nat) (oq : Ob), ((obs.set i .dead).set j .dead)[q]? = some oq → oq.live = true → obs[q]? = some oq ∧ i ≠ q ∧ j ≠ q := by
        intro q oq hq lq
        rcases get_set hq with ⟨q1, q2⟩ | ⟨rfl, _, rfl⟩
        · rcases get_set q2 with ⟨q3, q4⟩ | ⟨rfl, _, rfl⟩
          · exact ⟨q4, q3, q1⟩
          · cases lq
        · cases lq
      have hset : ((obs.set i .dead).set j .dead).length = obs.length := by simp
      have ncs : ∀ w'', Keeps S w w'' → (∀ b, (Owns w (.nest e1 te.size n0 cs none) (ρ i) b ∨ Owns w (.nest e2 te.size m cs' none) (ρ j) b) → blk (ρ i) ≠ some b → w''.heap[b]? = w.heap[b]?) → ∀ (q : Nat) (nc : NC) (u : Value), (cs ++ cs')[q]? = some nc → (xs ++ ys)[q]? = some u → NcOk w'' S nc u := by
        intro w'' hkp hbb q nc u hc hu'
        have hkeep : ∀ g, isOw nc = true → blk u = some g → w''.heap[g]? = w.heap[g]? := by
          intro g how hg
          have hin : Inn (cs ++ cs') none (xs ++ ys) q g := ⟨nc, u, hc, how, off_none q, hu', hg⟩
          refine hbb g (innOwn q g hin) fun hb => ?_
          rcases inn_app r2 hin with ⟨_, g1⟩ | ⟨_, g1⟩
          · exact r7 _ _ g1 hb
          · exact clash g (.inl hb) (own2 _ _ g1)
        by_cases hq : q < cs.length
        · rw [List.getElem?_append_left hq] at hc
          rw [List.getElem?_append_left (by omega)] at hu'
          exact (r4 q nc u hc hu' (off_none q)).mono hkeep hkp (fun _ h => h)
        · rw [List.getElem?_append_right (by omega)] at hc
          rw [List.getElem?_append_right (by omega), ← r2] at hu'
          exact (s4 _ nc u hc hu' (off_none _)).mono hkeep hkp (fun _ h => h)
      have hden : ∀ w'', Den (updρ ρ obs.length v') (Lt ((obs.set i .dead).set j .dead ++ [Ob.nest e1 te.size (n0 + m) (cs ++ cs') none]).length) w'' S (.ob obs.length) v' := by
        intro w''
        have : Den (updρ ρ obs.length v') (Lt ((obs.set i .dead).set j .dead ++ [Ob.nest e1 te.size (n0 + m) (cs ++ cs') none]).length) w'' S (.ob obs.length) (updρ ρ obs.length v' obs.length) := .ob (by simp [Lt])
        rwa [updρ_eq] at this
      have hlen2 : (cs ++ cs').length = (xs ++ ys).length := by simp [r2, s2]
      rcases hfr with ⟨hle, hbl⟩ | ⟨_, g, hg, hg', hch⟩
      · have hoi : ∀ b, Owns w (.nest e1 te.size n0 cs none) (ρ i) b ∨ Owns w (.nest e2 te.size m cs' none) (ρ j) b → b < w.heap.size := by
          rintro b (hb | hb)
          · exact hW.owned hi rfl hb
          · exact hW.owned hj rfl hb
        have hk := (hkill.mono hle).snoc' (ob := .nest e1 te.size (n0 + m) (cs ++ cs') none) (x := v') ⟨xs ++ ys, hrow', hlen2, hxy, fun q nc u hc hu' _ => ncs w' (hW.keeps hle) (fun b hb _ => Below.block hle b (hoi b hb)) q nc u hc hu', fun p y he => (by cases he), inj, fun q b hq hb => (by
            have := hoi b (innOwn q b hq)
            rcases hbl with h | h <;> rw [hb] at h <;> simp at h; omega)⟩ (by
          intro b hb
          rcases hb with hb | ⟨e3, sz3, m3, cs3, hh3, xs3, q, he, hr3, hin⟩
          · have hb : b = w.heap.size := by rcases hbl with h | h <;> rw [hb] at h <;> simp at h; exact h
            subst hb
            refine ⟨.inl hW.le.size, fun hS => absurd (hW.lt _ hS) (Nat.lt_irrefl _), fun q oq hq lq bq => ?_⟩
            obtain ⟨hq, _, _⟩ := live2 q oq hq lq
            exact absurd (hW.owned hq lq (hW.same hq lq (fun g hg => Below.block hle _ (hW.owned hq lq hg)) bq)) (Nat.lt_irrefl _)
          · cases he
            have := hrow'.uniq hr3
            subst this
            have hoo := innOwn q b hin
            have hown : (w0.heap.size ≤ b ∨ S0.m b) ∧ ¬ S b := by
              rcases hoo with h | h
              · exact hW.own i _ b hi rfl h
              · exact hW.own j _ b hj rfl h
            refine ⟨hown.1, hown.2, fun q oq hq lq bq => ?_⟩
            have hq' := (live2 q oq hq lq).1
            exact others b hoo q oq hq lq (hW.same hq' lq (fun g hg => Below.block hle _ (hW.owned hq' lq hg)) bq)) (plain_row hrow')
        rw [hset] at hk
        exact step_value hA hrun h hk (hden _) (hW.keeps hle) (fun _ h => h) (fun j hj => updρ_lt hj) (by simp)
      · have hown : Owns w (.nest e1 te.size n0 cs none) (ρ i) g := .inl hg
        have hkp : Keeps S w w' := fun b hb => hch.block b (hW.lt b hb) fun e => by subst e; exact (hW.own i _ b hi rfl hown).2 hb
        have hst := (hW.store hi rfl hown hch (ob' := .dead) trivial (fun b h => by cases h)).kill j
        have hoi : ∀ b, Owns w (.nest e1 te.size n0 cs none) (ρ i) b ∨ Owns w (.nest e2 te.size m cs' none) (ρ j) b → b < w.heap.size := by
          rintro b (hb | hb)
          · exact hW.owned hi rfl hb
          · exact hW.owned hj rfl hb
        have hk := hst.snoc' (ob := .nest e1 te.size (n0 + m) (cs ++ cs') none) (x := v') ⟨xs ++ ys, hrow', hlen2, hxy, fun q nc u hc hu' _ => ncs w' hkp (fun b hb hne => hch.block b (hoi b hb) fun e => hne (by rw [e]; exact hg)) q nc u hc hu', fun p y he => (by cases he), inj, fun q b hq hb => (by
            rw [hg'] at hb
            cases hb
            rcases inn_app r2 hq with ⟨_, g1⟩ | ⟨_, g1⟩
            · exact r7 _ _ g1 hg
            · exact clash g hown (own2 _ _ g1))⟩ (by
          intro b hb
          have hoo : Owns w (.nest e1 te.size n0 cs none) (ρ i) b ∨ Owns w (.nest e2 te.size m cs' none) (ρ j) b := by
            rcases hb with hb | ⟨e3, sz3, m3, cs3, hh3, xs3, q, he, hr3, hin⟩
            · rw [hg'] at hb
              cases hb
              exact .inl hown
            · cases he
              have := hrow'.uniq hr3
              subst this
              exact innOwn q b hin
          have hown' : (w0.heap.size ≤ b ∨ S0.m b) ∧ ¬ S b := by
            rcases hoo with h | h
            · exact hW.own i _ b hi rfl h
            · exact hW.own j _ b hj rfl h
          refine ⟨hown'.1, hown'.2, fun q oq hq lq bq => ?_⟩
          obtain ⟨hq', hiq, hjq⟩ := live2 q oq hq lq
          exact others b hoo q oq hq lq (hW.same hq' lq (fun g2 hg2 => hch.block g2 (hW.owned hq' lq hg2) fun e => hiq (hW.dist i q _ oq g hi hq' rfl lq hown (e ▸ hg2))) bq)) (plain_row hrow')
        rw [hset] at hk
        exact step_value hA hrun h hk (hden _) hkp (fun _ h => h) (fun j hj => updρ_lt hj) (by simp)
    · exact h.elim
  · exact h.elim

/-! ### Calls -/

theorem peek0_rep (hW : SatW w0 S0 obs ρ S w) {R : Nat → Prop} (hR : ∀ b, S b → R b) {x : SV} {v : Value} {y : PV} (hd : Den ρ n w S x v) (h : peek0 obs x = some y) (hr : ∀ i ∈ refs1 x, ∀ ob b, obs[i]? = some ob → ob.live = true → Owns w ob (ρ i) b → R b) : Rep w R y v := by
  cases hd <;> simp only [peek0] at h <;> first | (cases h; done) | skip
  case p hx => cases h; exact hx.mono (fun _ _ => rfl) hR
  case kb b => cases h; exact .v _
  case nil => cases h; exact Rep.nil0 _
  case ob i hi =>
    split at h
    · rename_i e sz m ex cs ho
      cases h
      obtain ⟨y, hy, hrep⟩ := frozen_spec (ob := .row e sz m ex cs) (k := fun y => y = .sl ex m cs) rfl (hW.objs i _ ho)
      subst hy
      exact weak_rep <| hrep.mono (fun _ _ => rfl) (fun b hb => hb.elim (hR b) (fun hb => hr i (by simp [refs1]) _ b ho rfl hb))
    · rename_i e sz m cs ho
      cases h
      exact frozen_nest hR (fun b hb => hr i (by simp [refs1]) _ b ho rfl hb) (hW.objs i _ ho)
    · cases h

theorem refs1_sub {l : List SV} {x : SV} (hx : x ∈ l) : ∀ i ∈ refs1 x, i ∈ refsL l := by
  intro i hi
  induction l with
  | nil => cases hx
  | cons y r ih =>
    rcases List.mem_cons.1 hx with rfl | hx
    · cases x <;> simp [refs1] at hi
      subst hi; simp [refsL]
    · have := ih hx
      cases y <;> simp [refsL, this]

theorem peekL0_rep (hW : SatW w0 S0 obs ρ S w) {R : Nat → Prop} (hR : ∀ b, S b → R b) : ∀ {l : List SV} {xs : List Value} {ys : List PV}, DenL ρ n w S l xs → peekL0 obs l = some ys → (∀ x ∈ l, ∀ i ∈ refs1 x, ∀ ob b, obs[i]? = some ob → ob.live = true → Owns w ob (ρ i) b → R b) → RepL (Rep w R) ys xs
  | [], xs, ys, hd, h, _ => by
    cases h
    exact ⟨hd.1, fun j p y hp => by simp at hp⟩
  | x :: r, xs, ys, hd, h, hr => by
    obtain ⟨v, rs, rfl, h1, h2⟩ := denL_uncons hd
    simp only [peekL0] at h
    split at h
    · rename_i y hy
      rw [Option.map_eq_some_iff] at h
      obtain ⟨ys', h3, rfl⟩ := h
      exact repL_cons (peek0_rep hW hR h1 hy (hr x (by simp))) (peekL0_rep hW hR h2 h3 fun z hz => hr z (by simp [hz]))
    · cases h

/-- The objects that a value leads to. -/
def Leads (obs : Obs) (is : List Nat) (i : Nat) : Prop := i ∈ is ∨ ∃ j ∈ is, ∃ t cs, obs[j]? = some (.box t cs) ∧ i ∈ refsL cs

theorem peek_rep (hW : SatW w0 S0 obs ρ S w) {R : Nat → Prop} (hR : ∀ b, S b → R b) {x : SV} {v : Value} {y : PV} (hd : Den ρ n w S x v) (h : peek obs x = some y) (hr : ∀ i, Leads obs (refsOf x) i → ∀ ob b, obs[i]? = some ob → ob.live = true → Owns w ob (ρ i) b → R b) : Rep w R y v := by
  cases hd <;> simp only [peek] at h <;> first | (cases h; done) | skip
  case p hx => cases h; exact hx.mono (fun _ _ => rfl) hR
  case kb b => cases h; exact .v _
  case nil => cases h; exact Rep.nil0 _
  case ob i hi =>
    have self : ∀ ob b, obs[i]? = some ob → ob.live = true → Owns w ob (ρ i) b → R b := hr i (.inl (by simp [refsOf]))
    split at h
    · rename_i e sz m ex cs ho
      cases h
      obtain ⟨y, hy, hrep⟩ := frozen_spec (ob := .row e sz m ex cs) (k := fun y => y = .sl ex m cs) rfl (hW.objs i _ ho)
      subst hy
      exact weak_rep <| hrep.mono (fun _ _ => rfl) (fun b hb => hb.elim (hR b) (fun hb => self _ b ho rfl hb))
    · rename_i e sz m cs ho
      cases h
      exact frozen_nest hR (fun b hb => self _ b ho rfl hb) (hW.objs i _ ho)
    · rename_i t cs ho
      cases h
      obtain ⟨y, hy, hrep⟩ := frozen_spec (ob := .arr t cs) (k := fun y => y = .fp false cs) rfl (hW.objs i _ ho)
      subst hy
      exact hrep.mono (fun _ _ => rfl) (fun b hb => hb.elim (hR b) (fun hb => self _ b ho rfl hb))
    · rename_i t cs ho
      cases hbc : boolCell cs with
      | true => simp only [hbc, cond_true] at h; cases h
      | false =>
      simp only [hbc, cond_false] at h
      rw [Option.map_eq_some_iff] at h
      obtain ⟨ys, h3, rfl⟩ := h
      obtain ⟨b, xs, hx, hb, hdl, h1⟩ := hW.objs i _ ho
      have hrl := peekL0_rep hW hR hdl h3 fun z hz j hj => hr j (.inr ⟨i, by simp [refsOf], t, cs, ho, refs1_sub hz j hj⟩)
      rw [hx]
      refine .fp (self _ b ho rfl (.inl (by rw [hx]; rfl))) hrl.1 h1 (fun j c hj => ?_) hrl.2
      rw [Addr.add0, Nat.zero_add, cell_of_row w b j xs.toArray t (0, 0) hb]
      simpa using hj
    · cases h
  case ag l xs hl h1 hh =>
    rw [Option.map_eq_some_iff] at h
    obtain ⟨ys, h3, rfl⟩ := h
    have hrl := peekL0_rep hW hR ⟨hl, hh⟩ h3 fun z hz j hj => hr j (.inl (refs1_sub hz j hj))
    exact .agg hrl.1 h1 hrl.2

theorem Leads.mono {obs : Obs} {is js : List Nat} {i : Nat} (h : Leads obs is i) (hs : ∀ j ∈ is, j ∈ js) : Leads obs js i := by
  rcases h with h | ⟨j, h1, h2⟩
  · exact .inl (hs i h)
  · exact .inr ⟨j, hs j h1, h2⟩

/-- One of a function's values: it holds no function and no row of rows. -/
theorem peekL_rep (hW : SatW w0 S0 obs ρ S w) {R : Nat → Prop} (hR : ∀ b, S b → R b) : ∀ {l : List SV} {xs : List Value} {ys : List PV}, DenL ρ n w S l xs → peekL obs l = some ys → (∀ x ∈ l, isAg x = false → ∀ i, Leads obs (refsOf x) i → ∀ ob b, obs[i]? = some ob → ob.live = true → Owns w ob (ρ i) b → R b) → RepL (Rep w R) ys xs
  | [], xs, ys, hd, h, _ => by
    cases h
    exact ⟨hd.1, fun j p y hp => by simp at hp⟩
  | x :: r, xs, ys, hd, h, hr => by
    obtain ⟨v, rs, rfl, h1, h2⟩ := denL_uncons hd
    simp only [peekL] at h
    cases hag : isAg x with
    | true => simp [hag] at h
    | false =>
      simp only [hag, cond_false] at h
      split at h
      · rename_i y hy
        rw [Option.map_eq_some_iff] at h
        obtain ⟨ys', h3, rfl⟩ := h
        exact repL_cons (peek_rep hW hR h1 hy (hr x (by simp) hag)) (peekL_rep hW hR h2 h3 fun z hz => hr z (by simp [hz]))
      · cases h

theorem leads_el {obs : Obs} {l : List SV} {x : SV} (hx : x ∈ l) (hag : isAg x = false) {y : PV} (hy : peek obs x = some y) {i : Nat} (h : Leads obs (refsOf x) i) : Leads obs (refsL l) i := by
  refine h.mono fun j hj => ?_
  cases x <;> first | (cases hag; done) | (simp [refsOf] at hj; done) | (cases hy; done) | skip
  exact refs1_sub hx j (by simpa [refsOf, refs1] using hj)

theorem peekL_get {obs : Obs} : ∀ {l : List SV} {ys : List PV}, peekL obs l = some ys → ∀ x ∈ l, isAg x = false ∧ ∃ y, peek obs x = some y
  | [], _, _, x, hx => by cases hx
  | z :: r, ys, h, x, hx => by
    simp only [peekL] at h
    cases hag : isAg z with
    | true => simp [hag] at h
    | false =>
      simp only [hag, cond_false] at h
      split at h
      · rename_i y hy
        rw [Option.map_eq_some_iff] at h
        obtain ⟨ys', h3, _⟩ := h
        rcases List.mem_cons.1 hx with rfl | hx
        · exact ⟨hag, y, hy⟩
        · exact peekL_get h3 x hx
      · cases h

theorem peekF_rep (hW : SatW w0 S0 obs ρ S w) {R : Nat → Prop} (hR : ∀ b, S b → R b) {x : SV} {v : Value} {y : PV} (hd : Den ρ n w S x v) (h : peekF obs x = some y) (hr : ∀ i, Leads obs (refsOf x) i → ∀ ob b, obs[i]? = some ob → ob.live = true → Owns w ob (ρ i) b → R b) : Rep w R y v := by
  have other : peek obs x = some y → Rep w R y v := fun h => peek_rep hW hR hd h hr
  cases hd with
  | cl ha hb h1 h2 =>
    rename_i f a b xa xb
    simp only [peekF] at h
    split at h
    · rename_i a' ha'
      rw [Option.map_eq_some_iff] at h
      obtain ⟨b', hb', rfl⟩ := h
      have ra := peekL_rep hW hR (⟨ha, h1⟩ : DenL ρ n w S a xa) ha' fun z hz hag i hi => by
        obtain ⟨y, hy⟩ := (peekL_get ha' z hz).2
        exact hr i ((leads_el hz hag hy hi).mono fun j hj => by simp [refsOf, hj])
      have rb := peekL_rep hW hR (⟨hb, h2⟩ : DenL ρ n w S b xb) hb' fun z hz hag i hi => by
        obtain ⟨y, hy⟩ := (peekL_get hb' z hz).2
        exact hr i ((leads_el hz hag hy hi).mono fun j hj => by simp [refsOf, hj])
      exact .fn ra.1 rb.1 ra.2 rb.2
    · cases h
  | _ => exact other h

theorem peekFL_rep (hW : SatW w0 S0 obs ρ S w) {R : Nat → Prop} (hR : ∀ b, S b → R b) : ∀ {l : List SV} {xs : List Value} {ys : List PV}, DenL ρ n w S l xs → peekFL obs l = some ys → (∀ i, Leads obs (refsA l) i → ∀ ob b, obs[i]? = some ob → ob.live = true → Owns w ob (ρ i) b → R b) → RepL (Rep w R) ys xs
  | [], xs, ys, hd, h, _ => by
    cases h
    exact ⟨hd.1, fun j p y hp => by simp at hp⟩
  | x :: r, xs, ys, hd, h, hr => by
    obtain ⟨v, rs, rfl, h1, h2⟩ := denL_uncons hd
    simp only [peekFL] at h
    split at h
    · rename_i y hy
      rw [Option.map_eq_some_iff] at h
      obtain ⟨ys', h3, rfl⟩ := h
      exact repL_cons (peekF_rep hW hR h1 hy fun i hi => hr i (hi.mono fun j hj => by simp [refsA, hj])) (peekFL_rep hW hR h2 h3 fun i hi => hr i (hi.mono fun j hj => by simp [refsA, hj]))
    · cases h

theorem plainL_rep : ∀ {l : List PV} {xs : List Value} {R : Nat → Prop} {w' : World} {S' : Nat → Prop}, plainL l = true → RepL (Rep w R) l xs → RepL (Rep w' S') l xs
  | [], xs, R, w', S', _, h => ⟨h.1, fun j p y hp => by simp at hp⟩
  | x :: r, xs, R, w', S', hp, h => by
    obtain ⟨v, rs, rfl, h1, h2⟩ := repL_uncons h
    simp only [plainL, Bool.and_eq_true] at hp
    refine repL_cons ?_ (plainL_rep hp.2 h2)
    cases x <;> first | (cases hp.1; done) | skip
    rw [h1.of_v]; exact .v _

theorem plainS1_den {x : SV} {v : Value} {ρ' : Nat → Value} {n' : Nat → Prop} {w' : World} {S' : Nat → Prop} (hp : plainS1 x = true) (h : Den ρ n w S x v) : Den ρ' n' w' S' x v := by
  cases h with
  | p hr =>
    cases hr with
    | v x => exact .p (.v _)
    | agg hl h1 hh =>
      have := plainL_rep (w' := w') (S' := S') hp ⟨hl, hh⟩
      exact .p (.agg this.1 h1 this.2)
    | _ => cases hp
  | kb b => exact .kb b
  | _ => cases hp

theorem plainSL_get : ∀ {l : List SV}, plainSL l = true → ∀ (j : Nat) (p : SV), l[j]? = some p → plainS1 p = true
  | [], _, j, p, h => by simp at h
  | x :: r, hp, j, p, h => by
    simp only [plainSL, Bool.and_eq_true] at hp
    cases j with
    | zero => simp at h; subst h; exact hp.1
    | succ j => exact plainSL_get hp.2 j p (by simpa using h)

theorem plainS_den {x : SV} {v : Value} {ρ' : Nat → Value} {n' : Nat → Prop} {w' : World} {S' : Nat → Prop} (hp : plainS x = true) (h : Den ρ n w S x v) : Den ρ' n' w' S' x v := by
  cases h with
  | tup hl hh => exact .tup hl fun j p y hp' hy => plainS1_den (plainSL_get hp j p hp') (hh j p y hp' hy)
  | p hr => exact plainS1_den (ρ := ρ) (n := n) hp (.p hr)
  | kb b => exact .kb b
  | _ => cases hp

/-- The blocks of the call's own objects, too. -/
def withOwn (w : World) (obs : Obs) (ρ : Nat → Value) (S : Nat → Prop) : Nat → Prop := fun b => S b ∨ ∃ (i : Nat) (ob : Ob), obs[i]? = some ob ∧ ob.live = true ∧ Owns w ob (ρ i) b

theorem withOwn_lt (hW : SatW w0 S0 obs ρ S w) : ∀ b, withOwn w obs ρ S b → b < w.heap.size := by
  rintro b (h | ⟨i, ob, h1, h2, h3⟩)
  · exact hW.lt b h
  · exact (hW.objs i ob h1).lt h2 h3

theorem inner_get {obs : Obs} : ∀ {is : List Nat} {j i : Nat} {t : TypeId} {cs : List SV}, j ∈ is → obs[j]? = some (.box t cs) → i ∈ refsL cs → i ∈ inner obs is
  | [], _, _, _, _, h, _, _ => by cases h
  | k :: r, j, i, t, cs, h, hb, hi => by
    simp only [inner, List.mem_append]
    rcases List.mem_cons.1 h with rfl | h
    · rw [hb]; exact .inl hi
    · exact .inr (inner_get h hb hi)

theorem boolCell_plain {cs : List SV} (h : boolCell cs = true) : plainSL cs = true := by
  unfold boolCell at h
  split at h <;> first | rfl | cases h

theorem boolRef_spec {obs : Obs} : ∀ {is : List Nat} {i : Nat}, boolRef obs is = some i → i ∈ is
  | [], i, h => by cases h
  | j :: r, i, h => by
    simp only [boolRef] at h
    split at h
    · rename_i t cs ho
      cases hb : boolCell cs with
      | true => simp only [hb, cond_true] at h; cases h; simp
      | false => simp only [hb, cond_false] at h; simp [boolRef_spec h]
    · simp [boolRef_spec h]

theorem memN_false {t : Nat} {l : List Nat} (h : memN t l = false) : t ∉ l := by
  induction l with
  | nil => simp
  | cons x r ih =>
    simp only [memN] at h
    cases hb : Nat.beq x t with
    | true => simp [hb] at h
    | false =>
      simp only [hb, cond_false] at h
      rw [List.mem_cons]
      rintro (rfl | hr)
      · rw [Nat.beq_refl] at hb; cases hb
      · exact ih h hr

/-- What the callee may look at: all but variable i. -/
def allBut (w : World) (obs : Obs) (ρ : Nat → Value) (S : Nat → Prop) (i : Nat) : Nat → Prop := fun b => S b ∨ ∃ (j : Nat) (ob : Ob), j ≠ i ∧ obs[j]? = some ob ∧ ob.live = true ∧ Owns w ob (ρ j) b

theorem peekM_den (hW : SatW w0 S0 obs ρ S w) {i : Nat} {x y : SV} {v : Value} (hd : Den ρ n w S x v) (h : peekM obs i x = some y) : Den (fun _ => ρ i) (Lt 1) w (allBut w obs ρ S i) y v := by
  have clean : ∀ {z : SV} {p : PV}, i ∉ refsOf z → i ∉ inner obs (refsOf z) → Den ρ n w S z v → peek obs z = some p → Rep w (allBut w obs ρ S i) p v := by
    intro z p h1 h2 hd hp
    refine peek_rep hW (fun _ h => .inl h) hd hp fun j hj ob b ho hl hb => .inr ⟨j, ob, ?_, ho, hl, hb⟩
    rintro rfl
    rcases hj with hj | ⟨q, hq, t, cs, h3, h4⟩
    · exact h1 hj
    · exact h2 (inner_get hq h3 h4)
  have other : ∀ {z : SV}, (bif memN i (refsOf z) || memN i (inner obs (refsOf z)) then none else (peek obs z).map SV.p) = some y → Den ρ n w S z v → Den (fun _ => ρ i) (Lt 1) w (allBut w obs ρ S i) y v := by
    intro z h hd
    cases hc : memN i (refsOf z) || memN i (inner obs (refsOf z)) with
    | true => simp [hc] at h
    | false =>
      simp only [hc, cond_false, Option.map_eq_some_iff] at h
      obtain ⟨p, hp, rfl⟩ := h
      rw [Bool.or_eq_false_iff] at hc
      exact .p (clean (memN_false hc.1) (memN_false hc.2) hd hp)
  cases x with
  | ob j =>
    simp only [peekM] at h
    cases hb : Nat.beq j i with
    | true =>
      have : j = i := Nat.eq_of_beq_eq_true hb
      subst this
      simp only [hb, cond_true, Option.some.injEq] at h
      subst h
      have := den_ob hd
      subst this
      exact .ob (ρ := fun _ => ρ j) (i := 0) Nat.one_pos
    | false =>
      simp only [hb, cond_false] at h
      refine other (z := .ob j) ?_ hd
      have : memN i (refsOf (.ob j)) = false := by simp [refsOf, memN, hb]
      rw [this, Bool.false_or]
      exact h
  | p x => exact other (z := .p x) h hd
  | kb b => exact other (z := .kb b) h hd
  | any => exact other (z := .any) h hd
  | nil => exact other (z := .nil) h hd
  | pt a b => exact other (z := .pt a b) h hd
  | ag l => exact other (z := .ag l) h hd
  | tup l => exact other (z := .tup l) h hd
  | cl f a b => exact other (z := .cl f a b) h hd

theorem peekML_den (hW : SatW w0 S0 obs ρ S w) {i : Nat} : ∀ {l : List SV} {ys : List SV} {xs : List Value}, DenL ρ n w S l xs → peekML obs i l = some ys → DenL (fun _ => ρ i) (Lt 1) w (allBut w obs ρ S i) ys xs
  | [], ys, xs, hd, h => by cases h; exact ⟨hd.1, fun j p y hp => by simp at hp⟩
  | x :: r, ys, xs, hd, h => by
    obtain ⟨v, rs, rfl, h1, h2⟩ := denL_uncons hd
    simp only [peekML] at h
    split at h
    · rename_i y hy
      rw [Option.map_eq_some_iff] at h
      obtain ⟨ys', h3, rfl⟩ := h
      exact denL_cons (peekM_den hW h1 hy) (peekML_den hW h2 h3)
    · cases h

theorem peekMF_den (hW : SatW w0 S0 obs ρ S w) {i : Nat} {x y : SV} {v : Value} (hd : Den ρ n w S x v) (h : peekMF obs i x = some y) : Den (fun _ => ρ i) (Lt 1) w (allBut w obs ρ S i) y v := by
  have other : peekM obs i x = some y → Den (fun _ => ρ i) (Lt 1) w (allBut w obs ρ S i) y v := fun h => peekM_den hW hd h
  cases hd with
  | cl ha hb h1 h2 =>
    simp only [peekMF] at h
    split at h
    · rename_i a' ha'
      rw [Option.map_eq_some_iff] at h
      obtain ⟨b', hb', rfl⟩ := h
      have ra := peekML_den hW (⟨ha, h1⟩ : DenL ρ n w S _ _) ha'
      have rb := peekML_den hW (⟨hb, h2⟩ : DenL ρ n w S _ _) hb'
      exact .cl ra.1 rb.1 ra.2 rb.2
    · cases h
  | _ => exact other h

theorem peekMFL_den (hW : SatW w0 S0 obs ρ S w) {i : Nat} : ∀ {l : List SV} {ys : List SV} {xs : List Value}, DenL ρ n w S l xs → peekMFL obs i l = some ys → DenL (fun _ => ρ i) (Lt 1) w (allBut w obs ρ S i) ys xs
  | [], ys, xs, hd, h => by cases h; exact ⟨hd.1, fun j p y hp => by simp at hp⟩
  | x :: r, ys, xs, hd, h => by
    obtain ⟨v, rs, rfl, h1, h2⟩ := denL_uncons hd
    simp only [peekMFL] at h
    split at h
    · rename_i y hy
      rw [Option.map_eq_some_iff] at h
      obtain ⟨ys', h3, rfl⟩ := h
      exact denL_cons (peekMF_den hW h1 hy) (peekMFL_den hW h2 h3)
    · cases h

theorem box_plain {ρ ρ' : Nat → Value} {n n' : Nat → Prop} {w : World} {S S' : Nat → Prop} {t : TypeId} {cs : List SV} {x : Value} (hp : plainSL cs = true) (h : ObOk ρ n w S (.box t cs) x) : ObOk ρ' n' w S' (.box t cs) x := by
  obtain ⟨b, xs, hx, hb, hd, h1⟩ := h
  exact ⟨b, xs, hx, hb, ⟨hd.1, fun j p y hj hy => plainS1_den (plainSL_get hp j p hj) (hd.2 j p y hj hy)⟩, h1⟩

theorem step_callM {o : Oper} {f : FuncId} {svs : List SV} {xs : List Value} {k : SV → K} {K : Act → World → Prop} {Q : Exit → Act → World → Prop} (hA : SatA N sl (Lt obs.length) ρ S w a) (hW : SatW w0 S0 obs ρ S w)
    (hrun : (execOp a.eval o).run P w = .ok (.enter f xs.toArray) w) (hl : DenL ρ (Lt obs.length) w S svs xs) (h : vcCallM P f svs sl obs k) : Step w0 S0 P N o a w k K Q := by
  unfold vcCallM at h
  split at h
  · rename_i i hi
    rw [at_iff] at h
    obtain ⟨ob, ho, h⟩ := h
    split at h
    · rename_i t cs
      rw [cond_false_iff] at h
      obtain ⟨hbc, h⟩ := h
      cases hp : peekMFL obs i svs with
      | none => simp only [hp] at h
      | some l =>
        simp only [hp, fL_iff] at h
        obtain ⟨q, r, hret, hpr, h⟩ := h
        rw [upd_iff, fPV_iff] at h
        obtain ⟨hilt, h⟩ := h
        intro H
        unfold Oper.wp
        rw [hrun]
        have hok := hW.objs i _ ho
        obtain ⟨g, ys, hx, hg, hdl, h1⟩ := id hok
        have hblk : blk (ρ i) = some g := by rw [hx]; rfl
        have hownI : Owns w (.box t cs) (ρ i) g := .inl hblk
        have hnot : ¬ allBut w obs ρ S i g := by
          rintro (h | ⟨j, oj, hj, hoj, hlj, hbj⟩)
          · exact (hW.own i _ g ho rfl hownI).2 h
          · exact hj (hW.dist j i oj _ g hoj ho hlj rfl hbj hownI)
        have hlt : ∀ b, allBut w obs ρ S i b → b < w.heap.size := by
          rintro b (h | ⟨j, oj, _, hoj, hlj, hbj⟩)
          · exact hW.lt b h
          · exact hW.owned hoj hlj hbj
        have hW1 : SatW w ⟨allBut w obs ρ S i, fun b => b = g, fun j => if j = 0 then some (ρ i) else none⟩ [.box t cs] (fun _ => ρ i) (allBut w obs ρ S i) w := by
          refine ⟨fun j o hj => ?_, fun j j' oj oj' b hj hj' _ _ _ _ => ?_, fun j o b hj _ hb => ?_, fun _ h => h, hlt, fun _ h => .inl h, LeM.refl _ _, fun _ _ => hW.plain i hilt, fun j v hv => ?_⟩
          · cases j with
            | zero => cases hj; exact box_plain (boolCell_plain hbc) hok
            | succ j => simp at hj
          · cases j <;> cases j' <;> simp at hj hj' ⊢
          · cases j with
            | zero =>
              cases hj
              have hb := hb.flat rfl
              rw [hblk] at hb
              cases hb
              exact ⟨.inr rfl, hnot⟩
            | succ j => simp at hj
          · by_cases e : j = 0
            · subst e; simp at hv; exact ⟨hv, Nat.one_pos⟩
            · simp [e] at hv
        refine Calls.mono (hret w _ _ _ xs hW1 (peekMFL_den hW hl hp)) ?_
        rintro e w' ⟨v, ρ', S', rfl, hW', hrep⟩
        have hρ : ρ' 0 = ρ i := (hW'.pins 0 _ (by simp)).1
        have hok' := hW'.objs 0 _ rfl
        rw [hρ] at hok'
        have hch : Ch g w w' := ⟨hW'.le.os, hW'.le.tape, hW'.le.output, hW'.le.size, fun k hk hkg => hW'.le.block k hk hkg⟩
        have hWn := hW.store ho rfl hownI hch (ob' := .box t [.p (.v (.bool q))]) (box_plain rfl hok') (fun b _ hb => .inl (hb.flat rfl))
        have hkeep : Keeps S w w' := fun b hb => hch.block b (hW.lt b hb) fun e => by subst e; exact (hW.own i _ b ho rfl hownI).2 hb
        refine H _ _ _ ρ S v w' h (by rw [List.length_set]; exact hA.mono hkeep (fun _ h => h) (fun _ h => h) (fun _ _ => rfl)) hWn ?_
        unfold plain1 at hpr
        split at hpr
        · have := Rep.of_v hrep
          subst this
          exact .p (.v _)
        · cases hpr
    · exact h.elim
  · exact h.elim

theorem step_call {o : Oper} {f : FuncId} {svs : List SV} {xs : List Value} {k : SV → K} {K : Act → World → Prop} {Q : Exit → Act → World → Prop} (hA : SatA N sl (Lt obs.length) ρ S w a) (hW : SatW w0 S0 obs ρ S w)
    (hrun : (execOp a.eval o).run P w = .ok (.enter f xs.toArray) w) (hl : DenL ρ (Lt obs.length) w S svs xs) (h : vcCall P f svs sl obs k) : Step w0 S0 P N o a w k K Q := by
  unfold vcCall at h
  cases hp : peekFL obs svs with
  | none =>
    simp only [hp] at h
    exact step_callM hA hW hrun hl h
  | some l =>
    simp only [hp, fWs_iff] at h
    obtain ⟨obsR, r, hret, hck, h⟩ := h
    rw [Bool.and_eq_true] at hck
    intro H
    unfold Oper.wp
    rw [hrun]
    cases hpl : plainS r with
    | true =>
      simp only [hpl, fSV_iff] at h
      have hrep := weakAll_rep (peekFL_rep hW (R := withOwn w obs ρ S) (fun _ h => .inl h) hl hp fun i _ ob b ho hlv hb => .inr ⟨i, ob, ho, hlv, hb⟩)
      refine Calls.mono (hret w _ xs (withOwn_lt hW) hrep) ?_
      rintro e w' ⟨v, ρR, S', rfl, hWR, hdR⟩
      exact H _ _ _ ρ S v w' h (hA.mono (hW.keeps hWR.toLe) (fun _ h => h) (fun _ h => h) (fun _ _ => rfl)) (hW.mono hWR.toLe) (plainS_den hpl hdR)
    | false =>
      simp only [hpl, fL_iff] at h
      obtain ⟨sl1, obs1, S1, h, hA1, hW1, hl1, hs1, hb1, hk1⟩ := frzL_spec _ h hA hW
      obtain ⟨sl2, obs2, S2, h, hA2, hW2, hl2, hs2, hb2, hk2⟩ := frzL_spec _ h hA1 hW1
      rw [fN_iff, fSV_iff, len_eq] at h
      have hrep := weakAll_rep (peekFL_rep hW (R := S2) (fun b hb => hs2 b (hs1 b hb)) hl hp (by
        intro i hi ob b ho hlv hb
        by_cases hin : i ∈ inner obs (refsA svs)
        · exact hs2 b (hb1 i hin ob b ho hlv hb)
        · rcases hi with hi | ⟨j, h1, t, cs, h2, h3⟩
          · obtain ⟨ob', h4, h5, h6⟩ := hk1 i ob ho hlv hin
            exact hb2 i hi ob' b h4 h5 (h6 b hb)
          · exact absurd (inner_get h1 h2 h3) hin))
      refine Calls.mono (hret w S2 xs hW2.lt hrep) ?_
      rintro e w' ⟨v, ρR, S', rfl, hWR, hdR⟩
      exact H _ _ _ _ _ v w' h (hA2.mono (hW2.keeps hWR.toLe) hWR.sub (fun i hi => by simp only [Lt, List.length_append] at *; omega) (fun i hi => mrg_lt hi)) (hW2.merge hWR hck.1) (shS_den hdR hck.2)

theorem vcOp_sound {F : Nat} (hT : TabOk P T) (hF : ∀ f, 2 < f → f < F → FnOk P f) (hA : SatA N sl (Lt obs.length) ρ S w a) (hW : SatW w0 S0 obs ρ S w) (o : Oper) {k : SV → K} (K : Act → World → Prop) (Q : Exit → Act → World → Prop)
    (h : vcOp P F T o.op sl obs k) : Step w0 S0 P N o a w k K Q := by
  unfold vcOp at h
  split at h
  · obtain ⟨sv, v, hk, hrun, hd⟩ := vcPure_spec hT hA hW (fun _ h => h) (fun i hi => hW.plain i hi) o h
    exact step_pure hA hW hrun hk hd
  · have old : ∀ {kn : Ob → Prop}, vcNew T o.op sl kn → (∀ ob, kn ob → obs.snoc ob fun obs' => fN (len obs) fun q => k (.ob q) sl obs') → Step w0 S0 P N o a w k K Q := by
      intro kn h hkn
      obtain ⟨ob, v, w', hk, hrun, hle, _, hob, hbl, hpl, hfl⟩ := vcNew_spec hT hA hW.lt (fun i hi => hW.plain i hi) o h
      have hk := hkn ob hk
      rw [snoc_iff, fN_iff, len_eq] at hk
      exact step_new hA hW hle hrun hk hob (fun b hb => by have hb := hb.flat hfl; rw [hbl] at hb; simp at hb; omega) hpl
    obtain ⟨dst, op, type, pos, after, guard⟩ := o
    cases op
    case makeSlice t l c =>
      obtain ⟨vl, h', hrl⟩ := evP_spec hA h
      clear h
      obtain ⟨vc, h, hrc⟩ := evP_spec hA h'
      clear h'
      split at h
      · rename_i kl l' kc c'
        have hl := hrl.of_v
        have hc := hrc.of_v
        obtain ⟨ob, v, w', hk, hrun, hle, hob, hbl, hpl⟩ := vcMake2_spec (ρ := ρ) (n := Lt obs.length) (S := S) (w := w) hT h kl kc
        rw [snoc_iff, fN_iff, len_eq] at hk
        exact step_new hA hW hle (by simp [execOp, hl, hc, hrun]) hk hob hbl hpl
      · exact h.elim
    all_goals exact old h (fun _ h => h)
  · obtain ⟨dst, op, type, pos, after, guard⟩ := o
    simp only at h
    split at h
    · rename_i t x y _
      obtain ⟨sx, h', hdx⟩ := ev_spec hA h
      clear h
      obtain ⟨sy, h, hdy⟩ := ev_spec hA h'
      obtain ⟨obs', w', hk, hrun, hs, hlen, hkp⟩ := vcStore_spec hT hW h hdx hdy
      intro H
      have := H _ sl obs' ρ S undef w' hk (by rw [hlen]; exact hA.mono hkp (fun _ h => h) (fun _ h => h) (fun _ _ => rfl)) hs (.p (.v _))
      unfold Oper.wp
      have hx : (execOp a.eval { dst := dst, op := Op.store t x y, type := type, pos := pos, after := after, guard := guard }).run P w = .ok .skip w' := by simp [execOp, hrun]
      rw [hx]
      exact this
    · exact h.elim
  · obtain ⟨dst, op, type, pos, after, guard⟩ := o
    rename_i hk0
    simp only at h hk0
    split at h
    · rename_i c
      obtain ⟨callee, args, argTypes⟩ := c
      have hcal : callee = .builtin .append := by
        simp only [opK] at hk0
        split at hk0 <;> first | (cases hk0; done) | rfl | assumption
      subst hcal
      split at h
      · rename_i s x t t' hargs htys
        simp only at hargs htys
        rw [cond_false_iff] at h
        obtain ⟨htt, h⟩ := h
        have htt : t = t' := Nat.eq_of_beq_eq_true htt
        subst htt
        obtain ⟨ss, h', hds⟩ := ev_spec hA h
        clear h
        obtain ⟨sx, h, hdx⟩ := ev_spec hA h'
        have e1 : args = #[s, x] := by apply Array.ext'; simpa using hargs
        have e2 : argTypes = #[t, t] := by apply Array.ext'; simpa using htys
        subst e1 e2
        unfold vcAppend2 at h
        cases hj : nestNo obs sx with
        | none =>
          simp only [hj] at h
          exact step_append hT hA hW rfl h hds hdx
        | some j =>
          simp only [hj] at h
          have hsx : sx = .ob j := by
            unfold nestNo at hj
            split at hj
            · split at hj
              · cases hj; rfl
              · cases hj
            · cases hj
          subst hsx
          rw [find_iff] at h
          obtain ⟨ty, ht, h⟩ := h
          split at h
          · rename_i e hk
            rw [find_iff] at h
            obtain ⟨te, hte, h⟩ := h
            rw [cond_false_iff, len_eq] at h
            exact step_appN hT hA hW rfl (kd_slice (hT t ty ht) hk) (hT e te hte) (Nat.eq_of_beq_eq_true h.1) h.2 hds hdx
          · exact h.elim
      · exact h.elim
    · exact h.elim
  · rename_i hk0
    clear hk0
    obtain ⟨dst, op, type, pos, after, guard⟩ := o
    simp only at h
    split at h
    · rename_i c
      obtain ⟨callee, args, argTypes⟩ := c
      split at h
      · rename_i f hcal
        simp only at hcal
        subst hcal
        obtain ⟨fi, l, xs, h, hl, hrun⟩ := vcFn_spec (P := P) hF hA h argTypes type
        simp only [Array.toArray_toList] at hrun
        exact step_call hA hW hrun hl h
      · exact h.elim
    · exact h.elim

/-! ### Lists of operations -/

/-- What holds behind a piece of code. -/
def Kpost (w0 : World) (S0 : Fr) (N : Nat) (k : K) (a : Act) (w : World) : Prop := ∃ sl obs ρ S, k sl obs ∧ SatA N sl (Lt obs.length) ρ S w a ∧ SatW w0 S0 obs ρ S w

theorem dstOf_eq (all : List Oper) (j : Nat) : dstOf all j = (all[j]?).bind (·.dst) := by
  induction all generalizing j with
  | nil => simp [dstOf]
  | cons o r ih => cases j <;> simp [dstOf, ih]

theorem yielded_eq (all : List Oper) (tmps : Array Value) (j t : Nat) (h : dstOf all j = some t) : yielded all.toArray tmps j = match tmps.getD t undef with | .bool b => some b | _ => none := by
  unfold yielded
  rw [dstOf_eq] at h
  simp only [List.getElem?_toArray, h, Option.bind_some]
  by_cases ht : t < tmps.size
  · simp only [Array.getD_eq_getD_getElem?, Array.getElem?_eq_getElem ht, Option.getD_some]
    split <;> split <;> simp_all
  · have hn : tmps[t]? = none := Array.getElem?_eq_none (by omega)
    simp only [Array.getD_eq_getD_getElem?, hn, Option.getD_none]
    rfl

theorem den_pv {x v : Value} (h : Den ρ n w S (.p (.v x)) v) : v = x := by
  cases h with
  | p h => exact h.of_v

/-- How a guard is decided. -/
theorem guard_spec (hA : SatA N sl n ρ S w a) {all : List Oper} {o : Oper} {run skip : Slots → Prop}
    (h : vcGuard all o.guard sl run skip) :
    ∃ sl', SatA N sl' n ρ S w a ∧ ((Region.wanted o (yielded all.toArray a.tmps) = true ∧ run sl') ∨ (Region.wanted o (yielded all.toArray a.tmps) = false ∧ skip sl')) := by
  unfold vcGuard at h
  cases hg : o.guard with
  | none => simp only [hg] at h; exact ⟨sl, hA, .inl ⟨by simp [Region.wanted, hg], h⟩⟩
  | some p =>
    obtain ⟨j, want⟩ := p
    simp only [hg] at h
    cases hd : dstOf all j with
    | none => simp [hd] at h
    | some t =>
      simp only [hd, fSV_iff] at h
      have hy := yielded_eq all a.tmps j t hd
      have hs := hA.slots t
      have put : ∀ b, a.tmps.getD t undef = .bool b → SatA N ((t, .kb b) :: sl) n ρ S w a := by
        intro b hb
        refine ⟨hA.size, hA.defs, fun t' => ?_⟩
        rw [get_cons]
        split
        · rename_i e; subst e; rw [hb]; exact .kb b
        · exact hA.slots t'
      split at h
      · rename_i b hget
        rw [hget] at hs
        have hs := den_kb hs
        rw [hs] at hy
        refine ⟨sl, hA, ?_⟩
        unfold Region.wanted
        simp only [hg, hy]
        cases b <;> cases want <;> simp_all
      · rename_i q hget
        rw [hget] at hs
        have hs := den_pv hs
        have hq := put q hs
        rw [hs] at hy
        unfold Region.wanted
        simp only [hg, hy]
        cases q <;> cases want <;> simp only at h hq
        · exact ⟨_, hq, .inl ⟨by simp, h.1 (by trivial)⟩⟩
        · exact ⟨_, hq, .inr ⟨by simp, h.2 (by trivial)⟩⟩
        · exact ⟨_, hq, .inr ⟨by simp, h.2 (by trivial)⟩⟩
        · exact ⟨_, hq, .inl ⟨by simp, h.1 (by trivial)⟩⟩
      · rename_i vs hget
        rw [hget] at hs
        have hs := den_pv hs
        rw [hs] at hy
        refine ⟨sl, hA, .inr ⟨?_, h⟩⟩
        unfold Region.wanted
        simp [hg, hy]
      · exact h.elim

theorem stepF_sound {F : Nat} (hT : TabOk P T) (hF : ∀ f, 2 < f → f < F → FnOk P f) (hA : SatA N sl (Lt obs.length) ρ S w a) (hW : SatW w0 S0 obs ρ S w) (o : Oper) {k : SV → K} (K : Act → World → Prop) (Q : Exit → Act → World → Prop)
    (h : stepF P F T o.op k sl obs) : Step w0 S0 P N o a w k K Q := by
  unfold stepF at h
  obtain ⟨sl2, obs2, S2, h, hA2, hW2, hlen, _⟩ := freeze_spec _ h hA hW
  exact vcOp_sound hT hF hA2 hW2 o K Q h

theorem stepP_sound {F : Nat} (hT : TabOk P T) (hF : ∀ f, 2 < f → f < F → FnOk P f) (hA : SatA N sl (Lt obs.length) ρ S w a) (hW : SatW w0 S0 obs ρ S w) (o : Oper) {k : SV → K} (K : Act → World → Prop) (Q : Exit → Act → World → Prop)
    (h : stepP P F T o.op k sl obs) : Step w0 S0 P N o a w k K Q := by
  unfold stepP at h
  cases hab : absorbs o.op sl obs with
  | false =>
    simp only [hab] at h
    exact stepF_sound hT hF hA hW o K Q h
  | true =>
    simp only [hab] at h
    obtain ⟨z, h⟩ := h
    cases z with
    | false => exact stepF_sound hT hF hA hW o K Q h
    | true =>
      obtain ⟨dst, op, type, pos, after, guard⟩ := o
      cases op <;> simp only [absorbs] at hab <;> first | (cases hab; done) | skip
      rename_i t m ps
      split at hab
      · rename_i u hps
        simp only [stepA, hps] at h
        have e1 : ps = #[(0, .tmp u)] := by apply Array.ext'; simpa using hps
        subst e1
        obtain ⟨sx, h, hd⟩ := ev_spec hA h
        exact step_absorb hT hA hW rfl h hd
      · cases hab

theorem vcOps_sound {F : Nat} (hT : TabOk P T) (hF : ∀ f, 2 < f → f < F → FnOk P f) (all : List Oper) (Q : Exit → Act → World → Prop) {k : K} (hQ : ∀ a w, Kpost w0 S0 N k a w → Q .normal a w) :
    ∀ (l : List Oper) {sl : Slots} {obs : Obs} {ρ : Nat → Value} {S : Nat → Prop} {a : Act} {w : World}, vcOps P F T N all l k sl obs → SatA N sl (Lt obs.length) ρ S w a → SatW w0 S0 obs ρ S w → wpList P all.toArray Q l a w
  | [], sl, obs, ρ, S, a, w, h, hA, hW => hQ a w ⟨sl, obs, ρ, S, h, hA, hW⟩
  | o :: r, sl, obs, ρ, S, a, w, h, hA, hW => by
    replace h : stepO P F T N all o (vcOps P F T N all r k) sl obs := h
    simp only [stepO] at h
    obtain ⟨sl1, hA1, h⟩ := guard_spec hA (all := all) (o := o) h
    unfold wpList
    rcases h with ⟨hw, h⟩ | ⟨hw, h⟩
    · rw [if_pos hw]
      refine .inl ?_
      refine stepP_sound hT hF hA1 hW o _ Q h ?_
      intro sv sl3 obs' ρ' S' v w' hk hA3 hW' hd
      obtain ⟨sl', hk, hA'⟩ := hA3.put hd hk
      exact vcOps_sound hT hF all Q hQ r hk hA' hW'
    · rw [if_neg (by simp [hw])]
      obtain ⟨sl', hk, hA'⟩ := hA1.put (.p (.v undef)) h
      exact vcOps_sound hT hF all Q hQ r hk hA' hW

end
end Go.Pv
