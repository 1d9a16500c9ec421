/- What the operations do: writing. -/
import Derived.Test.YtilmadidjihfkaaPvB
set_option linter.unusedSimpArgs false
namespace Go.Pv
open Go.Vc
open Go.RowKit (Below)

section
variable {P : Program} {T : Tab} {N : Nat} {sl : Slots} {obs : Obs} {n : Nat → Prop} {ρ : Nat → Value} {S : Nat → Prop} {S0 : Fr} {a : Act} {w w0 : World}

theorem splice_take {cur cs : List Value} {o : Nat} {xs : List Value} (ht : cur.take cs.length = cs) (hfit : o + xs.length ≤ cs.length) : (splice cur o xs).take cs.length = splice cs o xs := by
  have hcl : cs.length ≤ cur.length := by
    have := congrArg List.length ht
    simp at this; omega
  have e1 : cs.take o = cur.take o := by
    rw [← ht, List.take_take, Nat.min_eq_left (by omega)]
  have hlen : (cur.take o ++ xs).length = o + xs.length := by simp; omega
  have e2 : cs.drop (o + xs.length) = (cur.drop (o + xs.length)).take (cs.length - (o + xs.length)) := by
    conv => lhs; rw [← ht, List.drop_take]
  unfold splice
  rw [e1, e2, List.take_append, List.take_of_length_le (l := cur.take o ++ xs) (by omega), hlen]

theorem row_write {e0 : TypeId} {sz m b : Nat} {ex : Bool} {xs' : List Value} {x : Value} (hrow : RowOk w e0 sz m xs' ex x) (hb : blk x = some b) {cur : Array Value} {e : TypeId} (hg : w.heap[b]? = some (.cells cur e (0, 0))) {o : Nat} {vs : List Value} (hfit : o + vs.length ≤ xs'.length) :
    RowOk (w.setRow b (splice cur.toList o vs).toArray) e0 sz m (splice xs' o vs) ex x := by
  have hh := setRow_heap w b cur (splice cur.toList o vs).toArray e (0, 0) hg
  obtain ⟨hl', hv⟩ := hrow
  rcases hv with ⟨hx, _⟩ | ⟨g, cap, cur', hx, hg', h2, h3, h4, h5, h6⟩
  · rw [hx] at hb; cases hb
  · rw [hx] at hb
    simp only [blk, Option.some.injEq] at hb
    subst hb
    rw [hg'] at hg
    simp only [Option.some.injEq, Obj.cells.injEq] at hg
    obtain ⟨rfl, rfl, _⟩ := hg
    have ht' : cur'.toList.take xs'.length = xs' := by rw [hl']; exact h5
    have hst' := splice_take (o := o) (xs := vs) ht' hfit
    have hsl : (splice xs' o vs).length = xs'.length := splice_length _ _ _ (by omega)
    refine ⟨by rw [hsl]; exact hl', .inr ⟨g, cap, _, hx, hh, h2, h3, ?_, ?_, h6⟩⟩
    · have hcl : xs'.length ≤ cur'.size := by
        have := congrArg List.length ht'
        simp at this
        omega
      rw [List.size_toArray, splice_length _ _ _ (by simp only [Array.length_toList]; omega)]; simpa using h4
    · rw [← hl']; exact hst'

/-- Cells written into an object. -/
theorem write_ob {i : Nat} {ob : Ob} (hW : SatW w0 S0 obs ρ S w) (hi : obs[i]? = some ob) (hl : ob.live = true) {b : Nat} (hb : blk (ρ i) = some b) {t : TypeId} {ty : Ty} (hty : TyOk P t ty) {o : Nat} {v : Value}
    (hn : v.cells.toList.length = ty.size) (h1 : Ones v.cells.toList) {ob' : Ob}
    (hob : match ob, ob' with
      | .box t cs, .box t' cs' => t' = t ∧ o + ty.size ≤ cs.length ∧ ∃ l, cs' = spl cs o l ∧ DenL ρ (Lt obs.length) w S l v.cells.toList
      | .arr t cs, .arr t' cs' => t' = t ∧ o + ty.size ≤ cs.length ∧ ∃ l, cs' = spl cs o l ∧ RepL (Rep w S) l v.cells.toList
      | .row e sz m ex cs, .row e' sz' m' ex' cs' => e' = e ∧ sz' = sz ∧ m' = m ∧ ex' = ex ∧ o + ty.size ≤ cs.length ∧ ∃ l, cs' = spl cs o l ∧ RepL (Rep w S) l v.cells.toList
      | _, _ => False) :
    ∃ w', (Instr.storeAt t (.pointer (some ⟨b, o, none⟩)) v).run P w = .ok () w' ∧ SatW w0 S0 (obs.set i ob') ρ S w' ∧ Keeps S w w' ∧ Ch b w w' := by
  have hoi := hW.objs i ob hi
  obtain ⟨cur, e, xs, hg, hle, ht, hx1, hd⟩ := hoi.cells hl hb
  have hlen : (match ob with | .box _ cs => cs.length | .arr _ cs => cs.length | .row _ _ _ _ cs => cs.length | .nest _ _ _ cs _ => cs.length | .dead => 0) = xs.length := by
    cases ob <;> first | exact hd.1 | exact hd.2.1 | cases hl
  have hfit : o + ty.size ≤ xs.length := by
    cases ob <;> cases ob' <;> simp only at hob hlen <;> first | exact hob.elim | (rw [← hlen]; exact hob.2.1) | (rw [← hlen]; exact hob.2.2.2.2.1)
  have hrun := run_storeVar hty w b o e cur hg v hn h1 (by omega)
  have hch := Ch_setRow w b (splice cur.toList o v.cells.toList).toArray
  have hh := setRow_heap w b cur (splice cur.toList o v.cells.toList).toArray e (0, 0) hg
  have hst := splice_take (o := o) (xs := v.cells.toList) ht (by omega)
  have hk : Keeps S w (w.setRow b (splice cur.toList o v.cells.toList).toArray) := fun b' hb' => hch.block b' (hW.lt b' hb') fun e' => by subst e'; exact (hW.own i ob b' hi hl (.inl hb)).2 hb'
  have hflat : flatOb ob = true ∧ flatOb ob' = true := by
    cases ob <;> cases ob' <;> simp only at hob <;> first | exact hob.elim | exact ⟨rfl, rfl⟩
  refine ⟨_, by simp [Instr.storeAt, Instr.sureAddr, hrun], hW.store hi hl (.inl hb) hch ?_ (fun b' _ hb' => .inl (hb'.flat hflat.2)), hk, hch⟩
  cases ob with
  | box t0 cs =>
    cases ob' <;> simp only at hob <;> first | exact hob.elim | skip
    obtain ⟨rfl, _, l, rfl, hdl⟩ := hob
    obtain ⟨b', xs', hx, hb', hd', hx1'⟩ := hoi
    rw [hx] at hb
    simp only [blk, Option.some.injEq] at hb
    subst hb
    rw [hb'] at hg
    simp only [Option.some.injEq, Obj.cells.injEq] at hg
    obtain ⟨rfl, rfl, _⟩ := hg
    refine ⟨b', splice xs' o v.cells.toList, hx, hh, ?_, Ones.splice hx1' h1 o⟩
    exact (spl_den hd' hdl o).mono hk (fun _ h => h) (fun _ h => h) (fun _ _ => rfl)
  | arr t0 cs =>
    cases ob' <;> simp only at hob <;> first | exact hob.elim | skip
    obtain ⟨rfl, _, l, rfl, hdl⟩ := hob
    obtain ⟨b', xs', hx, hb', hd', hx1'⟩ := hoi
    rw [hx] at hb
    simp only [blk, Option.some.injEq] at hb
    subst hb
    rw [hb'] at hg
    simp only [Option.some.injEq, Obj.cells.injEq] at hg
    obtain ⟨rfl, rfl, _⟩ := hg
    exact ⟨b', splice xs' o v.cells.toList, hx, hh, (spl_rep hd' hdl o).mono hk (fun _ h => h), Ones.splice hx1' h1 o⟩
  | row e0 sz m ex cs =>
    cases ob' <;> simp only at hob <;> first | exact hob.elim | skip
    obtain ⟨rfl, rfl, rfl, rfl, _, l, rfl, hdl⟩ := hob
    obtain ⟨xs', hrow, hd', hx1'⟩ := hoi
    have hxl : xs'.length = xs.length := by rw [← hd'.1, ← hd.1]
    exact ⟨splice xs' o v.cells.toList, row_write hrow hb hg (by omega), (spl_rep hd' hdl o).mono hk (fun _ h => h), Ones.splice hx1' h1 o⟩
  | nest e0 sz m cs hole => exact hob.elim
  | dead => cases hl

theorem splice_get {xs vs : List Value} {o j : Nat} {u : Value} (hfit : o + vs.length ≤ xs.length) (h : (splice xs o vs)[j]? = some u) : ((j < o ∨ o + vs.length ≤ j) ∧ xs[j]? = some u) ∨ (o ≤ j ∧ j < o + vs.length ∧ vs[j - o]? = some u) := by
  unfold splice at h
  have hl : (xs.take o).length = o := by simp; omega
  rw [List.append_assoc, List.getElem?_append, hl] at h
  split at h
  · rename_i hj
    rw [List.getElem?_take, if_pos hj] at h
    exact .inl ⟨.inl hj, h⟩
  · rename_i hj
    rw [List.getElem?_append] at h
    split at h
    · exact .inr ⟨by omega, by omega, h⟩
    · rename_i hj2
      rw [List.getElem?_drop] at h
      refine .inl ⟨.inr (by omega), ?_⟩
      rw [← h]; congr 1; omega

theorem spl_get {α : Type} {xs vs : List α} {o j : Nat} {u : α} (hfit : o + vs.length ≤ xs.length) (h : (spl xs o vs)[j]? = some u) : ((j < o ∨ o + vs.length ≤ j) ∧ xs[j]? = some u) ∨ (o ≤ j ∧ j < o + vs.length ∧ vs[j - o]? = some u) := by
  unfold spl at h
  have hl : (xs.take o).length = o := by simp; omega
  rw [List.append_assoc, List.getElem?_append, hl] at h
  split at h
  · rename_i hj
    rw [List.getElem?_take, if_pos hj] at h
    exact .inl ⟨.inl hj, h⟩
  · rename_i hj
    rw [List.getElem?_append] at h
    split at h
    · exact .inr ⟨by omega, by omega, h⟩
    · rename_i hj2
      rw [List.getElem?_drop] at h
      refine .inl ⟨.inr (by omega), ?_⟩
      rw [← h]; congr 1; omega

theorem spl_length {α : Type} {xs vs : List α} {o : Nat} (hfit : o + vs.length ≤ xs.length) : (spl xs o vs).length = xs.length := by
  simp [spl]; omega

/-- Cells written into a row of rows. -/
theorem write_nest {i : Nat} {e0 : TypeId} {sz m : Nat} {cs : List NC} {hole : Option (Nat × SV)} (hW : SatW w0 S0 obs ρ S w) (hi : obs[i]? = some (.nest e0 sz m cs hole)) {b : Nat} (hb : blk (ρ i) = some b) {t : TypeId} {ty : Ty} (hty : TyOk P t ty) {o : Nat} {v : Value}
    (hn : v.cells.toList.length = ty.size) (h1 : Ones v.cells.toList) (hfit : o + ty.size ≤ cs.length) {cs' : List NC} {hole' : Option (Nat × SV)} (hlen : cs'.length = cs.length)
    (hcell : ∀ j c u, cs'[j]? = some c → Off hole' j → ((j < o ∨ o + ty.size ≤ j) ∧ cs[j]? = some c ∧ Off hole j) ∨ (o ≤ j ∧ j < o + ty.size ∧ (v.cells.toList[j - o]? = some u → ∃ p, c = .pu p ∧ Rep w S p u)))
    (hhole : ∀ p y, hole' = some (p, y) → ((p < o ∨ o + ty.size ≤ p) ∧ hole = some (p, y)) ∨ (o ≤ p ∧ p < o + ty.size ∧ ∀ u, v.cells.toList[p - o]? = some u → Den ρ (Lt obs.length) w S y u)) :
    ∃ w', (Instr.storeAt t (.pointer (some ⟨b, o, none⟩)) v).run P w = .ok () w' ∧ SatW w0 S0 (obs.set i (.nest e0 sz m cs' hole')) ρ S w' ∧ Keeps S w w' := by
  have hoi := hW.objs i _ hi
  obtain ⟨cur, e, xs, hg, hle, ht, hx1, _⟩ := hoi.cells rfl hb
  obtain ⟨xs', hrow, hl1, hx1', h3, h4, h5, h6⟩ := hoi
  have hxl : xs'.length = cs.length := hl1.symm
  have hcur : xs'.length ≤ cur.size := by
    rcases hrow.2 with ⟨hx, _⟩ | ⟨g, cap, cur', hx, hg', h2, _, h4', h5', _⟩
    · rw [hx] at hb; cases hb
    · rw [hx] at hb
      simp only [blk, Option.some.injEq] at hb
      subst hb
      rw [hg'] at hg
      simp only [Option.some.injEq, Obj.cells.injEq] at hg
      obtain ⟨rfl, rfl, _⟩ := hg
      rw [hrow.1, h4']
      exact Nat.mul_le_mul_right _ h2
  have hrun := run_storeVar hty w b o e cur hg v hn h1 (by omega)
  have hch := Ch_setRow w b (splice cur.toList o v.cells.toList).toArray
  have hk : Keeps S w (w.setRow b (splice cur.toList o v.cells.toList).toArray) := fun b' hb' => hch.block b' (hW.lt b' hb') fun e' => by subst e'; exact (hW.own i _ b' hi rfl (.inl hb)).2 hb'
  have hrow' := row_write hrow hb hg (o := o) (vs := v.cells.toList) (by omega)
  have hsl : (splice xs' o v.cells.toList).length = xs'.length := splice_length _ _ _ (by omega)
  -- what is an own row behind the store was one ahead of it
  have old : ∀ j b', Inn cs' hole' (splice xs' o v.cells.toList) j b' → Inn cs hole xs' j b' := by
    rintro j b' ⟨c, u, hc, how, hoff, hu, hbl⟩
    rcases splice_get (by omega) hu with ⟨hj, hu'⟩ | ⟨hj1, hj2, hu'⟩
    · rcases hcell j c u hc hoff with ⟨_, h7, h8⟩ | ⟨h7, h8, _⟩
      · exact ⟨c, u, h7, how, h8, hu', hbl⟩
      · omega
    · rcases hcell j c u hc hoff with ⟨h7, _⟩ | ⟨_, _, h8⟩
      · omega
      · obtain ⟨p, rfl, _⟩ := h8 hu'
        cases how
  have hne : ∀ j b', Inn cs hole xs' j b' → (w.setRow b (splice cur.toList o v.cells.toList).toArray).heap[b']? = w.heap[b']? := by
    intro j b' hin
    refine hch.block b' (hW.owned hi rfl (.inr ⟨_, _, _, _, _, xs', j, rfl, hrow, hin⟩)) fun e' => ?_
    subst e'
    exact h6 j b' hin hb
  refine ⟨_, by simp [Instr.storeAt, Instr.sureAddr, hrun], hW.store hi rfl (.inl hb) hch ?_ ?_, hk⟩
  · refine ⟨_, hrow', by rw [hsl, hlen, hl1], Ones.splice hx1' h1 o, fun j c u hc hu hoff => ?_, fun p y hp => ?_, fun j j' b' hj hj' => h5 j j' b' (old j b' hj) (old j' b' hj'), fun j b' hj => h6 j b' (old j b' hj)⟩
    · rcases splice_get (by omega) hu with ⟨hj, hu'⟩ | ⟨hj1, hj2, hu'⟩
      · rcases hcell j c u hc hoff with ⟨_, h7, h8⟩ | ⟨h7, h8, _⟩
        · exact (h3 j c u h7 hu' h8).mono (fun g how hg => hne j g ⟨c, u, h7, how, h8, hu', hg⟩) hk (fun _ h => h)
        · omega
      · rcases hcell j c u hc hoff with ⟨h7, _⟩ | ⟨_, _, h8⟩
        · omega
        · obtain ⟨p, rfl, hr⟩ := h8 hu'
          exact Rep.mono hk (fun _ h => h) hr
    · have hplt : p < cs.length := by
        rcases hhole p y hp with ⟨_, h7⟩ | ⟨h7, h8, _⟩
        · obtain ⟨v', hv', _⟩ := h4 p y h7
          have := (List.getElem?_eq_some_iff.1 hv').1
          omega
        · omega
      have hu : (splice xs' o v.cells.toList)[p]? = some ((splice xs' o v.cells.toList)[p]'(by omega)) := List.getElem?_eq_getElem (by omega)
      refine ⟨_, hu, ?_⟩
      rcases splice_get (by omega) hu with ⟨hj, hu'⟩ | ⟨hj1, hj2, hu'⟩
      · rcases hhole p y hp with ⟨_, h7⟩ | ⟨h7, h8, _⟩
        · obtain ⟨v', hv', hd⟩ := h4 p y h7
          rw [hu'] at hv'
          cases hv'
          exact hd.mono hk (fun _ h => h) (fun _ h => h) (fun _ _ => rfl)
        · omega
      · rcases hhole p y hp with ⟨h7, _⟩ | ⟨_, _, h8⟩
        · omega
        · exact (h8 _ hu').mono hk (fun _ h => h) (fun _ h => h) (fun _ _ => rfl)
  · rintro b' _ (hb' | ⟨e1, sz1, m1, cs1, hole1, xs1, j, he, hr1, hin⟩)
    · exact .inl hb'
    · cases he
      have := hr1.uniq hrow'
      subst this
      exact .inr ⟨_, _, _, _, _, xs', j, rfl, hrow, old j b' hin⟩

theorem mapNC_get {l : List PV} {j : Nat} {c : NC} (h : (mapNC l)[j]? = some c) : ∃ p, l[j]? = some p ∧ c = .pu (weak p) := by
  induction l generalizing j with
  | nil => simp [mapNC] at h
  | cons x r ih =>
    cases j with
    | zero => simp [mapNC] at h; exact ⟨x, by simp, h.symm⟩
    | succ j => simp [mapNC] at h; simpa using ih h

theorem mapNC_length (l : List PV) : (mapNC l).length = l.length := by induction l <;> simp_all [mapNC]

theorem storeOb_spec (hW : SatW w0 S0 obs ρ S w) {i o b : Nat} {t : TypeId} {ty : Ty} (hty : TyOk P t ty) {y : SV} {kk : Obs → Prop} (h : storeOb obs i o ty.size y kk) (hb : blk (ρ i) = some b) {vy : Value} (hd : Den ρ (Lt obs.length) w S y vy) :
    ∃ obs' w', kk obs' ∧ (Instr.storeAt t (.pointer (some ⟨b, o, none⟩)) vy).run P w = .ok () w' ∧ SatW w0 S0 obs' ρ S w' ∧ obs'.length = obs.length ∧ Keeps S w w' := by
  unfold storeOb at h
  rw [at_iff] at h
  obtain ⟨ob, hi, h⟩ := h
  cases ob with
  | box t0 cs =>
    simp only at h
    obtain ⟨l, h, hdl, h1, _⟩ := cellsS_spec (fun i hi => hW.plain i hi) hd h
    rw [cond_false_iff, Bool.and_eq_true, len_eq, len_eq, Nat.ble_eq, fL_iff, upd_iff] at h
    obtain ⟨⟨hn, hfit⟩, hlt, h⟩ := h
    have hn : l.length = ty.size := Nat.eq_of_beq_eq_true hn
    obtain ⟨w', h2, h3, h4, _⟩ := write_ob hW hi rfl hb hty (by rw [← hdl.1]; exact hn) h1 (ob' := .box t0 (spl cs o l)) (show _ ∧ _ ∧ _ from ⟨rfl, hfit, l, rfl, hdl⟩)
    exact ⟨_, w', h, h2, h3, by simp, h4⟩
  | arr t0 cs =>
    simp only at h
    obtain ⟨y', h, hr⟩ := toP_spec hd h
    obtain ⟨l, h, hdl, h1, _⟩ := cellsP_spec hr h
    rw [cond_false_iff, len_eq, upd_iff] at h
    obtain ⟨hn, hfit, hlt, h⟩ := h
    have hn : l.length = ty.size := Nat.eq_of_beq_eq_true hn
    obtain ⟨w', h2, h3, h4, _⟩ := write_ob hW hi rfl hb hty (by rw [← hdl.1]; exact hn) h1 (ob' := .arr t0 (spl cs o l)) (show _ ∧ _ ∧ _ from ⟨rfl, hfit, l, rfl, hdl⟩)
    exact ⟨_, w', h, h2, h3, by simp, h4⟩
  | row e sz m ex cs =>
    simp only at h
    obtain ⟨y', h, hr⟩ := toP_spec hd h
    obtain ⟨l, h, hdl, h1, _⟩ := cellsP_spec hr h
    rw [cond_false_iff, len_eq, upd_iff] at h
    obtain ⟨hn, hfit, hlt, h⟩ := h
    have hn : l.length = ty.size := Nat.eq_of_beq_eq_true hn
    obtain ⟨w', h2, h3, h4, _⟩ := write_ob hW hi rfl hb hty (by rw [← hdl.1]; exact hn) h1 (ob' := .row e sz m ex (spl cs o l)) (show _ ∧ _ ∧ _ ∧ _ ∧ _ ∧ _ from ⟨rfl, rfl, rfl, rfl, hfit, l, rfl, hdl⟩)
    exact ⟨_, w', h, h2, h3, by simp, h4⟩
  | nest e sz m cs hole =>
    simp only at h
    obtain ⟨l, h, hdl, h1, _⟩ := cellsS_spec (fun i hi => hW.plain i hi) hd h
    rw [cond_false_iff, len_eq] at h
    obtain ⟨hn, hfit, h⟩ := h
    have hn : l.length = ty.size := Nat.eq_of_beq_eq_true hn
    have hn' : vy.cells.toList.length = ty.size := by rw [← hdl.1]; exact hn
    unfold storeN at h
    cases hp : pures l with
    | some lp =>
      simp only [hp] at h
      obtain ⟨hoff, h⟩ := h
      rw [upd_iff] at h
      have hrp := pures_spec hp hdl
      have hml : (mapNC lp).length = ty.size := by rw [mapNC_length, hrp.1]; exact hn'
      obtain ⟨w', h2, h3, h4⟩ := write_nest hW hi hb hty hn' h1 hfit (cs' := spl cs o (mapNC lp)) (hole' := hole) (spl_length (by omega)) (by
        intro j c u hc ho
        rcases spl_get (by omega) hc with ⟨h5, h6⟩ | ⟨h5, h6, h7⟩
        · exact .inl ⟨by omega, h6, ho⟩
        · refine .inr ⟨h5, by omega, fun hu => ?_⟩
          obtain ⟨p, h8, rfl⟩ := mapNC_get h7
          exact ⟨_, rfl, weak_rep (hrp.2 _ p u h8 hu)⟩) (by
        intro p y hpy
        subst hpy
        exact .inl ⟨hoff, rfl⟩)
      exact ⟨_, w', h.2, h2, h3, by simp, h4⟩
    | none =>
      simp only [hp] at h
      split at h
      · rename_i _ _ _ j _
        obtain ⟨hat, h⟩ := h
        rw [upd_iff] at h
        have hs1 : ty.size = 1 := by rw [← hn]; rfl
        obtain ⟨w', h2, h3, h4⟩ := write_nest hW hi hb hty hn' h1 hfit (cs' := cs) (hole' := some (o, .ob j)) rfl (by
          intro q c u hc ho
          have hqo : q ≠ o := ho o _ rfl
          refine .inl ⟨by omega, hc, fun p y hpy => ?_⟩
          subst hpy
          have : p = o := hat
          omega) (by
          intro p y hpy
          cases hpy
          refine .inr ⟨Nat.le_refl _, by omega, fun u hu => ?_⟩
          rw [Nat.sub_self] at hu
          exact hdl.2 0 _ u rfl hu)
        exact ⟨_, w', h.2, h2, h3, by simp, h4⟩
      · exact h.elim
  | dead => exact h.elim

theorem vcStore_spec (hT : TabOk P T) (hW : SatW w0 S0 obs ρ S w) {t : TypeId} {x y : SV} {kk : Obs → Prop} (h : vcStore T t x y obs kk) {vx vy : Value} (hx : Den ρ (Lt obs.length) w S x vx) (hy : Den ρ (Lt obs.length) w S y vy) :
    ∃ obs' w', kk obs' ∧ (Instr.storeAt t vx vy).run P w = .ok () w' ∧ SatW w0 S0 obs' ρ S w' ∧ obs'.length = obs.length ∧ Keeps S w w' := by
  unfold vcStore at h
  rw [find_iff] at h
  obtain ⟨ty, ht, h⟩ := h
  have hty := hT t ty ht
  cases hx with
  | ob hi =>
    simp only at h
    rw [at_iff] at h
    obtain ⟨ob, hi', h⟩ := h
    rw [cond_false_iff] at h
    obtain ⟨hl, b, hx, hb⟩ := isVar_blk (hW.objs _ ob hi') h.1
    rw [hx]
    exact storeOb_spec hW hty h.2 hb hy
  | pt hi hb => exact storeOb_spec hW hty h hb hy
  | _ => exact h.elim

/-! ### Slices of slices -/

theorem optInt_spec (hA : SatA N sl n ρ S w a) {x : Option Operand} {d : Nat} {k : Nat → Prop} (h : optInt sl x d k) :
    ∃ m, k m ∧ ((x = none ∧ m = d) ∨ ∃ y, x = some y ∧ a.eval y = .int .i64 (m : Int)) := by
  cases x with
  | none => exact ⟨d, h, .inl ⟨rfl, rfl⟩⟩
  | some y =>
    obtain ⟨z, h, hr⟩ := evP_spec hA h
    split at h
    · have hr := hr.of_v
      obtain ⟨m, rfl, h⟩ := h
      exact ⟨m, h, .inr ⟨y, rfl, hr⟩⟩
    · exact h.elim

theorem run_sliceBound (m y : Nat) (h : m ≤ y) (c : BoundsCode) (w : World) : (Instr.sliceBound (.int .i64 (m : Int)) y c).run P w = .ok m w := by
  simp [Instr.sliceBound, asIntOf, h]

theorem run_slice {t e : TypeId} {te : Ty} (hu : P.underlying t = some (.slice e)) (hte : TyOk P e te) {lo hi mx : Option Value} {ad : Option Addr} {n c l h m : Nat} (h1 : m ≤ c) (h2 : h ≤ m) (h3 : l ≤ h)
    (hl : (lo = none ∧ l = 0) ∨ lo = some (.int .i64 (l : Int))) (hh : (hi = none ∧ h = n) ∨ hi = some (.int .i64 (h : Int))) (hm : (mx = none ∧ m = c) ∨ (mx = some (.int .i64 (m : Int)) ∧ hi ≠ none)) (w : World) :
    (Instr.sliceAt t (.slice ad n c) lo hi mx).run P w = .ok (.slice (if m = l then ad else ad.map (·.add (l * te.size))) (h - l) (m - l)) w := by
  have hs := Vc.run_sizeOf hte
  have hb : (Instr.sliceBounds true n c lo hi mx).run P w = .ok (l, h, m) w := by
    rcases hm with ⟨rfl, rfl⟩ | ⟨rfl, hne⟩ <;> rcases hh with ⟨rfl, rfl⟩ | rfl <;> rcases hl with ⟨rfl, rfl⟩ | rfl <;>
      first
        | exact absurd rfl hne
        | simp [Instr.sliceBounds, run_sliceBound, h1, h2, h3, *]
  simp only [Instr.sliceAt, Sem.run_bind, run_underlying hu, Result.andThen_ok]
  simp [Instr.slice, run_underlying hu, hb, hs]

theorem Rep.sl_sub {ex' : Bool} {l : List PV} {xs : List Value} {ad : Addr} (hS : S ad.block) (hl : l.length = xs.length) (h1 : Ones xs) (hc : ∀ (j : Nat) (x : Value), xs[j]? = some x → w.cell? (ad.add j) = some x) (hh : ∀ (j : Nat) (p : PV) (x : Value), l[j]? = some p → xs[j]? = some x → Rep w S p x)
    (p q m sz : Nat) (h2 : p ≤ q) (h3 : q ≤ m) (hex : ex' = true → m = q) : Rep w S (.sl ex' (q - p) ((l.drop (p * sz)).take ((q - p) * sz))) (.slice (if m = p then some ad else (some ad).map (·.add (p * sz))) (q - p) (m - p)) := by
  have hr := repL_take (repL_drop (w := w) (S := S) ⟨hl, hh⟩ (p * sz)) ((q - p) * sz)
  split
  · rename_i hmp
    have hqp : q - p = 0 := by omega
    rw [hqp, Nat.zero_mul, List.take_zero]
    refine .sl (xs := []) hS (by omega) (fun h => by have := hex h; omega) rfl (by simp) (by simp) (by simp)
  · refine .sl (xs := (xs.drop (p * sz)).take ((q - p) * sz)) (by simpa [addr_add_block] using hS) (by omega) (fun h => by have := hex h; omega) hr.1 (h1.sub _ _) (fun j x hj => ?_) hr.2
    rw [List.getElem?_take] at hj
    split at hj
    · rw [List.getElem?_drop] at hj
      rw [Addr.add_add]
      exact hc _ x hj
    · cases hj

theorem vcSlice_spec (hT : TabOk P T) (hA : SatA N sl n ρ S w a) {t : Nat} {lo hi mx : Option Operand} {x : SV} {k : SV → Prop} (h : vcSlice T sl t x lo hi mx k) {vx : Value} (hd : Den ρ n w S x vx) (hmh : mx = none ∨ hi ≠ none) :
    ∃ sv v, k sv ∧ Den ρ n w S sv v ∧ (Instr.sliceAt t vx (lo.map a.eval) (hi.map a.eval) (mx.map a.eval)).run P w = .ok v w := by
  unfold vcSlice at h
  rw [find_iff] at h
  obtain ⟨ty, ht, h⟩ := h
  have hty := hT t ty ht
  split at h
  · rename_i e hk
    have hu := kd_slice hty hk
    rw [find_iff] at h
    obtain ⟨te, hte, h⟩ := h
    have hteo := hT e te hte
    cases hd with
    | p hr =>
      have main : ∀ (ex : Bool) (m0 : Nat) (l : List PV) (ad : Option Addr) (cap : Nat), sliceP sl m0 te.size ex l lo hi mx k → m0 ≤ cap → (ex = true → cap = m0) →
          (∀ (ex' : Bool) (p q m : Nat), p ≤ q → q ≤ m → m ≤ cap → q ≤ m0 → (ex' = true → m = q) → Rep w S (.sl ex' (q - p) ((l.drop (p * te.size)).take ((q - p) * te.size))) (.slice (if m = p then ad else ad.map (·.add (p * te.size))) (q - p) (m - p))) →
          ∃ sv v, k sv ∧ Den ρ n w S sv v ∧ (Instr.sliceAt t (.slice ad m0 cap) (lo.map a.eval) (hi.map a.eval) (mx.map a.eval)).run P w = .ok v w := by
        intro ex m0 l ad cap h hcap hex hrep
        unfold sliceP at h
        obtain ⟨p, h, hp⟩ := optInt_spec hA h
        obtain ⟨q, h, hq⟩ := optInt_spec hA h
        obtain ⟨h1, h2, h⟩ := h
        have hl' : (lo.map a.eval = none ∧ p = 0) ∨ lo.map a.eval = some (.int .i64 (p : Int)) := by
          rcases hp with ⟨rfl, rfl⟩ | ⟨y, rfl, hy⟩
          · exact .inl ⟨rfl, rfl⟩
          · exact .inr (by simp [hy])
        have hh' : (hi.map a.eval = none ∧ q = m0) ∨ hi.map a.eval = some (.int .i64 (q : Int)) := by
          rcases hq with ⟨rfl, rfl⟩ | ⟨y, rfl, hy⟩
          · exact .inl ⟨rfl, rfl⟩
          · exact .inr (by simp [hy])
        cases mx with
        | none =>
          have h : ∃ ex', (ex' = true → cap = q) ∧ k (.p (.sl ex' (q - p) ((l.drop (p * te.size)).take ((q - p) * te.size)))) := by
            cases hi with
            | none =>
              have hqm : q = m0 := by
                rcases hq with ⟨_, rfl⟩ | ⟨y, hy, _⟩
                · rfl
                · cases hy
              exact ⟨ex, fun he => by rw [hqm]; exact hex he, h⟩
            | some y => exact ⟨false, by simp, h⟩
          obtain ⟨ex', hex', h⟩ := h
          exact ⟨_, _, h, .p (hrep ex' p q cap h1 (by omega) (Nat.le_refl _) h2 hex'), run_slice hu hteo (Nat.le_refl _) (by omega) h1 hl' hh' (.inl ⟨rfl, rfl⟩) w⟩
        | some x =>
          simp only at h
          obtain ⟨m, h, hm⟩ := optInt_spec hA h
          obtain ⟨rfl, h⟩ := h
          rcases hm with ⟨hc, _⟩ | ⟨y, hy, hy'⟩
          · cases hc
          cases hy
          refine ⟨_, _, h, .p (hrep true p m m h1 (Nat.le_refl _) (by omega) h2 (fun _ => rfl)), run_slice hu hteo (by omega) (Nat.le_refl _) h1 hl' hh' (.inr ⟨by simp [hy'], ?_⟩) w⟩
          rcases hmh with h | h
          · cases h
          · simpa using h
      cases hr with
      | nil ex a0 cap0 hex0 hn0 =>
        refine main ex 0 [] a0 cap0 h.2 (Nat.zero_le _) hex0 fun ex' p q m h1 h2 h3 h4 h5 => ?_
        have hq0 : q = 0 := by omega
        have hp0 : p = 0 := by omega
        subst hq0 hp0
        simp only [List.drop_nil, List.take_nil, Nat.sub_self]
        refine .nil _ _ _ (fun h => by have := h5 h; omega) (fun h => ?_)
        split at h
        · omega
        · cases a0 with
          | none => have := hn0 rfl; omega
          | some a => cases h
      | sl hS hn hex hl h1 hc hh => exact main _ _ _ _ _ h.2 hn hex fun ex' p q m h2 h3 h4 h5 h6 => Rep.sl_sub hS hl h1 hc hh p q m te.size h2 h3 h6
      | _ => exact h.elim
    | _ => exact h.elim
  · exact h.elim

/-! ### Rows that are made and built -/

theorem reps_rep {z : List PV} {xs : List Value} (h : RepL (Rep w S) z xs) : ∀ m, RepL (Rep w S) (reps m z) (repl m xs)
  | 0 => by simpa [reps, repl] using (repL_nil : RepL (Rep w S) [] [])
  | m + 1 => by
    have e1 : reps (m + 1) z = z ++ reps m z := by simp [reps, List.replicate_succ]
    rw [e1, repl_succ]
    exact repL_app h (reps_rep h m)

theorem ones_repl {xs : List Value} (h : Ones xs) (m : Nat) : Ones (repl m xs) := by
  intro x hx
  simp only [repl, List.mem_flatten, List.mem_replicate] at hx
  obtain ⟨l, ⟨_, rfl⟩, hx⟩ := hx
  exact h x hx

theorem ones_of {xs : List Value} (h : oneCells xs = true) : Ones xs := (oneCells_iff xs).1 h

theorem mkVar_spec {ty : Ty} {t : Nat} {cs : List SV} {k : Ob → Prop} (h : mkVar ty t cs k) {xs : List Value} {b : Nat} (hd : DenL ρ n w S cs xs) (h1 : Ones xs) (hb : w.heap[b]? = some (.cells xs.toArray t (0, 0))) :
    ∃ ob, k ob ∧ ob.live = true ∧ ObOk ρ n w S ob (.pointer (some ⟨b, 0, none⟩)) ∧ flatOb ob = true := by
  unfold mkVar at h
  cases hx : isArr ty with
  | true =>
    cases hp : pures cs with
    | some l =>
      simp only [hx, hp, fWL_iff] at h
      exact ⟨_, h, rfl, ⟨b, xs, rfl, hb, weakL_rep (pures_spec hp hd), h1⟩, rfl⟩
    | none => simp only [hx, hp] at h
  | false =>
    simp only [hx] at h
    exact ⟨_, h, rfl, ⟨b, xs, rfl, hb, hd, h1⟩, rfl⟩

theorem vcNew_spec (hT : TabOk P T) (hA : SatA N sl n ρ S w a) (hlt : ∀ b, S b → b < w.heap.size) (hpl : ∀ i, n i → Plain (ρ i)) (o : Oper) {k : Ob → Prop} (h : vcNew T o.op sl k) :
    ∃ ob v w', k ob ∧ (execOp a.eval o).run P w = .ok (.value v) w' ∧ Le w w' ∧ ob.live = true ∧ ObOk ρ n w' S ob v ∧ blk v = some w.heap.size ∧ Plain v ∧ flatOb ob = true := by
  obtain ⟨dst, op, type, pos, after, guard⟩ := o
  have keeps : ∀ w', Le w w' → Keeps S w w' := fun w' hl => Keeps.of_le hl hlt
  cases op <;> simp only [vcNew] at h
  case alloc t =>
    rw [find_iff] at h
    obtain ⟨ty, ht, h⟩ := h
    rw [cond_false_iff, Bool.and_eq_true, len_eq] at h
    obtain ⟨⟨hz, ho⟩, h⟩ := h
    rw [fL_iff] at h
    obtain ⟨z, hzc, hzr⟩ := run_zeroValue (hT _ _ ht)
    have hcs : z.cells = ty.zero.toArray := by rw [← hzc]
    have hb : (w.alloc (.cells z.cells t)).heap[w.heap.size]? = some (.cells ty.zero.toArray t (0, 0)) := by rw [heap_alloc_new, hcs]
    obtain ⟨ob, hk, hl, hob, hfl⟩ := mkVar_spec (ρ := ρ) (n := n) (w := w.alloc (.cells z.cells t)) (S := S) h (mapZS_den _) (ones_of ho) hb
    exact ⟨ob, .pointer (some ⟨w.heap.size, 0, none⟩), w.alloc (.cells z.cells t), hk, by simp [execOp, Instr.alloc, hzr, newVar, newRow], Le.alloc _ _, hl, hob, rfl, ⟨rfl, rfl⟩, hfl⟩
  case box t x =>
    obtain ⟨sv, h, hd⟩ := ev_spec hA h
    rw [find_iff] at h
    obtain ⟨ty, ht, h⟩ := h
    obtain ⟨l, h, hdl, h1, _⟩ := cellsS_spec hpl hd h
    rw [cond_false_iff, len_eq] at h
    have hb : (w.alloc (.cells (a.eval x).cells t)).heap[w.heap.size]? = some (.cells (a.eval x).cells.toList.toArray t (0, 0)) := by rw [heap_alloc_new]
    obtain ⟨ob, hk, hl, hob, hfl⟩ := mkVar_spec (ρ := ρ) (n := n) (S := S) h.2 (hdl.mono (keeps _ (Le.alloc w _)) (fun _ h => h) (fun _ h => h) (fun _ _ => rfl)) h1 hb
    exact ⟨ob, .pointer (some ⟨w.heap.size, 0, none⟩), w.alloc (.cells (a.eval x).cells t), hk, by simp [execOp, Instr.box, newVar, newRow], Le.alloc _ _, hl, hob, rfl, ⟨rfl, rfl⟩, hfl⟩
  case makeSlice t l c =>
    obtain ⟨vl, h', hrl⟩ := evP_spec hA h
    clear h
    obtain ⟨vc, h, hrc⟩ := evP_spec hA h'
    clear h'
    split at h
    · rename_i kl l' kc c'
      have hl := hrl.of_v
      have hc := hrc.of_v
      unfold vcMake at h
      rw [find_iff] at h
      obtain ⟨ty, ht, h⟩ := h
      split at h
      · rename_i e hk
        have hu := kd_slice (hT _ _ ht) hk
        rw [find_iff] at h
        obtain ⟨te, hte, h⟩ := h
        rw [cond_false_iff, Bool.and_eq_true, Bool.and_eq_true, Nat.ble_eq, len_eq] at h
        obtain ⟨⟨⟨hsz, hz⟩, ho⟩, n', m, rfl, rfl, hnm, ⟨hm, hb⟩, h⟩ := h
        rw [fWL_iff] at h
        obtain ⟨v, w', hrun, hrow, hle, hbl⟩ := run_make_row (P := P) hu (hT _ _ hte) hsz (Nat.eq_of_beq_eq_true hz) kl kc n' m hnm (by omega) (by simpa using hb) w
        refine ⟨_, v, w', h, by simp [execOp, hl, hc, hrun], hle, rfl, ⟨_, hrow, reps_rep (weakL_rep (mapZ_rep _)) _, ones_repl (ones_of ho) _⟩, hbl, ?_, rfl⟩
        rcases hrow.2 with ⟨rfl, _⟩ | ⟨g, cap, cur, rfl, _⟩ <;> exact ⟨rfl, rfl⟩
      · exact h.elim
    · exact h.elim
  case buildSlice t m ps =>
    obtain ⟨l, h, hps⟩ := evParts_spec hA ps.toList h
    unfold vcBuildSlice at h
    rw [find_iff] at h
    obtain ⟨ty, ht, h⟩ := h
    split at h
    · rename_i e hk
      have hu := kd_slice (hT _ _ ht) hk
      rw [find_iff] at h
      obtain ⟨te, hte, h⟩ := h
      rw [cond_false_iff, Bool.and_eq_true, Bool.and_eq_true, Bool.and_eq_true, Nat.ble_eq, len_eq, Nat.ble_eq] at h
      obtain ⟨⟨⟨⟨hsz, hz⟩, ho⟩, hn⟩, h⟩ := h
      rw [fWL_iff, fL_iff, fL_iff] at h
      obtain ⟨l', ys, h, hr, h1, hpp⟩ := rowParts_spec h hps (reps_rep (weakL_rep (mapZ_rep _)) _) (ones_repl (ones_of ho) _)
      obtain ⟨l2, v, w', hrun, hrow, hle, hbl, rfl⟩ := run_buildSlice (P := P) hu (hT _ _ hte) hsz (Nat.eq_of_beq_eq_true hz) m hn (ps.map fun p => (p.1, a.eval p.2)) _ (by simpa using hpp) w
      refine ⟨_, v, w', h, by simp [execOp, hrun], hle, rfl, ⟨_, hrow, hr.mono (keeps w' hle) (fun _ h => h), h1⟩, hbl, ?_, rfl⟩
      rcases hrow.2 with ⟨rfl, _⟩ | ⟨g, cap, cur, rfl, _⟩ <;> exact ⟨rfl, rfl⟩
    · exact h.elim
  all_goals exact h.elim

end
end Go.Pv
