/- Parts put in place; rows that are made, built, appended to. -/
import Derived.Test.YtilmadidjihfkaaVcC
namespace Go.Vc
section
variable {P : Program}

theorem splice_cons (cs : List Value) (o : Nat) (x : Value) (r : List Value) (h : o + (r.length + 1) ≤ cs.length) : splice (cs.set o x) (o + 1) r = splice cs o (x :: r) := by
  unfold splice
  have h1 : (cs.set o x).take (o + 1) = cs.take o ++ [x] := by
    rw [List.take_set, List.take_succ_eq_append_getElem (by omega)]
    have hl : (cs.take o).length = o := by simp; omega
    generalize cs[o]'(by omega) = z
    rw [List.set_append_right _ _ (by omega), hl]
    simp
  rw [h1]
  simp only [List.append_assoc, List.singleton_append, List.length_cons]
  rw [List.drop_set_of_lt (by omega)]
  simp [Nat.add_assoc, Nat.add_comm 1]

theorem fill_fold (off : Nat) : ∀ (xs : List Value) (i : Nat) (cells : Array Value), off + i + xs.length ≤ cells.size →
    ((xs.zipIdx i).foldl (fun (cs : Array Value) (p : Value × Nat) => cs.setIfInBounds (off + p.2) p.1) cells).toList = splice cells.toList (off + i) xs
  | [], i, cells, _ => by simp [splice]
  | x :: r, i, cells, h => by
    simp only [List.zipIdx_cons, List.foldl_cons]
    rw [fill_fold off r (i + 1) _ (by simp at h ⊢; omega)]
    rw [Array.toList_setIfInBounds, ← Nat.add_assoc, splice_cons _ _ _ _ (by simp at h ⊢; omega)]

theorem splice_length (cs : List Value) (o : Nat) (xs : List Value) (h : o + xs.length ≤ cs.length) : (splice cs o xs).length = cs.length := by
  simp [splice]; omega

/-- The fill of the model, as the VC generator puts parts. -/
theorem fill_of_putParts (place : Nat → Option (Nat × Nat)) (pl : List (Nat × Nat)) (hpl : ∀ i p, pl[i]? = some p → place i = some p) :
    ∀ (ps : List (Nat × Value)) (cells : Array Value) (k : List Value → Prop), putParts cells.toList pl ps k → ∃ l, l.length = cells.size ∧ Instr.fill place cells ps = some l.toArray ∧ k l
  | [], cells, k, h => ⟨cells.toList, by simp, by simp [Instr.fill], h⟩
  | (i, y) :: r, cells, k, h => by
    simp only [putParts] at h
    split at h
    · rename_i o n _ hd
      rw [cellsOf_iff] at h
      simp only [cond_false_iff, Bool.and_eq_true, fL_iff, len_eq] at h
      obtain ⟨_, ⟨h1, h2⟩, h⟩ := h
      have h1 : y.cells.toList.length = n := Nat.eq_of_beq_eq_true h1
      rw [Nat.ble_eq] at h2
      have hi : pl[i]? = some (o, n) := by
        have := congrArg (·[0]?) hd
        simpa using this
      have hf := fill_fold o y.cells.toList 0 cells (by simpa using h2)
      simp only [Nat.add_zero] at hf
      have hz : (y.cells.zipIdx.foldl (fun cs (c, j) => cs.setIfInBounds (o + j) c) cells).toList = splice cells.toList o y.cells.toList := by
        rw [← hf]
        simp only [Array.foldl_toList, ← Array.toList_zipIdx]
      obtain ⟨l, hl, hfill, hk⟩ := fill_of_putParts place pl hpl r (splice cells.toList o y.cells.toList).toArray k (by simpa using h)
      refine ⟨l, ?_, ?_, hk⟩
      · rw [hl]
        simp only [List.size_toArray]
        rw [splice_length _ _ _ h2]; simp
      · simp only [Instr.fill, hpl i _ hi]
        have hs : y.cells.size = n := by simpa using h1
        have h2' : ¬ (o + n > cells.size) := by simp at h2; omega
        simp only [hs, ne_eq, not_true_eq_false, decide_false, Bool.false_or, h2']
        rw [if_neg (by simp)]
        rw [← hfill]
        congr 1
        apply Array.ext'
        rw [hz]
    · exact h.elim

theorem rowPl_get (esz : Nat) : ∀ (n o i : Nat) (p : Nat × Nat), (rowPl esz n o)[i]? = some p → i < n ∧ p = (o + i * esz, esz)
  | 0, _, _, _, h => by simp [rowPl] at h
  | n + 1, o, 0, p, h => by simp [rowPl] at h; exact ⟨by omega, by simp [← h]⟩
  | n + 1, o, i + 1, p, h => by
    simp only [rowPl, List.getElem?_cons_succ] at h
    obtain ⟨h1, h2⟩ := rowPl_get esz n (o + esz) i p h
    refine ⟨by omega, ?_⟩
    rw [h2, Nat.add_mul]
    congr 1
    omega

theorem kd_struct {t : TypeId} {ty : Ty} (h : TyOk P t ty) {fs : List (Nat × Nat × Nat)} {fl : Bool} (hk : ty.kd = .struct fs fl) :
    ∃ fields, P.underlying t = some (.struct fields) ∧ fields.toList.map (fun f => (f.offset, f.type, P.cellsOf f.type)) = fs ∧ (∀ f ∈ fs, f.2.2 ≠ 0) := by
  have h3 := h.kd
  simp only [hk, kdB] at h3
  split at h3
  · rename_i fields hu
    simp only [Bool.and_eq_true, beq_iff_eq, List.all_eq_true, bne_iff_ne] at h3
    exact ⟨fields, hu, h3.1.1, h3.1.2⟩
  · cases h3

theorem kd_arr {t : TypeId} {ty : Ty} (h : TyOk P t ty) {n e esz : Nat} {fl : Bool} (hk : ty.kd = .arr n e esz fl) :
    P.underlying t = some (.array n e) ∧ ∀ w : World, (sizeOf e).run P w = .ok esz w := by
  have h3 := h.kd
  simp only [hk, kdB] at h3
  split at h3
  · rename_i n' e' hu
    simp only [Bool.and_eq_true, beq_iff_eq] at h3
    obtain ⟨⟨⟨rfl, rfl⟩, he⟩, _⟩ := h3
    refine ⟨hu, fun w => ?_⟩
    cases hi : P.info? e with
    | none => simp [hi] at he
    | some i => simp [hi] at he; simp [sizeOf, typeInfo, hi, he]
  · cases h3

theorem kd_slice {t : TypeId} {ty : Ty} (h : TyOk P t ty) {e : Nat} (hk : ty.kd = .slice e) : P.underlying t = some (.slice e) := by
  have h3 := h.kd
  simp only [hk, kdB] at h3
  split at h3
  · rename_i e' hu
    have : e = e' := by simpa using h3
    subst this
    exact hu
  · cases h3

theorem kd_int {t : TypeId} {ty : Ty} (h : TyOk P t ty) {k : IntKind} (hk : ty.kd = .int k) : P.underlying t = some (.int k) := by
  have h3 := h.kd
  simp only [hk, kdB] at h3
  split at h3
  · rename_i e' hu
    have : k = e' := by simpa using h3
    subst this
    exact hu
  · cases h3

theorem kd_bool {t : TypeId} {ty : Ty} (h : TyOk P t ty) (hk : ty.kd = .bool) : P.underlying t = some .bool := by
  have h3 := h.kd
  simp only [hk, kdB] at h3
  split at h3
  · assumption
  · cases h3

theorem kd_flat {t : TypeId} {ty : Ty} (h : TyOk P t ty) (hf : isFlat ty.kd = true) : flatB P 8 t = true ∧ P.eqGuardType P.depth t = false ∧ isAggK ty.kd = true := by
  have h3 := h.kd
  cases hk : ty.kd with
  | struct fs fl =>
    simp only [hk, isFlat] at hf
    subst hf
    simp only [hk, kdB] at h3
    split at h3
    · simp only [Bool.and_eq_true, Bool.not_true, Bool.false_or, Bool.not_eq_true'] at h3
      exact ⟨h3.2.1, h3.2.2, rfl⟩
    · cases h3
  | arr n e z fl =>
    simp only [hk, isFlat] at hf
    subst hf
    simp only [hk, kdB] at h3
    split at h3
    · simp only [Bool.and_eq_true, Bool.not_true, Bool.false_or, Bool.not_eq_true'] at h3
      exact ⟨h3.2.1, h3.2.2, rfl⟩
    · cases h3
  | _ => simp [hk, isFlat] at hf

theorem places_of : ∀ (fields : List Field) (fs : List (Nat × Nat × Nat)), fields.map (fun f => (f.offset, f.type, P.cellsOf f.type)) = fs → (∀ f ∈ fs, f.2.2 ≠ 0) →
    fields.mapM (fun f => (P.info? f.type).map fun i => (f.offset, i.size)) = some (fs.map fun f => (f.1, f.2.2))
  | [], _, h, _ => by subst h; rfl
  | f :: r, _, h, hz => by
    subst h
    have h0 := hz (f.offset, f.type, P.cellsOf f.type) (by simp)
    have ih := places_of r _ rfl (fun g hg => hz g (by simp only [List.map_cons, List.mem_cons]; exact .inr hg))
    simp only at h0
    cases hi : P.info? f.type with
    | none => simp [Program.cellsOf, hi] at h0
    | some i => simp [List.mapM_cons, hi, ih, Program.cellsOf]

theorem run_build {t : TypeId} {ty : Ty} (h : TyOk P t ty) (hz : ty.zero.length = ty.size) (ha : isAggK ty.kd = true) (ps : Array (Nat × Value)) (k : List Value → Prop) (hk : putParts ty.zero (plOf ty.kd) ps.toList k) (w : World) :
    ∃ l, l.length = ty.size ∧ (Instr.build t ps).run P w = .ok (.agg l.toArray) w ∧ k l := by
  obtain ⟨z, hzc, hzr⟩ := run_zeroValue h
  have hzs : z.cells.size = ty.size := by rw [← hz, ← hzc]; simp
  cases hkd : ty.kd with
  | struct fs fl =>
    obtain ⟨fields, hu, hm, hnz⟩ := kd_struct h hkd
    rw [hkd] at hk
    rw [← hzc] at hk
    have hpl := places_of fields.toList fs hm hnz
    obtain ⟨l, hl, hf, hk⟩ := fill_of_putParts (fun i => ((fs.map fun f => (f.1, f.2.2)).toArray)[i]?) (plOf (.struct fs fl)) (by intro i p hp; simpa [plOf] using hp) ps.toList z.cells k hk
    refine ⟨l, by omega, ?_, hk⟩
    simp only [Instr.build, Sem.run_bind, hzr, run_underlying hu, Result.andThen_ok]
    simp [Array.mapM_eq_mapM_toList, run_places w _ _ hpl]
    have hf' : Instr.fill (fun x => Option.map (fun f : Nat × Nat × Nat => (f.fst, f.snd.snd)) fs[x]?) z.cells ps.toList = some l.toArray := by
      rw [← hf]; congr 1; funext i; simp
    rw [hf']
    rfl
  | arr n e esz fl =>
    obtain ⟨hu, hs⟩ := kd_arr h hkd
    rw [hkd, ← hzc] at hk
    obtain ⟨l, hl, hf, hk⟩ := fill_of_putParts (fun i => some (i * esz, esz)) (plOf (.arr n e esz fl)) (by
      intro i p hp
      obtain ⟨_, h2⟩ := rowPl_get esz n 0 i p hp
      simp [h2]) ps.toList z.cells k hk
    refine ⟨l, by omega, ?_, hk⟩
    simp only [Instr.build, Sem.run_bind, hzr, run_underlying hu, Result.andThen_ok, hs, hf]
    rfl
  | _ => simp [hkd, isAggK] at ha

end
end Go.Vc
