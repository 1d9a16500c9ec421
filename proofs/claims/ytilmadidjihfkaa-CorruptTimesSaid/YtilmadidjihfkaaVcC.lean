/- Equality of structs and arrays of ints: cell by cell. -/
import Derived.Test.YtilmadidjihfkaaVcB
namespace Go.Vc

theorem eqL_append : ∀ (a c b d : List Value), a.length = c.length → eqL (a ++ b) (c ++ d) = (eqL a c && eqL b d)
  | [], [], _, _, _ => by simp [eqL]
  | x :: a, y :: c, b, d, h => by
    simp only [List.cons_append, eqL, eqL_append a c b d (by simpa using h), Bool.and_assoc]
  | [], _ :: _, _, _, h => by simp at h
  | _ :: _, [], _, _, h => by simp at h

theorem allI64_iff (l : List Value) : allI64 l = true ↔ ∀ v ∈ l, ∃ n, v = .int .i64 n := by
  induction l with
  | nil => simp [allI64]
  | cons x r ih =>
    cases x with
    | int k n => cases k <;> simp [allI64, ih]
    | _ => simp [allI64]

def flatVal (P : Program) (t : TypeId) (xs : List Value) : Value :=
  match P.underlying t with
  | some (.int _) => xs.headD undef
  | _ => .agg xs.toArray

section
variable {P : Program}

theorem info_of_und {t : TypeId} {d : TypeDesc} (h : P.underlying t = some d) : ∃ i, P.info? t = some i := by
  unfold Program.underlying at h
  cases hi : P.info? t with
  | none => simp [hi] at h
  | some i => exact ⟨i, rfl⟩

theorem run_sizeOf' {t : TypeId} {d : TypeDesc} (h : P.underlying t = some d) (w : World) : (sizeOf t).run P w = .ok (P.cellsOf t) w := by
  obtain ⟨i, hi⟩ := info_of_und h
  simp [sizeOf, typeInfo, hi, Program.cellsOf]

theorem part_flat {n : Nat} {t : TypeId} (hf : flatB P n t = true) (cs : Array Value) (off : Nat) (h : off + P.cellsOf t ≤ cs.size) (w : World) :
    (part t cs off).run P w = .ok (flatVal P t ((cs.toList.drop off).take (P.cellsOf t))) w := by
  have hx : (cs.extract off (off + P.cellsOf t)) = ((cs.toList.drop off).take (P.cellsOf t)).toArray := by
    apply Array.ext'
    simp [Array.toList_extract]
  cases n with
  | zero => cases hf
  | succ n =>
    unfold flatB at hf
    split at hf
    · rename_i hu
      have h1 : P.cellsOf t = 1 := by simpa using hf
      have hlt : off < cs.size := by omega
      have hget : cs[off]? = some cs[off] := by simp [hlt]
      simp only [part, isAgg, Sem.run_bind, run_underlying hu, Result.andThen_ok, Sem.run_pure, Bool.false_eq_true, if_false, hget, flatVal, hu, h1]
      congr 1
      rw [List.take_one, List.head?_drop]
      simp [hlt]
    · rename_i fs hu
      simp only [part, isAgg, Sem.run_bind, run_underlying hu, Result.andThen_ok, Sem.run_pure, if_true, run_sizeOf' hu, flatVal, hu, hx]
    · rename_i k e hu
      simp only [part, isAgg, Sem.run_bind, run_underlying hu, Result.andThen_ok, Sem.run_pure, if_true, run_sizeOf' hu, flatVal, hu, hx]
    · cases hf

/-- The run of a loop over an array's elements in '=='. -/
theorem run_eqElems (d : Nat) (e : TypeId) (xs ys : Array Value) (k : Nat) (F : Nat → Bool) (w : World)
    (l : List Nat) (hF : ∀ i ∈ l, ∃ a b, (part e xs (i * k)).run P w = .ok a w ∧ (part e ys (i * k)).run P w = .ok b w ∧ (Op.equalIn d e a b).run P w = .ok (F i) w) :
    (do
      let r ← forIn l ((none, ()) : Option Bool × Unit) fun i _ => do
        if !(← Op.equalIn d e (← part e xs (i * k)) (← part e ys (i * k))) then pure (ForInStep.done (some false, ()))
        else pure (ForInStep.yield (none, ()))
      match r.1 with
      | some r => pure r
      | none => pure true : Sem Bool).run P w = .ok (l.all F) w := by
  induction l with
  | nil => simp
  | cons i l ih =>
    obtain ⟨a, b, ha, hb, he⟩ := hF i (by simp)
    have ih := ih fun j hj => hF j (by simp [hj])
    simp only [List.forIn_cons, Sem.run_bind, ha, hb, he, Result.andThen_ok, List.all_cons] at ih ⊢
    cases hFi : F i
    · simp
    · simp only [Bool.not_true, Bool.false_eq_true, if_false, Sem.run_pure, Result.andThen_ok, Bool.true_and]
      exact ih


theorem all_range_split (k : Nat) (xs ys : List Value) : ∀ (n o : Nat), o * k + n * k = xs.length → o * k + n * k = ys.length →
    ((List.range' o n).all fun i => eqL ((xs.drop (i * k)).take k) ((ys.drop (i * k)).take k)) = eqL (xs.drop (o * k)) (ys.drop (o * k))
  | 0, o, h1, h2 => by
    have e1 : xs.drop (o * k) = [] := List.drop_eq_nil_of_le (by omega)
    have e2 : ys.drop (o * k) = [] := List.drop_eq_nil_of_le (by omega)
    simp [e1, e2, eqL]
  | n + 1, o, h1, h2 => by
    have hk : (n + 1) * k = k + n * k := by rw [Nat.add_mul]; omega
    have ho : (o + 1) * k = o * k + k := by rw [Nat.add_mul]; omega
    have ih := all_range_split k xs ys n (o + 1) (by omega) (by omega)
    rw [List.range'_succ, List.all_cons, ih]
    have e1 : xs.drop (o * k) = (xs.drop (o * k)).take k ++ xs.drop ((o + 1) * k) := by
      rw [ho, ← List.drop_drop]; exact (List.take_append_drop k _).symm
    have e2 : ys.drop (o * k) = (ys.drop (o * k)).take k ++ ys.drop ((o + 1) * k) := by
      rw [ho, ← List.drop_drop]; exact (List.take_append_drop k _).symm
    conv => rhs; rw [e1, e2]
    rw [eqL_append _ _ _ _ (by simp; omega)]

theorem allI64_sub {l : List Value} (h : allI64 l = true) (o n : Nat) : allI64 ((l.drop o).take n) = true := by
  rw [allI64_iff] at *
  exact fun v hv => h v (List.mem_of_mem_drop (List.mem_of_mem_take hv))

theorem flat_eq : ∀ (n : Nat) (t : TypeId), flatB P n t = true → ∀ (d : Nat), n ≤ d → ∀ (xs ys : List Value) (w : World), allI64 xs = true → allI64 ys = true → xs.length = P.cellsOf t → ys.length = P.cellsOf t →
    (Op.equalIn d t (flatVal P t xs) (flatVal P t ys)).run P w = .ok (eqL xs ys) w
  | 0, _, h, _, _, _, _, _, _, _, _, _ => by cases h
  | n + 1, t, h, 0, hd, _, _, _, _, _, _, _ => by omega
  | n + 1, t, h, d + 1, hd, xs, ys, w, hx, hy, lx, ly => by
    unfold flatB at h
    split at h
    · rename_i hu
      have h1 : P.cellsOf t = 1 := by simpa using h
      rw [h1] at lx ly
      match xs, ys, lx, ly with
      | [x], [y], _, _ =>
        rw [allI64_iff] at hx hy
        obtain ⟨a, rfl⟩ := hx x (by simp)
        obtain ⟨b, rfl⟩ := hy y (by simp)
        simp [flatVal, hu, run_equalIn_int (P := P) w d t .i64 .i64 a b hu, eqL, eqV]
    · rename_i fs hu
      simp only [Bool.and_eq_true, Bool.not_eq_true', List.all_eq_true] at h
      obtain ⟨⟨hst, hlay⟩, hall⟩ := h
      have hfs : P.fieldsOf t = fs := by simp [Program.fieldsOf, hu]
      simp only [flatVal, hu]
      rw [run_equalIn_struct w d t xs.toArray ys.toArray (by rw [hfs]; exact hu) hst, hfs]
      have key : ∀ (l : List Field) (o : Nat), (∀ f ∈ l, flatB P n f.type = true) → layB P l o (P.cellsOf t) = true →
          (Op.eqFields d xs.toArray ys.toArray l).run P w = .ok (eqL (xs.drop o) (ys.drop o)) w := by
        intro l
        induction l with
        | nil =>
          intro o _ hl
          have : o = P.cellsOf t := by simpa [layB] using hl
          have e1 : xs.drop o = [] := List.drop_eq_nil_of_le (by omega)
          have e2 : ys.drop o = [] := List.drop_eq_nil_of_le (by omega)
          simp [Op.eqFields, e1, e2, eqL]
        | cons f r ih =>
          intro o hf hl
          simp only [layB, Bool.and_eq_true, beq_iff_eq, decide_eq_true_eq] at hl
          obtain ⟨⟨ho, hname⟩, hl⟩ := hl
          have hle : ∀ (l : List Field) (o : Nat), layB P l o (P.cellsOf t) = true → o ≤ P.cellsOf t := by
            intro l
            induction l with
            | nil => intro o h; have : o = P.cellsOf t := by simpa [layB] using h
                     omega
            | cons g r ih => intro o h; simp only [layB, Bool.and_eq_true] at h; have := ih _ h.2; omega
          have hb := hle _ _ hl
          have hff := hf f (by simp)
          have p1 := part_flat hff xs.toArray f.offset (by simp; omega) w
          have p2 := part_flat hff ys.toArray f.offset (by simp; omega) w
          simp only [] at p1 p2
          have q := flat_eq n f.type hff d (by omega) ((xs.drop o).take (P.cellsOf f.type)) ((ys.drop o).take (P.cellsOf f.type)) w (allI64_sub hx _ _) (allI64_sub hy _ _) (by simp; omega) (by simp; omega)
          have ih' := ih (o + P.cellsOf f.type) (fun g hg => hf g (by simp [hg])) hl
          have e1 : xs.drop o = (xs.drop o).take (P.cellsOf f.type) ++ xs.drop (o + P.cellsOf f.type) := by
            rw [← List.drop_drop]; exact (List.take_append_drop _ _).symm
          have e2 : ys.drop o = (ys.drop o).take (P.cellsOf f.type) ++ ys.drop (o + P.cellsOf f.type) := by
            rw [← List.drop_drop]; exact (List.take_append_drop _ _).symm
          rw [e1, e2, eqL_append _ _ _ _ (by simp; omega)]
          rw [ho] at p1 p2
          simp only [Op.eqFields, ho, hname, ne_eq, not_false_eq_true, if_true, Sem.run_bind, p1, p2, Result.andThen_ok, q, Sem.run_ite]
          cases eqL ((xs.drop o).take (P.cellsOf f.type)) ((ys.drop o).take (P.cellsOf f.type))
          · simp
          · simpa using ih'
      have := key fs.toList 0 hall hlay
      simpa using this
    · rename_i k e hu
      simp only [Bool.and_eq_true, beq_iff_eq] at h
      obtain ⟨hfe, hsz⟩ := h
      simp only [flatVal, hu]
      have hus : ∃ de, P.underlying e = some de := by
        cases n with
        | zero => cases hfe
        | succ n => unfold flatB at hfe; split at hfe <;> first | exact ⟨_, ‹_›⟩ | cases hfe
      obtain ⟨de, hde⟩ := hus
      have hr := run_eqElems (P := P) d e xs.toArray ys.toArray (P.cellsOf e) (fun i => eqL ((xs.drop (i * P.cellsOf e)).take (P.cellsOf e)) ((ys.drop (i * P.cellsOf e)).take (P.cellsOf e))) w (List.range' 0 k) (by
        intro i hi
        have hik : i < k := by simpa [List.mem_range'] using hi
        have hb : i * P.cellsOf e + P.cellsOf e ≤ k * P.cellsOf e := by
          have : (i + 1) * P.cellsOf e ≤ k * P.cellsOf e := Nat.mul_le_mul_right _ hik
          rwa [Nat.add_mul, Nat.one_mul] at this
        have p1 := part_flat hfe xs.toArray (i * P.cellsOf e) (by simp; omega) w
        have p2 := part_flat hfe ys.toArray (i * P.cellsOf e) (by simp; omega) w
        simp only [] at p1 p2
        exact ⟨_, _, p1, p2, flat_eq n e hfe d (by omega) _ _ w (allI64_sub hx _ _) (allI64_sub hy _ _) (by simp; omega) (by simp; omega)⟩)
      have hsplit := all_range_split (P.cellsOf e) xs ys k 0 (by omega) (by omega)
      simp only [Nat.zero_mul, List.drop_zero] at hsplit
      rw [hsplit] at hr
      simp only [Op.equalIn, Sem.run_bind, run_underlying hu, Result.andThen_ok, run_sizeOf' hde]
      simp only [Sem.run_bind] at hr
      rw [← hr]
      simp only [Std.Legacy.Range.forIn_eq_forIn_range', Std.Legacy.Range.size, Nat.sub_zero, Nat.add_sub_cancel, Nat.div_one]
      congr 1
      funext a w'
      obtain ⟨r, _⟩ := a
      cases r <;> rfl
    · cases h

end
end Go.Vc
