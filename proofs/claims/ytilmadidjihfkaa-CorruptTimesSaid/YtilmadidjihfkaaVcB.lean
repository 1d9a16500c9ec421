/- What the operations do, over a program whose types are as the table says. -/
import Derived.Test.YtilmadidjihfkaaVcA
namespace Go.Vc
open Go.RowKit (Below)

/-- Fields one behind the other, from an offset on, up to an end. -/
def layB (P : Program) : List Field → Nat → Nat → Bool
  | [], o, n => o == n
  | f :: r, o, n => f.offset == o && decide (f.name ≠ "_") && layB P r (o + P.cellsOf f.type) n

/-- A type of structs and arrays of int alone, fields that are compared. -/
def flatB (P : Program) : Nat → TypeId → Bool
  | 0, _ => false
  | d + 1, t => match P.underlying t with
    | some (.int .i64) => P.cellsOf t == 1
    | some (.struct fs) => !P.stoodInHeld t && layB P fs.toList 0 (P.cellsOf t) && fs.toList.all fun f => flatB P d f.type
    | some (.array n e) => flatB P d e && P.cellsOf t == n * P.cellsOf e
    | _ => false

def kdB (P : Program) (t : TypeId) : Kd → Bool
  | .int k => match P.underlying t with | some (.int k') => k == k' | _ => false
  | .bool => match P.underlying t with | some .bool => true | _ => false
  | .struct fs flat => match P.underlying t with
    | some (.struct fields) => fields.toList.map (fun f => (f.offset, f.type, P.cellsOf f.type)) == fs && (fs.all fun f => f.2.2 != 0) && (!flat || (flatB P 8 t && !P.eqGuardType P.depth t))
    | _ => false
  | .arr n e esz flat => match P.underlying t with
    | some (.array n' e') => n == n' && e == e' && (P.info? e).map (·.size) == some esz && (!flat || (flatB P 8 t && !P.eqGuardType P.depth t))
    | _ => false
  | .slice e => match P.underlying t with | some (.slice e') => e == e' | _ => false
  | .other => match P.underlying t with | some (.struct _) | some (.array _ _) | none => false | _ => true

/-- The table is right: all but the zero values, as a Bool; those by an equation. -/
def tabB (P : Program) (T : Tab) : Bool := T.all fun p => kdB P p.1 p.2.kd && (P.info? p.1).map (fun i => (i.size, i.bytes)) == some (p.2.size, p.2.bytes)

def tabZ (P : Program) (T : Tab) : List (Option (Option (List Value))) := T.map fun p => (P.info? p.1).map fun i => i.zero.map fun z => z.cells.toList
def tabZ' (T : Tab) : List (Option (Option (List Value))) := T.map fun p => some (some p.2.zero)

structure TyOk (P : Program) (t : TypeId) (ty : Ty) : Prop where
  info : ∃ i z, P.info? t = some i ∧ i.size = ty.size ∧ i.bytes = ty.bytes ∧ i.zero = some z ∧ z.cells.toList = ty.zero
  kd : kdB P t ty.kd = true

def TabOk (P : Program) (T : Tab) : Prop := ∀ t ty, T.get t = some ty → TyOk P t ty

theorem tabOk_of {P : Program} : ∀ {T : Tab}, tabB P T = true → tabZ P T = tabZ' T → TabOk P T
  | [], _, _ => fun _ _ h => by cases h
  | (n, y) :: r, hb, hz => by
    intro t ty h
    simp only [tabB, List.all_cons, Bool.and_eq_true, beq_iff_eq] at hb
    simp only [tabZ, tabZ', List.map_cons, List.cons.injEq] at hz
    by_cases hn : n = t
    · subst hn
      simp only [Tab.get, if_true, Option.some.injEq] at h
      subst h
      refine ⟨?_, hb.1.1⟩
      have h1 := hb.1.2
      have h2 := hz.1
      cases hi : P.info? n with
      | none => simp [hi] at h1
      | some i =>
        simp only [hi, Option.map_some, Option.some.injEq, Prod.mk.injEq] at h1 h2
        cases hz : i.zero with
        | none => simp [hz] at h2
        | some z => simp only [hz, Option.map_some, Option.some.injEq] at h2; exact ⟨i, z, rfl, h1.1, h1.2, hz, h2⟩
    · simp only [Tab.get, hn, if_false] at h
      exact tabOk_of (T := r) hb.2 hz.2 t ty h

section
variable {P : Program} {t : TypeId} {ty : Ty}

theorem TyOk.cellsOf (h : TyOk P t ty) : P.cellsOf t = ty.size := by
  obtain ⟨i, z, hi, hs, _⟩ := h.info
  simp [Program.cellsOf, hi, hs]

theorem run_sizeOf (h : TyOk P t ty) (w : World) : (sizeOf t).run P w = .ok ty.size w := by
  obtain ⟨i, z, hi, hs, _⟩ := h.info
  simp [sizeOf, typeInfo, hi, hs]

theorem run_zeroValue (h : TyOk P t ty) : ∃ z, z.cells.toList = ty.zero ∧ ∀ w : World, (zeroValue t).run P w = .ok z w := by
  obtain ⟨i, z, hi, hs, hb, hz, hc⟩ := h.info
  exact ⟨z, hc, fun w => by simp [zeroValue, typeInfo, hi, hz]⟩

theorem TyOk.und (h : TyOk P t ty) : ∃ d, P.underlying t = some d ∧ (match d with | .struct _ | .array _ _ => true | _ => false) = isAggK ty.kd := by
  have h3 := h.kd
  cases hk : ty.kd <;> simp only [hk, kdB] at h3 <;> split at h3 <;> first | (cases h3; done) | skip
  all_goals (rename_i hu; try (exact ⟨_, hu, rfl⟩))
  rename_i h1 h2
  cases hd : P.underlying t with
  | none => exact (hu hd).elim
  | some d =>
    refine ⟨d, rfl, ?_⟩
    cases d <;> first | rfl | (exact (h1 _ hd).elim) | (exact (h2 _ _ hd).elim)

theorem run_isAgg (h : TyOk P t ty) (w : World) : (isAgg t).run P w = .ok (isAggK ty.kd) w := by
  obtain ⟨d, hd, ha⟩ := h.und
  rw [← ha]
  simp only [isAgg, Sem.run_bind, run_underlying hd, Result.andThen_ok]
  cases d <;> rfl

theorem run_loadVar (h : TyOk P t ty) (w : World) (ad : Addr) (l : List Value) (hl : l.length = ty.size) (hc : ∀ j c, l[j]? = some c → w.cell? (ad.add j) = some c) (v : Value)
    (hv : (isAggK ty.kd = true ∧ v = .agg l.toArray) ∨ (isAggK ty.kd = false ∧ l = [v])) : (loadVar t ad).run P w = .ok v w := by
  rcases hv with ⟨ha, rfl⟩ | ⟨ha, rfl⟩
  · simp only [loadVar, Sem.run_bind, run_isAgg h, ha, Result.andThen_ok, if_true, run_sizeOf h]
    rw [← hl, run_loadCells_list w ad l hc]
    rfl
  · have h0 := hc 0 v rfl
    have : ad.add 0 = ad := rfl
    rw [this] at h0
    simp only [loadVar, Sem.run_bind, run_isAgg h, ha, Result.andThen_ok]
    simp [run_load, h0]

theorem run_storeVar (h : TyOk P t ty) (w : World) (g o : Nat) (e : TypeId) (cur : Array Value) (hg : w.heap[g]? = some (.cells cur e (0, 0))) (v : Value) (hl : v.cells.toList.length = ty.size)
    (h1 : ∀ u ∈ v.cells.toList, u.oneCell' = true) (hfit : o + ty.size ≤ cur.size) :
    (storeVar t ⟨g, o, none⟩ v).run P w = .ok () (w.setRow g (splice cur.toList o v.cells.toList).toArray) := by
  have hst := run_storeCells_at P g o e v.cells.toList 0 cur w hg (by omega) h1
  simp only [Nat.add_zero] at hst
  have hs : v.cells.size = ty.size := by simpa using hl
  simp only [storeVar, Sem.run_bind, run_sizeOf h, Result.andThen_ok, hs]
  simp [hst, splice]

end
end Go.Vc
