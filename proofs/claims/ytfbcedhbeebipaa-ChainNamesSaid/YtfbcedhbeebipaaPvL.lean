/- Contracts in other forms; loops over elements; small facts. -/
import Derived.Test.YtfbcedhbeebipaaPvIm
namespace Go.Pv
open Go.Vc
open Go.RowKit (Below)

/-- A row of the call's own that nobody changes any more. -/
theorem Ret.frz {P : Program} {f : FuncId} {args : List PV} {e : TypeId} {sz n : Nat} {cs : List PV} {x : PV} (h : Ret P f args [.row e sz n false cs] (.tup [.ob 0, .p x])) : Ret P f args [] (.tup [.p (.sl false n cs), .p x]) := by
  intro w S xs hlt hrep
  refine (h w S xs hlt hrep).mono ?_
  rintro ed w' ⟨v, ρ, S', rfl, hW, hd⟩
  obtain ⟨y, hy, hrep⟩ := frozen_spec (ob := .row e sz n false cs) (k := fun y => y = .sl false n cs) rfl (hW.objs 0 _ rfl)
  subst hy
  have hkill := (hW.kill 0).more (S' := fun b => S' b ∨ Owns w' (.row e sz n false cs) (ρ 0) b) (fun _ h => .inl h) (by
    intro b hb
    rcases hb with hb | hb
    · exact hW.lt b hb
    · exact (hW.objs 0 _ rfl).lt rfl hb) (by
    intro b hb
    rcases hb with hb | hb
    · exact .inl hb
    · refine .inr ⟨(hW.own 0 _ b rfl rfl hb).1, fun j oj hj lj bj => ?_⟩
      cases j with
      | zero => simp at hj; subst hj; cases lj
      | succ j => simp at hj)
  refine ⟨v, ρ, _, rfl, hkill.shrink (by simp) (fun i o h => by simp at h) (fun i o h => by simp at h) (fun i v hp => by cases hp), ?_⟩
  cases hd with
  | tup hl hh =>
    rename_i vs
    match vs, hl with
    | [a, b], _ =>
      have h0 := hh 0 _ a rfl rfl
      have h1 := hh 1 _ b rfl rfl
      have h2 : a = ρ 0 := by
        generalize hz : (SV.ob 0) = z at h0
        cases h0 <;> cases hz
        rfl
      subst h2
      have : DenL ρ (Lt 0) w' (fun b => S' b ∨ Owns w' (.row e sz n false cs) (ρ 0) b) [.p (.sl false n cs), .p x] [ρ 0, b] := by
        refine denL_cons (.p hrep) (denL_cons ?_ denL_nil)
        cases h1 with
        | p h1 => exact .p (h1.mono (fun _ _ => rfl) (fun _ h => .inl h))
      exact .tup this.1 this.2

theorem all_take_succ {α : Type} (p : α → Bool) {l : List α} {k : Nat} (hk : k < l.length) : (l.take (k + 1)).all p = ((l.take k).all p && p l[k]) := by
  rw [List.take_succ_eq_append_getElem hk, List.all_append]; simp

theorem succ_w {k : Nat} (h : k < 1099511627776) : IntKind.i64.wrap ((k : Int) + 1) = ((k + 1 : Nat) : Int) := by
  rw [wrap_id (by omega) (by omega)]; simp

theorem fill_set {α : Type} (xs : List α) (z y : α) (n k : Nat) (hk : xs.length = k) (h : k < n) : (xs ++ List.replicate (n - k) z).set k y = (xs ++ [y]) ++ List.replicate (n - (k + 1)) z := by
  subst hk
  rw [show n - xs.length = (n - (xs.length + 1)) + 1 by omega, List.replicate_succ, List.set_append_right _ _ (Nat.le_refl _)]
  simp

end Go.Pv
