/- Which objects a value speaks of; some of the objects. -/
import Derived.Test.YtilmadidjihfkaaPvG
namespace Go.Pv
open Go.Vc
open Go.RowKit (Below)

theorem memN_iff (t : Nat) (l : List Nat) : memN t l = true ↔ t ∈ l := by
  induction l with
  | nil => simp [memN]
  | cons x r ih =>
    by_cases h : x = t
    · subst h; simp [memN]
    · have : Nat.beq x t = false := by rw [Bool.eq_false_iff]; intro h'; exact h (Nat.eq_of_beq_eq_true h')
      have h' : t ≠ x := fun e => h e.symm
      simp [memN, this, ih, h']

/-- The objects of which a value speaks. -/
inductive RefsIn (B : Nat → Prop) : SV → Prop
  | p (x : PV) : RefsIn B (.p x)
  | kb (b : Bool) : RefsIn B (.kb b)
  | any : RefsIn B .any
  | nil : RefsIn B .nil
  | ob {i : Nat} (h : B i) : RefsIn B (.ob i)
  | pt {i o : Nat} (h : B i) : RefsIn B (.pt i o)
  | ag {l : List SV} (h : ∀ (j : Nat) (p : SV), l[j]? = some p → RefsIn B p) : RefsIn B (.ag l)
  | tup {l : List SV} (h : ∀ (j : Nat) (p : SV), l[j]? = some p → RefsIn B p) : RefsIn B (.tup l)
  | cl {f : Fn} {a b : List SV} (h1 : ∀ (j : Nat) (p : SV), a[j]? = some p → RefsIn B p) (h2 : ∀ (j : Nat) (p : SV), b[j]? = some p → RefsIn B p) : RefsIn B (.cl f a b)

theorem get_len {α β : Type} {l : List α} {xs : List β} (h : l.length = xs.length) {j : Nat} {p : α} (hp : l[j]? = some p) : ∃ x, xs[j]? = some x := by
  have := (List.getElem?_eq_some_iff.1 hp).1
  exact ⟨xs[j]'(by omega), List.getElem?_eq_getElem (by omega)⟩

section
variable {ρ : Nat → Value} {B B' : Nat → Prop} {w : World} {S : Nat → Prop}

theorem Den.refs {x : SV} {v : Value} (h : Den ρ B w S x v) : RefsIn B x := by
  induction h with
  | p h => exact .p _
  | kb b => exact .kb b
  | any v => exact .any
  | nil => exact .nil
  | ob hi => exact .ob hi
  | pt hi hb => exact .pt hi
  | ag hl h1 _ ih => exact .ag fun j p hp => by obtain ⟨x, hx⟩ := get_len hl hp; exact ih j p x hp hx
  | tup hl _ ih => exact .tup fun j p hp => by obtain ⟨x, hx⟩ := get_len hl hp; exact ih j p x hp hx
  | cl ha hb _ _ ih1 ih2 => exact .cl (fun j p hp => by obtain ⟨x, hx⟩ := get_len ha hp; exact ih1 j p x hp hx) (fun j p hp => by obtain ⟨x, hx⟩ := get_len hb hp; exact ih2 j p x hp hx)

theorem Den.restrict {x : SV} {v : Value} (h : Den ρ B w S x v) (hr : RefsIn B' x) : Den ρ B' w S x v := by
  induction h with
  | p h => exact .p h
  | kb b => exact .kb b
  | any v => exact .any v
  | nil => exact .nil
  | ob hi => cases hr with | ob h => exact .ob h
  | pt hi hb => cases hr with | pt h => exact .pt h hb
  | ag hl h1 _ ih => cases hr with | ag h => exact .ag hl h1 fun j p x hp hx => ih j p x hp hx (h j p hp)
  | tup hl _ ih => cases hr with | tup h => exact .tup hl fun j p x hp hx => ih j p x hp hx (h j p hp)
  | cl ha hb _ _ ih1 ih2 => cases hr with | cl h1 h2 => exact .cl ha hb (fun j p x hp hx => ih1 j p x hp hx (h1 j p hp)) (fun j p x hp hx => ih2 j p x hp hx (h2 j p hp))

end

def RefsOb (B : Nat → Prop) : Ob → Prop
  | .box _ cs => ∀ (j : Nat) (p : SV), cs[j]? = some p → RefsIn B p
  | .nest _ _ _ _ h => ∀ (p : Nat) (y : SV), h = some (p, y) → RefsIn B y
  | _ => True

theorem ObOk.refs {ρ : Nat → Value} {B : Nat → Prop} {w : World} {S : Nat → Prop} {ob : Ob} {x : Value} (h : ObOk ρ B w S ob x) : RefsOb B ob := by
  cases ob with
  | box t cs =>
    obtain ⟨b, xs, _, _, hd, _⟩ := h
    intro j p hp
    obtain ⟨y, hy⟩ := get_len hd.1 hp
    exact (hd.2 j p y hp hy).refs
  | nest e sz m cs hole =>
    obtain ⟨xs, _, hl, _, _, h5, _, _⟩ := h
    intro p y hp
    obtain ⟨v, _, hd⟩ := h5 p y hp
    exact hd.refs
  | _ => trivial

theorem ObOk.restrict {ρ : Nat → Value} {B B' : Nat → Prop} {w : World} {S : Nat → Prop} {ob : Ob} {x : Value} (h : ObOk ρ B w S ob x) (hr : RefsOb B' ob) : ObOk ρ B' w S ob x := by
  cases ob with
  | box t cs =>
    obtain ⟨b, xs, hx, hb, hd, h1⟩ := h
    exact ⟨b, xs, hx, hb, ⟨hd.1, fun j p y hp hy => (hd.2 j p y hp hy).restrict (hr j p hp)⟩, h1⟩
  | nest e sz m cs hole =>
    obtain ⟨xs, h1, h2, h3, h4, h5, h6, h7⟩ := h
    exact ⟨xs, h1, h2, h3, h4, fun p y hp => by obtain ⟨v, hv, hd⟩ := h5 p y hp; exact ⟨v, hv, hd.restrict (hr p y hp)⟩, h6, h7⟩
  | _ => exact h

section
variable {w0 : World} {S0 : Fr} {obs obs' : Obs} {ρ : Nat → Value} {S : Nat → Prop} {w w' : World}

/-- Some of the objects, no others. -/
theorem SatW.shrink (h : SatW w0 S0 obs ρ S w) (hl : obs'.length ≤ obs.length) (hs : ∀ (i : Nat) (o : Ob), obs'[i]? = some o → o.live = true → obs[i]? = some o) (hr : ∀ (i : Nat) (o : Ob), obs'[i]? = some o → RefsOb (Lt obs'.length) o) (hp : ∀ i v, S0.pin i = some v → i < obs'.length) : SatW w0 S0 obs' ρ S w := by
  refine ⟨fun i o hi => ?_, fun i j oi oj b hi hj li lj bi bj => h.dist i j oi oj b (hs i oi hi li) (hs j oj hj lj) li lj bi bj, fun i o b hi hl hb => h.own i o b (hs i o hi hl) hl hb, h.sub, h.lt, h.new, h.le, fun i hi => h.plain i (by omega), fun i v hi => ⟨(h.pins i v hi).1, hp i v hi⟩⟩
  cases hl' : o.live with
  | false => cases o <;> first | (cases hl'; done) | trivial
  | true => exact (h.objs i o (hs i o hi hl')).restrict (hr i o hi)

/-- More blocks that nobody changes, in a later world. -/
theorem SatW.grow (h : SatW w0 S0 obs ρ S w) (hl : Le w w') {S' : Nat → Prop} (hs : ∀ b, S b → S' b) (hsn : ∀ b, S' b → S b ∨ w.heap.size ≤ b) (hlt : ∀ b, S' b → b < w'.heap.size) : SatW w0 S0 obs ρ S' w' := by
  refine (h.mono hl).more hs hlt fun b hb => ?_
  rcases hsn b hb with h1 | h1
  · exact .inl h1
  · refine .inr ⟨.inl (Nat.le_trans h.le.size h1), fun i ob hi hlv hown => ?_⟩
    have := h.owned hi hlv (h.same hi hlv (fun g hg => Below.block hl g (h.owned hi hlv hg)) hown)
    omega

end
end Go.Pv
