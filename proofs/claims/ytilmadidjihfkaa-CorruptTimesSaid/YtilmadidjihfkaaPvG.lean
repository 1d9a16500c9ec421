/- An operation's VC: it settles on one result, and looks at its operands alone. -/
import Derived.Test.YtilmadidjihfkaaPvF
namespace Go.Pv
open Go.Vc

/-- A function that hands on just one thing. -/
def SL {α : Type} (f : (α → Prop) → Prop) : Prop := ∀ k, f k → ∃ s, k s ∧ ∀ k' : α → Prop, k' s → f k'

theorem SL.ret {α : Type} (s : α) : SL (fun k : α → Prop => k s) := fun _ h => ⟨s, h, fun _ h => h⟩
theorem SL.eta {α : Type} {f : (α → Prop) → Prop} (h : SL (fun k => f k)) : SL f := h
theorem SL.no {α : Type} : SL (fun _ : α → Prop => False) := fun _ h => h.elim
theorem SL.bind {α β : Type} {g : (β → Prop) → Prop} {h : β → (α → Prop) → Prop} (hg : SL g) (hh : ∀ x, SL (h x)) : SL (fun k => g fun x => h x k) := by
  intro k hk
  obtain ⟨x, hx, hg'⟩ := hg _ hk
  obtain ⟨s, hs, hh'⟩ := hh x k hx
  exact ⟨s, hs, fun k' hk' => hg' _ (hh' k' hk')⟩
theorem SL.and {α : Type} {f : (α → Prop) → Prop} {p : Prop} (hf : SL f) : SL (fun k => p ∧ f k) := by
  rintro k ⟨hp, hk⟩
  obtain ⟨s, hs, h⟩ := hf k hk
  exact ⟨s, hs, fun k' hk' => ⟨hp, h k' hk'⟩⟩
theorem SL.ex {α β : Type} {f : β → (α → Prop) → Prop} (hf : ∀ m, SL (f m)) : SL (fun k => ∃ m, f m k) := by
  rintro k ⟨m, hk⟩
  obtain ⟨s, hs, h⟩ := hf m k hk
  exact ⟨s, hs, fun k' hk' => ⟨m, h k' hk'⟩⟩
theorem SL.cond {α : Type} {f : (α → Prop) → Prop} {b : Bool} (hf : SL f) : SL (fun k => bif b then f k else False) := by
  cases b
  · exact SL.no
  · exact hf
theorem SL.iff {α : Type} {f g : (α → Prop) → Prop} (h : ∀ k, f k ↔ g k) (hg : SL g) : SL f := by
  intro k hk
  obtain ⟨s, hs, h'⟩ := hg k ((h k).1 hk)
  exact ⟨s, hs, fun k' hk' => (h k').2 (h' k' hk')⟩

theorem SL.fPV (y : PV) : SL (fPV y) := SL.iff (fun k => fPV_iff y k) (SL.ret y)
theorem SL.fSV (y : SV) : SL (fSV y) := SL.iff (fun k => fSV_iff y k) (SL.ret y)
theorem SL.fL {α : Type} (l : List α) : SL (Vc.fL l) := SL.iff (fun k => fL_iff l k) (SL.ret l)
theorem SL.fWL (l : List PV) : SL (fWL l) := SL.iff (fun k => fWL_iff l k) (SL.ret _)
theorem SL.fWs (l : List PV) : SL (fWs l) := SL.iff (fun k => fWs_iff l k) (SL.ret _)
theorem SL.find (T : Tab) (t : Nat) : SL (T.find t) := SL.iff (fun k => find_iff T t k) (SL.ex fun ty => SL.and (SL.ret ty))
theorem SL.at_ (obs : Obs) (i : Nat) : SL (obs.at i) := SL.iff (fun k => at_iff obs i k) (SL.ex fun ty => SL.and (SL.ret ty))
theorem SL.nth (l : List SV) (i : Nat) : SL (nth l i) := SL.iff (fun k => nth_iff l i k) (SL.ex fun ty => SL.and (SL.ret ty))

theorem SL.ev (sl : Slots) (x : Operand) : SL (ev sl x) := by
  cases x with
  | tmp t => exact SL.fSV _
  | const v => exact SL.fSV _
  | global g => exact SL.no
  | func f => exact SL.ret _

theorem SL.toP (x : SV) : SL (toP x) := by
  cases x with
  | ag l =>
    refine SL.eta ?_
    simp only [Pv.toP]
    cases pures l with
    | none => exact SL.no
    | some lp => exact SL.ret _
  | _ => first | exact SL.ret _ | exact SL.no

theorem SL.evP (sl : Slots) (x : Operand) : SL (evP sl x) := by
  unfold Pv.evP
  exact SL.bind (SL.ev sl x) fun s => SL.toP s

theorem SL.evs (sl : Slots) : ∀ xs, SL (evs sl xs)
  | [] => SL.ret []
  | x :: r => by
    refine SL.eta ?_
    unfold Pv.evs
    exact SL.bind (SL.ev sl x) fun y => SL.bind (SL.evs sl r) fun ys => SL.ret (y :: ys)

theorem SL.evParts (sl : Slots) : ∀ xs, SL (evParts sl xs)
  | [] => SL.ret []
  | (i, x) :: r => by
    refine SL.eta ?_
    unfold Pv.evParts
    exact SL.bind (SL.ev sl x) fun y => SL.bind (SL.evParts sl r) fun ys => SL.ret ((i, y) :: ys)

theorem SL.cellsS (x : SV) : SL (cellsS x) := by
  cases x with
  | p y => cases y <;> first | exact SL.fL _ | exact SL.cond (SL.ret _) | exact SL.ret _
  | _ => first | exact SL.ret _ | exact SL.no

theorem SL.cellsP (y : PV) : SL (cellsP y) := by
  cases y <;> first | exact SL.fWL _ | exact SL.cond (SL.ret _) | exact SL.ret _

theorem SL.ofCellsP (agg : Bool) (l : List PV) : SL (ofCellsP agg l) := by
  cases agg with
  | true =>
    unfold Pv.ofCellsP
    exact SL.bind (SL.fL l) fun l => SL.ret _
  | false =>
    unfold Pv.ofCellsP
    simp only
    split
    · exact SL.bind (SL.fPV _) fun x => SL.ret _
    · exact SL.no

theorem SL.ofCellsS (agg : Bool) (l : List SV) : SL (ofCellsS agg l) := by
  cases agg with
  | true =>
    unfold Pv.ofCellsS
    exact SL.bind (SL.fL l) fun l => SL.fSV _
  | false =>
    unfold Pv.ofCellsS
    simp only
    split
    · exact SL.fSV _
    · exact SL.no

theorem SL.intBin (k : IntKind) (op : BinOp) (a b : Int) : SL (intBin k op a b) := by
  unfold Pv.intBin
  cases op <;> first | exact SL.ret _ | exact SL.and (SL.ret _) | exact SL.no

theorem SL.boolBin (op : BinOp) (a b : Bool) : SL (boolBin op a b) := by
  unfold Pv.boolBin
  cases op <;> first | exact SL.ret _ | exact SL.no

theorem SL.aggBin (op : BinOp) (a b : List PV) : SL (aggBin op a b) := by
  unfold Pv.aggBin
  cases op <;> first | exact SL.ret _ | exact SL.no

theorem SL.vcBin (T : Tab) (op : BinOp) (t : Nat) (x y : PV) : SL (vcBin T op t x y) := by
  unfold Pv.vcBin
  split
  · exact SL.intBin _ _ _ _
  · exact SL.intBin _ _ _ _
  · refine SL.bind (SL.find T t) fun ty => ?_
    split
    · exact SL.boolBin _ _ _
    · exact SL.no
  · exact SL.bind (SL.find T t) fun ty => SL.cond (SL.aggBin _ _ _)
  · exact SL.no

theorem SL.vcUn (op : UnOp) (x : SV) : SL (vcUn op x) := by
  unfold Pv.vcUn
  split <;> first | exact SL.ret _ | exact SL.no

theorem SL.loadS (cs : List SV) (o : Nat) (ty : Ty) : SL (loadS cs o ty) := by
  unfold Pv.loadS
  exact SL.bind (SL.fL _) fun _ => SL.cond (SL.ofCellsS _ _)
theorem SL.loadR (cs : List PV) (o : Nat) (ty : Ty) : SL (loadR cs o ty) := by
  unfold Pv.loadR
  exact SL.ex fun _ => SL.and (SL.and (SL.ofCellsP _ _))
theorem SL.loadF (cs : List PV) (ty : Ty) : SL (loadF cs ty) := by
  unfold Pv.loadF
  exact SL.bind (SL.fL _) fun _ => SL.cond (SL.ofCellsP _ _)
theorem SL.loadN (cs : List NC) (h : Option (Nat × SV)) (o : Nat) (ty : Ty) : SL (loadN cs h o ty) := by
  unfold Pv.loadN
  exact SL.ex fun _ => SL.and (SL.and (SL.and (SL.ofCellsS _ _)))
theorem SL.loadOb (ob : Ob) (o : Nat) (ty : Ty) : SL (loadOb ob o ty) := by
  cases ob
  · exact SL.loadS _ _ _
  · exact SL.loadR _ _ _
  · exact SL.loadR _ _ _
  · exact SL.loadN _ _ _ _
  · exact SL.no

theorem SL.vcLoad (T : Tab) (t : Nat) (x : SV) (obs : Obs) : SL (vcLoad T t x obs) := by
  unfold Pv.vcLoad
  refine SL.bind (SL.find T t) fun ty => ?_
  split
  · exact SL.bind (SL.at_ _ _) fun _ => SL.cond (SL.loadOb _ _ _)
  · exact SL.bind (SL.at_ _ _) fun _ => SL.loadOb _ _ _
  · exact SL.loadF _ _
  · exact SL.loadR _ _ _
  · exact SL.no

theorem SL.fDrop (lit : Bool) (o : Nat) (l : List PV) : SL (fDrop lit o l) := SL.iff (fun k => fDrop_iff lit o l k) (SL.ret _)

theorem SL.vcFieldAddr (T : Tab) (s : Nat) (x : SV) (f : Nat) (obs : Obs) : SL (vcFieldAddr T s x f obs) := by
  unfold Pv.vcFieldAddr
  refine SL.bind (SL.find T s) fun ty => ?_
  split
  · split
    · split
      · exact SL.bind (SL.at_ _ _) fun _ => SL.cond (SL.ret _)
      · exact SL.ret _
      · exact SL.bind (SL.fDrop _ _ _) fun _ => SL.ret _
      · exact SL.no
    · exact SL.no
  · exact SL.no

theorem SL.elemP (l : List PV) (o sz : Nat) : SL (elemP l o sz) := by
  unfold Pv.elemP
  exact SL.ex fun _ => SL.and (SL.and (SL.ret _))

theorem SL.vcIndexAddr (T : Tab) (t : Nat) (x : SV) (j : Int) (obs : Obs) : SL (vcIndexAddr T t x j obs) := by
  unfold Pv.vcIndexAddr
  refine SL.bind (SL.find T t) fun ty => ?_
  split
  · split
    · exact SL.bind (SL.at_ _ _) fun _ => SL.cond (SL.ex fun _ => SL.and (SL.and (SL.ret _)))
    · exact SL.ex fun _ => SL.and (SL.and (SL.ret _))
    · exact SL.ex fun _ => SL.and (SL.and (SL.elemP _ _ _))
    · exact SL.no
  · refine SL.bind (SL.find T _) fun te => ?_
    split
    · exact SL.ex fun _ => SL.and (SL.and (SL.and (SL.elemP _ _ _)))
    · refine SL.bind (SL.at_ _ _) fun ob => ?_
      split
      · exact SL.cond (SL.ex fun _ => SL.and (SL.and (SL.ret _)))
      · exact SL.cond (SL.ex fun _ => SL.and (SL.and (SL.ret _)))
      · exact SL.no
    · exact SL.no
  · exact SL.no

theorem SL.putS : ∀ (ps : List (Nat × SV)) (cs : List SV) (pl : List (Nat × Nat)), SL (putS cs pl ps)
  | [], cs, pl => SL.ret cs
  | (i, y) :: r, cs, pl => by
    refine SL.eta ?_
    unfold Pv.putS
    split
    · exact SL.bind (SL.cellsS y) fun xs => SL.cond (SL.bind (SL.fL _) fun l => SL.putS r l pl)
    · exact SL.no

theorem SL.rowParts : ∀ (ps : List (Nat × SV)) (cs : List PV) (pl : List (Nat × Nat)), SL (rowParts cs pl ps)
  | [], cs, pl => SL.ret cs
  | (i, y) :: r, cs, pl => by
    refine SL.eta ?_
    unfold Pv.rowParts
    split
    · exact SL.bind (SL.toP y) fun y => SL.bind (SL.cellsP y) fun xs => SL.cond (SL.bind (SL.fL _) fun l => SL.rowParts r l pl)
    · exact SL.no

theorem SL.vcLen (T : Tab) (t : Nat) (x : SV) (obs : Obs) : SL (vcLen T t x obs) := by
  unfold Pv.vcLen
  refine SL.bind (SL.find T t) fun ty => ?_
  split
  · split
    · exact SL.ret _
    · exact SL.ret _
    · refine SL.bind (SL.at_ _ _) fun ob => ?_
      split
      · exact SL.ret _
      · exact SL.ret _
      · exact SL.no
    · exact SL.no
  · exact SL.ret _
  · exact SL.no

theorem SL.maxL : ∀ (l : List SV) (a : Int), SL (maxL a l)
  | [], a => SL.ret a
  | x :: r, a => by
    refine SL.eta ?_
    unfold Pv.maxL
    split
    · exact SL.maxL r _
    · exact SL.no

theorem SL.vcMax (l : List SV) : SL (vcMax l) := by
  unfold Pv.vcMax
  split
  · exact SL.bind (SL.maxL _ _) fun _ => SL.ret _
  · exact SL.no

theorem SL.optInt (sl : Slots) (x : Option Operand) (d : Nat) : SL (optInt sl x d) := by
  cases x with
  | none => exact SL.ret d
  | some x =>
    unfold Pv.optInt
    refine SL.bind (SL.evP sl x) fun y => ?_
    split
    · exact SL.ex fun _ => SL.and (SL.ret _)
    · exact SL.no

theorem SL.sliceP (sl : Slots) (n sz : Nat) (ex : Bool) (l : List PV) (lo hi mx : Option Operand) : SL (sliceP sl n sz ex l lo hi mx) := by
  unfold Pv.sliceP
  refine SL.bind (SL.optInt _ _ _) fun a => SL.bind (SL.optInt _ _ _) fun b => SL.and (SL.and ?_)
  cases mx with
  | none => cases hi <;> exact SL.ret _
  | some x => exact SL.bind (g := fun k : Bool → Prop => Pv.optInt sl (some x) 0 fun m => m = b ∧ k true) (SL.bind (SL.optInt _ _ _) fun m => SL.and (SL.ret true)) fun _ => SL.ret _

theorem SL.vcSlice (T : Tab) (sl : Slots) (t : Nat) (x : SV) (lo hi mx : Option Operand) : SL (vcSlice T sl t x lo hi mx) := by
  unfold Pv.vcSlice
  refine SL.bind (SL.find T t) fun ty => ?_
  split
  · refine SL.bind (SL.find T _) fun te => ?_
    split
    · exact SL.and (SL.sliceP _ _ _ _ _ _ _ _)
    · exact SL.no
  · exact SL.no

theorem SL.vcField (T : Tab) (t f : Nat) (x : SV) : SL (vcField T t f x) := by
  unfold Pv.vcField
  refine SL.bind (SL.find T t) fun ty => ?_
  split
  · split
    · refine SL.bind (SL.find T _) fun te => ?_
      split
      · exact SL.bind (SL.fL _) fun _ => SL.cond (SL.ofCellsP _ _)
      · exact SL.bind (SL.fL _) fun _ => SL.cond (SL.ofCellsS _ _)
      · exact SL.no
    · exact SL.no
  · exact SL.no

theorem SL.vcIndex (T : Tab) (t : Nat) (x : PV) (j : Int) : SL (vcIndex T t x j) := by
  unfold Pv.vcIndex
  split
  · refine SL.bind (SL.find T t) fun ty => ?_
    split
    · exact SL.bind (SL.find T _) fun te => SL.ex fun _ => SL.and (SL.and (SL.ex fun _ => SL.and (SL.and (SL.ofCellsP _ _))))
    · exact SL.no
  · exact SL.no

theorem SL.pure (T : Tab) (o : Op) (sl : Slots) (obs : Obs) : SL (vcPure T o sl obs) := by
  refine SL.eta ?_
  cases o <;> simp only [vcPure] <;> try exact SL.no
  case move x => exact SL.ev sl x
  case assign x => exact SL.ev sl x
  case pick c a b =>
    refine SL.bind (SL.ev sl c) fun c => ?_
    split
    · exact SL.ev sl a
    · exact SL.ev sl b
    · rename_i q
      cases q with
      | true => exact SL.iff (fun k => ⟨fun h => h.1 rfl, fun h => ⟨fun _ => h, fun h => by cases h⟩⟩) (SL.ev sl a)
      | false => exact SL.iff (fun k => ⟨fun h => h.2 rfl, fun h => ⟨fun h => (by cases h), fun _ => h⟩⟩) (SL.ev sl b)
    · exact SL.no
  case binOp op t x y t' => exact SL.bind (SL.evP sl x) fun x => SL.bind (SL.evP sl y) fun y => SL.vcBin _ _ _ _ _
  case unOp op t x => exact SL.bind (SL.ev sl x) fun x => SL.vcUn _ _
  case convert src dst x =>
    refine SL.bind (SL.ev sl x) fun x => SL.bind (SL.find T src) fun _ => SL.bind (SL.find T dst) fun ty => ?_
    split
    · split
      · exact SL.ret _
      · exact SL.no
    · exact SL.no
  case extract x i =>
    refine SL.bind (SL.ev sl x) fun x => ?_
    split
    · exact SL.nth _ _
    · exact SL.no
  case build t ps => exact SL.bind (SL.find T t) fun ty => SL.cond (SL.bind (SL.evParts sl _) fun ps => SL.bind (SL.fL _) fun z => SL.bind (SL.putS _ _ _) fun l => SL.fSV _)
  case load t x => exact SL.bind (SL.ev sl x) fun x => SL.vcLoad _ _ _ _
  case fieldAddr s x f => exact SL.bind (SL.ev sl x) fun x => SL.vcFieldAddr _ _ _ _ _
  case indexAddr t x j =>
    refine SL.bind (SL.ev sl x) fun x => SL.bind (SL.evP sl j) fun j => ?_
    split
    · exact SL.vcIndexAddr _ _ _ _ _
    · exact SL.no
  case field t x f => exact SL.bind (SL.ev sl x) fun x => SL.vcField _ _ _ _
  case index t x j =>
    refine SL.bind (SL.evP sl x) fun x => SL.bind (SL.evP sl j) fun j => ?_
    split
    · exact SL.vcIndex _ _ _ _
    · exact SL.no
  case slice t x lo hi mx =>
    split
    · exact SL.no
    · exact SL.bind (SL.ev sl x) fun x => SL.vcSlice _ _ _ _ _ _ _
  case makeFunc f first cap => exact SL.bind (SL.evs sl _) fun a => SL.bind (SL.evs sl _) fun b => SL.fSV _
  case call c =>
    split
    · split
      · exact SL.bind (SL.ev sl _) fun x => SL.vcLen _ _ _ _
      · exact SL.no
    · exact SL.bind (SL.evs sl _) fun l => SL.vcMax _
    · exact SL.no

theorem SL.mkVar (ty : Ty) (t : Nat) (cs : List SV) : SL (mkVar ty t cs) := by
  unfold Pv.mkVar
  cases isArr ty with
  | true =>
    cases pures cs with
    | none => exact SL.no
    | some l => exact (SL.bind (SL.fWL l) fun l => SL.ret (Ob.arr t l) : SL fun k : Ob → Prop => Pv.fWL l fun l => k (Ob.arr t l))
  | false => exact SL.ret _

theorem SL.new (T : Tab) (o : Op) (sl : Slots) : SL (vcNew T o sl) := by
  refine SL.eta ?_
  cases o <;> simp only [vcNew] <;> try exact SL.no
  case alloc t => exact SL.bind (SL.find T t) fun ty => SL.cond (SL.bind (SL.fL _) fun z => SL.mkVar _ _ _)
  case box t x => exact SL.bind (SL.ev sl x) fun x => SL.bind (SL.find T t) fun ty => SL.bind (SL.cellsS x) fun cs => SL.cond (SL.mkVar _ _ _)
  case makeSlice t l c =>
    refine SL.bind (SL.evP sl l) fun l => SL.bind (SL.evP sl c) fun c => ?_
    split
    · unfold vcMake
      refine SL.bind (SL.find T t) fun ty => ?_
      split
      · exact SL.bind (SL.find T _) fun te => SL.cond (SL.ex fun _ => SL.ex fun _ => SL.and (SL.and (SL.and (SL.and (SL.bind (SL.fWL _) fun z => SL.ret _)))))
      · exact SL.no
    · exact SL.no
  case buildSlice t n ps =>
    refine SL.bind (SL.evParts sl _) fun ps => ?_
    unfold vcBuildSlice
    refine SL.bind (SL.find T t) fun ty => ?_
    split
    · exact SL.bind (SL.find T _) fun te => SL.cond (SL.bind (SL.fWL _) fun z => SL.bind (SL.fL _) fun z => SL.bind (SL.fL _) fun pl => SL.bind (SL.rowParts _ _ _) fun l => SL.ret _)
    · exact SL.no

theorem SL.fn (F : Nat) (f : Operand) (args : List Operand) (sl : Slots) : SL (fun k : FuncId × List SV → Prop => vcFn F f args sl fun f l => k (f, l)) := by
  unfold vcFn
  refine SL.bind (SL.ev sl f) fun f => ?_
  split
  · rename_i fi a b
    exact SL.cond (SL.bind (SL.evs sl args) fun l => SL.bind (SL.fL _) fun l => SL.ret (fi, l))
  · rename_i fi a b
    exact SL.cond (SL.bind (SL.evs sl args) fun l => SL.bind (SL.fL _) fun l => SL.ret (fi, l))
  · exact SL.no

/-! ### Operands -/

section
variable {sl sl' : Slots} {T : Tab} {obs : Obs}

theorem ev_congr {x : Operand} (h : ∀ t, x = .tmp t → sl.get t = sl'.get t) : ev sl x = ev sl' x := by
  cases x with
  | tmp t => funext k; simp only [ev, h t rfl]
  | _ => rfl

theorem evP_congr {x : Operand} (h : ∀ t, x = .tmp t → sl.get t = sl'.get t) : evP sl x = evP sl' x := by
  funext k
  simp only [evP, ev_congr h]

theorem evs_congr : ∀ (xs : List Operand), (∀ x ∈ xs, ∀ t, x = .tmp t → sl.get t = sl'.get t) → evs sl xs = evs sl' xs
  | [], _ => rfl
  | x :: r, h => by
    funext k
    simp only [evs, ev_congr (h x (by simp)), evs_congr r fun y hy => h y (by simp [hy])]

theorem evParts_congr : ∀ (xs : List (Nat × Operand)), (∀ x ∈ xs, ∀ t, x.2 = .tmp t → sl.get t = sl'.get t) → evParts sl xs = evParts sl' xs
  | [], _ => rfl
  | (i, x) :: r, h => by
    funext k
    simp only [evParts, ev_congr (h (i, x) (by simp)), evParts_congr r fun y hy => h y (by simp [hy])]

theorem optInt_congr {x : Option Operand} {d : Nat} (h : ∀ y, x = some y → ∀ t, y = .tmp t → sl.get t = sl'.get t) : optInt sl x d = optInt sl' x d := by
  cases x with
  | none => rfl
  | some y => funext k; simp only [optInt, evP_congr (h y rfl)]

theorem vcSlice_congr {t : Nat} {x : SV} {lo hi mx : Option Operand} (h1 : ∀ y, lo = some y → ∀ t, y = .tmp t → sl.get t = sl'.get t) (h2 : ∀ y, hi = some y → ∀ t, y = .tmp t → sl.get t = sl'.get t) (h3 : ∀ y, mx = some y → ∀ t, y = .tmp t → sl.get t = sl'.get t) :
    vcSlice T sl t x lo hi mx = vcSlice T sl' t x lo hi mx := by
  funext k
  unfold vcSlice sliceP
  rw [optInt_congr h1]
  have e2 : ∀ d, optInt sl hi d = optInt sl' hi d := fun d => optInt_congr h2
  cases mx with
  | none => simp only [e2]
  | some y =>
    have e3 : ∀ d, optInt sl (some y) d = optInt sl' (some y) d := fun d => optInt_congr h3
    simp only [e2, e3]

theorem vcPure_congr {o : Op} (h : ∀ x ∈ o.operands, ∀ t, x = .tmp t → sl.get t = sl'.get t) : vcPure T o sl obs = vcPure T o sl' obs := by
  funext k
  cases o <;> simp only [vcPure]
  case move x => rw [ev_congr (h x (by simp [Op.operands]))]
  case assign x => rw [ev_congr (h x (by simp [Op.operands]))]
  case pick c a b => rw [ev_congr (h c (by simp [Op.operands])), ev_congr (h a (by simp [Op.operands])), ev_congr (h b (by simp [Op.operands]))]
  case binOp op t x y t' => rw [evP_congr (h x (by simp [Op.operands])), evP_congr (h y (by simp [Op.operands]))]
  case unOp op t x => rw [ev_congr (h x (by simp [Op.operands]))]
  case convert src dst x => rw [ev_congr (h x (by simp [Op.operands]))]
  case extract x i => rw [ev_congr (h x (by simp [Op.operands]))]
  case build t ps => rw [evParts_congr ps.toList fun x hx => h x.2 (by simp [Op.operands]; exact ⟨x.1, by simpa using hx⟩)]
  case load t x => rw [ev_congr (h x (by simp [Op.operands]))]
  case fieldAddr s x f => rw [ev_congr (h x (by simp [Op.operands]))]
  case indexAddr t x j => rw [ev_congr (h x (by simp [Op.operands])), evP_congr (h j (by simp [Op.operands]))]
  case field t x f => rw [ev_congr (h x (by simp [Op.operands]))]
  case index t x j => rw [evP_congr (h x (by simp [Op.operands])), evP_congr (h j (by simp [Op.operands]))]
  case slice t x lo hi mx =>
    have e1 : ∀ y, lo = some y → ∀ t, y = .tmp t → sl.get t = sl'.get t := fun y hy => h y (by simp [Op.operands, hy])
    have e2 : ∀ y, hi = some y → ∀ t, y = .tmp t → sl.get t = sl'.get t := fun y hy => h y (by simp [Op.operands, hy])
    have e3 : ∀ y, mx = some y → ∀ t, y = .tmp t → sl.get t = sl'.get t := fun y hy => h y (by simp [Op.operands, hy])
    have e4 := ev_congr (h x (by simp [Op.operands]))
    have e5 : ∀ x, vcSlice T sl t x lo hi mx = vcSlice T sl' t x lo hi mx := fun x => vcSlice_congr e1 e2 e3
    cases hi <;> cases mx <;> first | rfl | simp only [e4, e5]
  case makeFunc f first cap => rw [evs_congr first.toList fun x hx => h x (by simp [Op.operands]; exact .inl (by simpa using hx)), evs_congr cap.toList fun x hx => h x (by simp [Op.operands]; exact .inr (by simpa using hx))]
  case call c =>
    obtain ⟨callee, args, argTypes⟩ := c
    have ha : ∀ x ∈ args.toList, ∀ t, x = .tmp t → sl.get t = sl'.get t := fun x hx => h x (by simp only [Op.operands, Call.operands, Array.mem_append]; exact .inr (by simpa using hx))
    simp only
    split
    · split
      · rename_i x t hargs _
        rw [ev_congr (ha x (by rw [hargs]; simp))]
      · rfl
    · rw [evs_congr _ ha]
    · rfl

theorem vcNew_congr {o : Op} (h : ∀ x ∈ o.operands, ∀ t, x = .tmp t → sl.get t = sl'.get t) : vcNew T o sl = vcNew T o sl' := by
  funext k
  cases o <;> simp only [vcNew]
  case box t x => rw [ev_congr (h x (by simp [Op.operands]))]
  case makeSlice t l c => rw [evP_congr (h l (by simp [Op.operands])), evP_congr (h c (by simp [Op.operands]))]
  case buildSlice t n ps => rw [evParts_congr ps.toList fun x hx => h x.2 (by simp [Op.operands]; exact ⟨x.1, by simpa using hx⟩)]

theorem vcFn_congr {F : Nat} {f : Operand} {args : List Operand} (hf : ∀ t, f = .tmp t → sl.get t = sl'.get t) (h : ∀ x ∈ args, ∀ t, x = .tmp t → sl.get t = sl'.get t) : vcFn F f args sl = vcFn F f args sl' := by
  funext k
  unfold vcFn
  rw [ev_congr hf, evs_congr args h]

def keep (S : List Nat) (sl : Slots) : Slots := S.map fun t => (t, sl.get t)

theorem get_keep : ∀ (S : List Nat) (sl : Slots) (t : Nat), (keep S sl).get t = if t ∈ S then sl.get t else .any
  | [], sl, t => by simp [keep, Slots.get]
  | x :: r, sl, t => by
    have : keep (x :: r) sl = (x, sl.get x) :: keep r sl := rfl
    rw [this, get_cons, get_keep r sl t]
    by_cases h : x = t
    · subst h; simp
    · simp [h, Ne.symm h]
end
end Go.Pv
