/- The definitions of a verification condition generator over Go code as the model has it, over values that are read through memory that nobody changes any more. Nothing is proved here. -/
import Derived.Test.YtljahbpkhienkaaVcDefm
namespace Go.Pv
open Go.Vc
open Go.RowKit (Below)

/-- What a value is, read through memory that nobody changes any more. -/
inductive PV where
  | v (x : Value)
  | agg (l : List PV)
  | sl (ex : Bool) (n : Nat) (l : List PV)      -- a slice of n elements; ex: its capacity is n
  | fp (lit : Bool) (l : List PV)               -- a pointer to these cells
  | fn (f : Fn) (a b : List PV)

/-- A symbolic value. -/
inductive SV where
  | p (x : PV)
  | kb (b : Bool)
  | any
  | nil
  | ob (i : Nat)
  | pt (i : Nat) (o : Nat)
  | ag (l : List SV)
  | tup (l : List SV)
  | cl (f : Fn) (a b : List SV)

/-- A cell of a row of rows: what nobody changes any more, or a row of the call's own. -/
inductive NC where
  | pu (p : PV)
  | ow (e : TypeId) (sz n : Nat) (cs : List PV)

/-- An object of the call's own: a variable, an array, a row of n elements of sz cells, a row of rows (h: a cell that holds something else). -/
inductive Ob where
  | box (ty : TypeId) (cs : List SV)
  | arr (ty : TypeId) (cs : List PV)
  | row (e : TypeId) (sz n : Nat) (ex : Bool) (cs : List PV)
  | nest (e : TypeId) (sz n : Nat) (cs : List NC) (h : Option (Nat × SV))
  | dead

abbrev Slots := List (Nat × SV)
abbrev Obs := List Ob
abbrev K := Slots → Obs → Prop

def Slots.get : Slots → Nat → SV
  | [], _ => .any
  | (k, x) :: r, t => bif Nat.beq k t then x else Slots.get r t

/-! ### What the symbolic values mean -/

def RepL (R : PV → Value → Prop) (l : List PV) (xs : List Value) : Prop :=
  l.length = xs.length ∧ ∀ (j : Nat) (p : _) (x : Value), l[j]? = some p → xs[j]? = some x → R p x

/-- A value, read in a world through the blocks of S alone. -/
inductive Rep (w : World) (S : Nat → Prop) : PV → Value → Prop
  | v (x : Value) : Rep w S (.v x) x
  | agg {l : List PV} {xs : List Value} (hl : l.length = xs.length) (h1 : ∀ x ∈ xs, x.oneCell' = true) (h : ∀ (j : Nat) (p : _) (x : Value), l[j]? = some p → xs[j]? = some x → Rep w S p x) : Rep w S (.agg l) (.agg xs.toArray)
  | nil (ex : Bool) (a : Option Addr) (cap : Nat) (hex : ex = true → cap = 0) (hn : a = none → cap = 0) : Rep w S (.sl ex 0 []) (.slice a 0 cap)
  | sl {ex : Bool} {n cap : Nat} {l : List PV} {xs : List Value} {ad : Addr} (hS : S ad.block) (hn : n ≤ cap) (hex : ex = true → cap = n) (hl : l.length = xs.length) (h1 : ∀ x ∈ xs, x.oneCell' = true)
      (hc : ∀ (j : Nat) (x : Value), xs[j]? = some x → w.cell? (ad.add j) = some x) (h : ∀ (j : Nat) (p : _) (x : Value), l[j]? = some p → xs[j]? = some x → Rep w S p x) : Rep w S (.sl ex n l) (.slice (some ad) n cap)
  | fp {lit : Bool} {l : List PV} {xs : List Value} {ad : Addr} (hS : S ad.block) (hl : l.length = xs.length) (h1 : ∀ x ∈ xs, x.oneCell' = true)
      (hc : ∀ (j : Nat) (x : Value), xs[j]? = some x → w.cell? (ad.add j) = some x) (h : ∀ (j : Nat) (p : _) (x : Value), l[j]? = some p → xs[j]? = some x → Rep w S p x) : Rep w S (.fp lit l) (.pointer (some ad))
  | fn {f : Fn} {a b : List PV} {xa xb : List Value} (ha : a.length = xa.length) (hb : b.length = xb.length) (h1 : ∀ (j : Nat) (p : _) (x : Value), a[j]? = some p → xa[j]? = some x → Rep w S p x)
      (h2 : ∀ (j : Nat) (p : _) (x : Value), b[j]? = some p → xb[j]? = some x → Rep w S p x) : Rep w S (.fn f a b) (.func f xa.toArray xb.toArray)

/-- The numbers below n. -/
def Lt (n : Nat) : Nat → Prop := fun i => i < n

/-- A symbolic value, with ρ for the objects of the call's own (those of n). -/
inductive Den (ρ : Nat → Value) (n : Nat → Prop) (w : World) (S : Nat → Prop) : SV → Value → Prop
  | p {x : PV} {v : Value} (h : Rep w S x v) : Den ρ n w S (.p x) v
  | kb (b : Bool) : Den ρ n w S (.kb b) (.bool b)
  | any (v : Value) : Den ρ n w S .any v
  | nil : Den ρ n w S .nil (.slice none 0 0)
  | ob {i : Nat} (hi : n i) : Den ρ n w S (.ob i) (ρ i)
  | pt {i o b : Nat} (hi : n i) (hb : blk (ρ i) = some b) : Den ρ n w S (.pt i o) (.pointer (some ⟨b, o, none⟩))
  | ag {l : List SV} {xs : List Value} (hl : l.length = xs.length) (h1 : ∀ x ∈ xs, x.oneCell' = true) (h : ∀ (j : Nat) (p : _) (x : Value), l[j]? = some p → xs[j]? = some x → Den ρ n w S p x) : Den ρ n w S (.ag l) (.agg xs.toArray)
  | tup {l : List SV} {xs : List Value} (hl : l.length = xs.length) (h : ∀ (j : Nat) (p : _) (x : Value), l[j]? = some p → xs[j]? = some x → Den ρ n w S p x) : Den ρ n w S (.tup l) (.tuple xs.toArray)
  | cl {f : Fn} {a b : List SV} {xa xb : List Value} (ha : a.length = xa.length) (hb : b.length = xb.length) (h1 : ∀ (j : Nat) (p : _) (x : Value), a[j]? = some p → xa[j]? = some x → Den ρ n w S p x)
      (h2 : ∀ (j : Nat) (p : _) (x : Value), b[j]? = some p → xb[j]? = some x → Den ρ n w S p x) : Den ρ n w S (.cl f a b) (.func f xa.toArray xb.toArray)

def Ones (xs : List Value) : Prop := ∀ x ∈ xs, x.oneCell' = true

def DenL (ρ : Nat → Value) (n : Nat → Prop) (w : World) (S : Nat → Prop) (l : List SV) (xs : List Value) : Prop :=
  l.length = xs.length ∧ ∀ (j : Nat) (p : _) (x : Value), l[j]? = some p → xs[j]? = some x → Den ρ n w S p x

def NcOk (w : World) (S : Nat → Prop) (c : NC) (v : Value) : Prop :=
  match c with
  | .pu p => Rep w S p v
  | .ow e sz m l => ∃ ys, RowOk w e sz m ys false v ∧ RepL (Rep w S) l ys ∧ Ones ys

def isOw : NC → Bool
  | .ow _ _ _ _ => true
  | .pu _ => false

/-- Cell j is not the one that holds something else. -/
def Off (h : Option (Nat × SV)) (j : Nat) : Prop := ∀ p y, h = some (p, y) → j ≠ p

/-- The block of cell j's own row. -/
def Inn (cs : List NC) (h : Option (Nat × SV)) (xs : List Value) (j b : Nat) : Prop := ∃ c v, cs[j]? = some c ∧ isOw c = true ∧ Off h j ∧ xs[j]? = some v ∧ blk v = some b

def ObOk (ρ : Nat → Value) (n : Nat → Prop) (w : World) (S : Nat → Prop) (ob : Ob) (x : Value) : Prop :=
  match ob with
  | .box ty cs => ∃ b xs, x = .pointer (some ⟨b, 0, none⟩) ∧ w.heap[b]? = some (.cells xs.toArray ty (0, 0)) ∧ DenL ρ n w S cs xs ∧ Ones xs
  | .arr ty cs => ∃ b xs, x = .pointer (some ⟨b, 0, none⟩) ∧ w.heap[b]? = some (.cells xs.toArray ty (0, 0)) ∧ RepL (Rep w S) cs xs ∧ Ones xs
  | .row e sz m ex cs => ∃ xs, RowOk w e sz m xs ex x ∧ RepL (Rep w S) cs xs ∧ Ones xs
  | .nest e sz m cs h => ∃ xs, RowOk w e sz m xs false x ∧ cs.length = xs.length ∧ Ones xs ∧ (∀ j c v, cs[j]? = some c → xs[j]? = some v → Off h j → NcOk w S c v) ∧ (∀ p y, h = some (p, y) → ∃ v, xs[p]? = some v ∧ Den ρ n w S y v) ∧
      (∀ j j' b, Inn cs h xs j b → Inn cs h xs j' b → j = j') ∧ (∀ j b, Inn cs h xs j b → blk x ≠ some b)
  | .dead => True

/-- The blocks of an object. -/
def Owns (w : World) (ob : Ob) (x : Value) (b : Nat) : Prop := blk x = some b ∨ ∃ e sz m cs h xs j, ob = .nest e sz m cs h ∧ RowOk w e sz m xs false x ∧ Inn cs h xs j b

def Ob.live : Ob → Bool
  | .dead => false
  | _ => true

/-- What fills one cell. -/
def Plain (v : Value) : Prop := v.oneCell' = true ∧ v.cells = #[v]

/-- What a call may look at and not change (s), and which of the older blocks it may change (m). -/
structure Fr where
  s : Nat → Prop
  m : Nat → Prop
  pin : Nat → Option Value    -- objects that keep their place

def Fr.of (s : Nat → Prop) : Fr := ⟨s, fun _ => False, fun _ => none⟩

/-- Nothing that was there has changed, but for the blocks of m. -/
structure LeM (m : Nat → Prop) (w w' : World) : Prop where
  os : w'.os = w.os
  tape : w'.tape = w.tape
  output : w'.output = w.output
  size : w.heap.size ≤ w'.heap.size
  block : ∀ k, k < w.heap.size → ¬ m k → w'.heap[k]? = w.heap[k]?

/-- The objects, and the blocks that nobody changes any more; w0, S0: at the call's beginning. -/
structure SatW (w0 : World) (S0 : Fr) (obs : Obs) (ρ : Nat → Value) (S : Nat → Prop) (w : World) : Prop where
  objs : ∀ i ob, obs[i]? = some ob → ObOk ρ (Lt obs.length) w S ob (ρ i)
  dist : ∀ i j oi oj b, obs[i]? = some oi → obs[j]? = some oj → oi.live = true → oj.live = true → Owns w oi (ρ i) b → Owns w oj (ρ j) b → i = j
  own : ∀ i ob b, obs[i]? = some ob → ob.live = true → Owns w ob (ρ i) b → (w0.heap.size ≤ b ∨ S0.m b) ∧ ¬ S b
  sub : ∀ b, S0.s b → S b
  lt : ∀ b, S b → b < w.heap.size
  new : ∀ b, S b → S0.s b ∨ w0.heap.size ≤ b ∨ S0.m b
  le : LeM S0.m w0 w
  plain : ∀ i, i < obs.length → Plain (ρ i)
  pins : ∀ i v, S0.pin i = some v → ρ i = v ∧ i < obs.length

/-- A call of a function returns what is told (r, in objects obsR of its own), and nothing that was there has changed. -/
def Ret (P : Program) (f : FuncId) (args : List PV) (obsR : Obs) (r : SV) : Prop :=
  ∀ (w : World) (S : Nat → Prop) (xs : List Value), (∀ b, S b → b < w.heap.size) → RepL (Rep w S) args xs →
    Calls P f xs.toArray w fun e w' => ∃ v ρ S', e = .returned v ∧ SatW w (Fr.of S) obsR ρ S' w' ∧ Den ρ (Lt obsR.length) w' S' r v

/-- The same of a call that may change one variable of the caller's (object 0 of the arguments). -/
def RetM (P : Program) (f : FuncId) (args : List SV) (ob ob' : Ob) (r : PV) : Prop :=
  ∀ (w : World) (S m : Nat → Prop) (ρ : Nat → Value) (xs : List Value), SatW w ⟨S, m, fun i => if i = 0 then some (ρ 0) else none⟩ [ob] ρ S w → DenL ρ (Lt 1) w S args xs →
    Calls P f xs.toArray w fun e w' => ∃ v ρ' S', e = .returned v ∧ SatW w ⟨S, m, fun i => if i = 0 then some (ρ 0) else none⟩ [ob'] ρ' S' w' ∧ Rep w' S' r v

/-! ### Forms -/

def fPV (y : PV) (k : PV → Prop) : Prop :=
  match y with
  | .v x => fV x fun x => k (.v x)
  | .agg l => k (.agg l)
  | .sl e n l => k (.sl e n l)
  | .fp b l => k (.fp b l)
  | .fn f a b => k (.fn f a b)

def pures : List SV → Option (List PV)
  | [] => some []
  | x :: r => match x with
    | .p y => (pures r).map (y :: ·)
    | .kb b => (pures r).map (.v (.bool b) :: ·)
    | .nil => (pures r).map (.sl true 0 [] :: ·)
    | _ => none

def hasNil : List SV → Bool
  | [] => false
  | .nil :: _ => true
  | _ :: r => hasNil r

/-- An aggregate of these cells. -/
def aggOf (l : List SV) : SV :=
  match hasNil l with
  | true => .ag l
  | false => match pures l with
    | some l => .p (.agg l)
    | none => .ag l

def clOf (f : Fn) (a b : List SV) : SV :=
  match pures a with
  | some a' => match pures b with
    | some b' => .p (.fn f a' b')
    | none => .cl f a b
  | none => .cl f a b

def fSV (x : SV) (k : SV → Prop) : Prop :=
  match x with
  | .p y => fPV y fun y => k (.p y)
  | .kb b => k (.kb b)
  | .any => k .any
  | .nil => k .nil
  | .ob i => k (.ob i)
  | .pt i o => k (.pt i o)
  | .ag l => k (.ag l)
  | .tup l => k (.tup l)
  | .cl f a b => k (.cl f a b)

def constSV (y : Value) : SV :=
  match y with
  | .bool b => .kb b
  | .slice none 0 0 => .nil
  | y => .p (.v y)

def ev (sl : Slots) (x : Operand) (k : SV → Prop) : Prop :=
  match x with
  | .tmp t => fSV (sl.get t) k
  | .const v => fSV (constSV v) k
  | .func f => k (.p (.fn (.func f) [] []))
  | .global _ => False

/-- A value that is pure. -/
def toP (x : SV) (k : PV → Prop) : Prop :=
  match x with
  | .p y => k y
  | .kb b => k (.v (.bool b))
  | .nil => k (.sl true 0 [])
  | .ag l => (match pures l with
    | some l => fun k : PV → Prop => k (.agg l)
    | none => fun _ => False) k
  | _ => False

def evP (sl : Slots) (x : Operand) (k : PV → Prop) : Prop := ev sl x fun x => toP x k

def evs (sl : Slots) : List Operand → (List SV → Prop) → Prop
  | [], k => k []
  | x :: r, k => ev sl x fun y => evs sl r fun ys => k (y :: ys)

def evParts (sl : Slots) : List (Nat × Operand) → (List (Nat × SV) → Prop) → Prop
  | [], k => k []
  | (i, x) :: r, k => ev sl x fun y => evParts sl r fun ys => k ((i, y) :: ys)

def oneV : Value → Bool
  | .agg _ => false
  | .tuple _ => false
  | _ => true

/-- Slices whose capacity is not told any more. -/
def weak : PV → PV
  | .sl _ n l => .sl false n l
  | x => x

def weakL : List PV → List PV
  | [] => []
  | x :: r => weak x :: weakL r

def weakA : PV → PV
  | .sl _ n l => .sl false n l
  | .agg l => .agg (weakL l)
  | x => x

def weakAll : List PV → List PV
  | [] => []
  | x :: r => weakA x :: weakAll r

/-- The same, written out. -/
def fw1 (x : PV) (k : PV → Prop) : Prop :=
  match x with
  | .v x => fV x fun x => k (.v x)
  | .agg l => k (.agg l)
  | .sl _ n l => k (.sl false n l)
  | .fp b l => k (.fp b l)
  | .fn f a b => k (.fn f a b)

def fWL : List PV → (List PV → Prop) → Prop
  | [], k => k []
  | x :: r, k => fw1 x fun x => fWL r fun r => k (x :: r)

def fwA (x : PV) (k : PV → Prop) : Prop :=
  match x with
  | .v x => fV x fun x => k (.v x)
  | .agg l => fWL l fun l => k (.agg l)
  | .sl _ n l => k (.sl false n l)
  | .fp b l => k (.fp b l)
  | .fn f a b => k (.fn f a b)

def fWs : List PV → (List PV → Prop) → Prop
  | [], k => k []
  | x :: r, k => fwA x fun x => fWs r fun r => k (x :: r)

def mapP : List PV → List SV
  | [] => []
  | x :: r => .p x :: mapP r

/-- The cells of a value that is stored in a variable. -/
def cellsS (x : SV) (k : List SV → Prop) : Prop :=
  match x with
  | .p y => match y with
    | .agg l => fL (mapP l) k
    | .v x => bif oneV x then k [.p (.v x)] else False
    | y => k [.p y]
  | .kb b => k [.kb b]
  | .nil => k [.nil]
  | .ob i => k [.ob i]
  | .pt i o => k [.pt i o]
  | .ag l => k l
  | .cl f a b => k [.cl f a b]
  | _ => False

/-- The cells of a value that is stored in a row or an array. -/
def cellsP (y : PV) (k : List PV → Prop) : Prop :=
  match y with
  | .agg l => fWL l k
  | .v x => bif oneV x then k [.v x] else False
  | y => k [weak y]

def ofCellsP (agg : Bool) (l : List PV) (k : SV → Prop) : Prop :=
  match agg with
  | true => fL l fun l => k (.p (.agg l))
  | false => match l with
    | [x] => fPV x fun x => k (.p x)
    | _ => False

def ofCellsS (agg : Bool) (l : List SV) (k : SV → Prop) : Prop :=
  match agg with
  | true => fL l fun l => fSV (aggOf l) k
  | false => match l with
    | [x] => fSV x k
    | _ => False

/-! ### Operations -/

def eqP : PV → PV → Bool
  | .v (.int _ a), .v (.int _ b) => a == b
  | _, _ => false

def eqPL : List PV → List PV → Bool
  | [], [] => true
  | a :: r, b :: s => eqP a b && eqPL r s
  | _, _ => false

def allI : List PV → Bool
  | [] => true
  | .v (.int .i64 _) :: r => allI r
  | _ => false

def intBin (k : IntKind) (op : BinOp) (a b : Int) (kk : SV → Prop) : Prop :=
  match op with
  | .add => kk (.p (.v (.int k (k.wrap (a + b)))))
  | .sub => kk (.p (.v (.int k (k.wrap (a - b)))))
  | .mul => kk (.p (.v (.int k (k.wrap (a * b)))))
  | .quo => b ≠ 0 ∧ kk (.p (.v (.int k (k.wrap (a.tdiv b)))))
  | .rem => b ≠ 0 ∧ kk (.p (.v (.int k (a.tmod b))))
  | .eql => kk (.p (.v (.bool (a == b))))
  | .neq => kk (.p (.v (.bool (a != b))))
  | .lss => kk (.p (.v (.bool (decide (a < b)))))
  | .leq => kk (.p (.v (.bool (decide (a ≤ b)))))
  | .gtr => kk (.p (.v (.bool (decide (a > b)))))
  | .geq => kk (.p (.v (.bool (decide (a ≥ b)))))
  | _ => False

def boolBin (op : BinOp) (a b : Bool) (kk : SV → Prop) : Prop :=
  match op with
  | .eql => kk (.p (.v (.bool (a == b))))
  | .neq => kk (.p (.v (.bool (!(a == b)))))
  | _ => False

def aggBin (op : BinOp) (a b : List PV) (kk : SV → Prop) : Prop :=
  match op with
  | .eql => kk (.p (.v (.bool (eqPL a b))))
  | .neq => kk (.p (.v (.bool (!(eqPL a b)))))
  | _ => False

def vcBin (T : Tab) (op : BinOp) (t : Nat) (x y : PV) (kk : SV → Prop) : Prop :=
  match x, y with
  | .v (.int .i64 a), .v (.int .i64 b) => intBin .i64 op a b kk
  | .v (.int .u8 a), .v (.int .u8 b) => intBin .u8 op a b kk
  | .v (.bool a), .v (.bool b) => T.find t fun ty => match ty.kd with | .bool => boolBin op a b kk | _ => False
  | .agg a, .agg b => T.find t fun ty => bif isFlat ty.kd && allI a && allI b && Nat.beq (len a) ty.size && Nat.beq (len b) ty.size then aggBin op a b kk else False
  | _, _ => False

def vcUn (op : UnOp) (x : SV) (kk : SV → Prop) : Prop :=
  match op, x with
  | .neg, .p (.v (.int k n)) => kk (.p (.v (.int k (k.wrap (0 - n)))))
  | .not, .p (.v (.bool b)) => kk (.p (.v (.bool (!b))))
  | .not, .kb true => kk (.kb false)
  | .not, .kb false => kk (.kb true)
  | _, _ => False

def spl {α : Type} (cs : List α) (o : Nat) (xs : List α) : List α := cs.take o ++ xs ++ cs.drop (o + xs.length)

def Obs.at (obs : Obs) (i : Nat) (k : Ob → Prop) : Prop :=
  match obs, i with
  | [], _ => False
  | o :: _, 0 => k o
  | _ :: r, i + 1 => Obs.at r i k

def Obs.upd (obs : Obs) (i : Nat) (o : Ob) (k : Obs → Prop) : Prop :=
  match obs, i with
  | [], _ => False
  | _ :: r, 0 => k (o :: r)
  | x :: r, i + 1 => Obs.upd r i o fun r => k (x :: r)

/-- A number written out. -/
def fN (n : Nat) : (Nat → Prop) → Prop := Nat.rec (motive := fun _ => (Nat → Prop) → Prop) (fun k => k 0) (fun _ ih k => ih fun m => k (Nat.succ m)) n

def Obs.snoc (obs : Obs) (o : Ob) (k : Obs → Prop) : Prop :=
  match obs with
  | [] => k [o]
  | x :: r => Obs.snoc r o fun r => k (x :: r)

def loadS (cs : List SV) (o : Nat) (ty : Ty) (kk : SV → Prop) : Prop :=
  fL ((cs.drop o).take ty.size) fun l => bif Nat.beq (len l) ty.size then ofCellsS (isAggK ty.kd) l kk else False

def loadR (cs : List PV) (o : Nat) (ty : Ty) (kk : SV → Prop) : Prop :=
  ∃ l, (cs.drop o).take ty.size = l ∧ l.length = ty.size ∧ ofCellsP (isAggK ty.kd) l kk

def loadF (cs : List PV) (ty : Ty) (kk : SV → Prop) : Prop :=
  fL (cs.take ty.size) fun l => bif Nat.beq (len l) ty.size then ofCellsP (isAggK ty.kd) l kk else False

/-- What is in a cell of a row of rows. -/
def NCat (cs : List NC) (h : Option (Nat × SV)) (q : Nat) (y : SV) : Prop :=
  match h with
  | some (p, z) => (q = p ∧ y = z) ∨ (q ≠ p ∧ ∃ x, y = .p x ∧ cs[q]? = some (.pu x))
  | none => ∃ x, y = .p x ∧ cs[q]? = some (.pu x)

def hasN (cs : List NC) (h : Option (Nat × SV)) : Nat → List SV → Prop
  | _, [] => True
  | o, y :: r => NCat cs h o y ∧ hasN cs h (o + 1) r

def loadN (cs : List NC) (h : Option (Nat × SV)) (o : Nat) (ty : Ty) (kk : SV → Prop) : Prop :=
  ∃ l : List SV, hasN cs h o l ∧ l.length = ty.size ∧ o + ty.size ≤ cs.length ∧ ofCellsS (isAggK ty.kd) l kk

def loadOb (ob : Ob) (o : Nat) (ty : Ty) (kk : SV → Prop) : Prop :=
  match ob with
  | .box _ cs => loadS cs o ty kk
  | .arr _ cs => loadR cs o ty kk
  | .row _ _ _ _ cs => loadR cs o ty kk
  | .nest _ _ _ cs h => loadN cs h o ty kk
  | .dead => False

def isVar : Ob → Bool
  | .box _ _ => true
  | .arr _ _ => true
  | _ => false

def vcLoad (T : Tab) (t : Nat) (x : SV) (obs : Obs) (kk : SV → Prop) : Prop :=
  T.find t fun ty => match x with
  | .ob i => obs.at i fun ob => bif isVar ob then loadOb ob 0 ty kk else False
  | .pt i o => obs.at i fun ob => loadOb ob o ty kk
  | .p (.fp true l) => loadF l ty kk
  | .p (.fp false l) => loadR l 0 ty kk
  | _ => False

def holeAt (h : Option (Nat × SV)) (o : Nat) : Prop :=
  match h with
  | none => True
  | some (p, _) => p = o

def holeOff (h : Option (Nat × SV)) (o size : Nat) : Prop :=
  match h with
  | none => True
  | some (p, _) => p < o ∨ o + size ≤ p

def mapNC : List PV → List NC
  | [] => []
  | x :: r => .pu (weak x) :: mapNC r

/-- Cells written into a row of rows: a row of the call's own, or what nobody changes. -/
def storeN (cs : List NC) (h : Option (Nat × SV)) (o size : Nat) (l : List SV) (kk : List NC → Option (Nat × SV) → Prop) : Prop :=
  (match pures l with
  | some lp => fun kk : List NC → Option (Nat × SV) → Prop => holeOff h o size ∧ kk (spl cs o (mapNC lp)) h
  | none => match l with
    | [.ob j] => fun kk => holeAt h o ∧ kk cs (some (o, .ob j))
    | _ => fun _ => False) kk

def storeOb (obs : Obs) (i o size : Nat) (y : SV) (kk : Obs → Prop) : Prop :=
  obs.at i fun ob => match ob with
  | .box t cs => cellsS y fun l => bif Nat.beq (len l) size && Nat.ble (o + size) (len cs) then fL (spl cs o l) fun cs => obs.upd i (.box t cs) kk else False
  | .arr t cs => toP y fun y => cellsP y fun l => bif Nat.beq (len l) size then o + size ≤ cs.length ∧ obs.upd i (.arr t (spl cs o l)) kk else False
  | .row e sz n ex cs => toP y fun y => cellsP y fun l => bif Nat.beq (len l) size then o + size ≤ cs.length ∧ obs.upd i (.row e sz n ex (spl cs o l)) kk else False
  | .nest e sz n cs h => cellsS y fun l => bif Nat.beq (len l) size then o + size ≤ cs.length ∧ storeN cs h o size l fun cs h => obs.upd i (.nest e sz n cs h) kk else False
  | .dead => False

def vcStore (T : Tab) (t : Nat) (x y : SV) (obs : Obs) (kk : Obs → Prop) : Prop :=
  T.find t fun ty => match x with
  | .ob i => obs.at i fun ob => bif isVar ob then storeOb obs i 0 ty.size y kk else False
  | .pt i o => storeOb obs i o ty.size y kk
  | _ => False

def fDrop (lit : Bool) (o : Nat) (l : List PV) (k : List PV → Prop) : Prop :=
  match lit with
  | true => fL (l.drop o) k
  | false => k (l.drop o)

def vcFieldAddr (T : Tab) (s : Nat) (x : SV) (f : Nat) (obs : Obs) (kk : SV → Prop) : Prop :=
  T.find s fun ty => match ty.kd with
  | .struct fs _ =>
    match fs.drop f with
    | (o, _, _) :: _ => match x with
      | .ob i => obs.at i fun ob => bif isVar ob then kk (.pt i o) else False
      | .pt i p => kk (.pt i (p + o))
      | .p (.fp lit l) => fDrop lit o l fun l => kk (.p (.fp lit l))
      | _ => False
    | [] => False
  | _ => False

/-- An element of cells that nobody changes. -/
def elemP (l : List PV) (o sz : Nat) (kk : SV → Prop) : Prop :=
  ∃ c, (l.drop o).take sz = c ∧ c.length = sz ∧ kk (.p (.fp true c))

def vcIndexAddr (T : Tab) (t : Nat) (x : SV) (j : Int) (obs : Obs) (kk : SV → Prop) : Prop :=
  T.find t fun ty => match ty.kd with
  | .arr n _ esz _ => match x with
    | .ob i => obs.at i fun ob => bif isVar ob then ∃ m : Nat, j = m ∧ m < n ∧ kk (.pt i (m * esz)) else False
    | .pt i p => ∃ m : Nat, j = m ∧ m < n ∧ kk (.pt i (p + m * esz))
    | .p (.fp _ l) => ∃ m : Nat, j = m ∧ m < n ∧ elemP l (m * esz) esz kk
    | _ => False
  | .slice e => T.find e fun te => match x with
    | .p (.sl _ n l) => ∃ m : Nat, j = m ∧ m < n ∧ 0 < te.size ∧ elemP l (m * te.size) te.size kk
    | .ob i => obs.at i fun ob => match ob with
      | .row _ sz n _ _ => bif Nat.beq sz te.size then ∃ m : Nat, j = m ∧ m < n ∧ kk (.pt i (m * sz)) else False
      | .nest _ sz n _ _ => bif Nat.beq sz te.size then ∃ m : Nat, j = m ∧ m < n ∧ kk (.pt i (m * sz)) else False
      | _ => False
    | _ => False
  | _ => False

/-- Parts put in place: a part's offset and size by its number. -/
def putS (cs : List SV) (pl : List (Nat × Nat)) : List (Nat × SV) → (List SV → Prop) → Prop
  | [], k => k cs
  | (i, y) :: r, k => match pl.drop i with
    | (o, n) :: _ => cellsS y fun xs => bif Nat.beq (len xs) n && Nat.ble (o + len xs) (len cs) then fL (spl cs o xs) fun l => putS l pl r k else False
    | [] => False

def zP : Value → PV
  | .slice none 0 0 => .sl true 0 []
  | x => .v x

def zS : Value → SV
  | .slice none 0 0 => .nil
  | x => .p (.v x)

def mapZ : List Value → List PV
  | [] => []
  | x :: r => zP x :: mapZ r

def mapZS : List Value → List SV
  | [] => []
  | x :: r => zS x :: mapZS r

def reps (n : Nat) (z : List PV) : List PV := (List.replicate n z).flatten

/-- The source of an append. -/
def vcSrc (x : SV) (sz : Nat) (obs : Obs) (kk : Nat → List PV → Prop) : Prop :=
  match x with
  | .p (.sl _ m l) => l.length = m * sz ∧ kk m l
  | .nil => kk 0 []
  | .ob i => obs.at i fun ob => match ob with
    | .row _ sz' m _ cs => bif Nat.beq sz' sz then kk m cs else False
    | _ => False
  | _ => False

def room (n m bytes : Nat) : Prop := n + m ≤ 1099511627776 ∧ (n + m) * bytes ≤ 140737488355328

/-- A row of rows, by its number. -/
def nestNo (obs : Obs) (x : SV) : Option Nat :=
  match x with
  | .ob j => match obs[j]? with
    | some (.nest _ _ _ _ _) => some j
    | _ => none
  | _ => none

/-- A row of rows appended to another one, which has both's rows then. -/
def vcAppN (te : Ty) (e : TypeId) (s : SV) (j : Nat) (obs : Obs) (kk : SV → Obs → Prop) : Prop :=
  match s with
  | .ob i => obs.at i fun oi => obs.at j fun oj => match oi, oj with
    | .nest e1 sz1 n cs none, .nest _ sz2 m cs' none => bif Nat.beq sz1 te.size && Nat.beq e1 e && Nat.beq sz2 te.size && !Nat.beq i j then
        room n m te.bytes ∧ obs.upd i .dead fun obs1 => obs1.upd j .dead fun obs2 => obs2.snoc (.nest e te.size (n + m) (cs ++ cs') none) fun obs' => fN (len obs) fun q => kk (.ob q) obs' else False
    | _, _ => False
  | _ => False

def vcAppend (T : Tab) (t : Nat) (s x : SV) (obs : Obs) (kk : SV → Obs → Prop) : Prop :=
  T.find t fun ty => match ty.kd with
  | .slice e => T.find e fun te => bif Nat.ble 1 te.size && Nat.beq (len te.zero) te.size then
    vcSrc x te.size obs fun m l =>
      match s with
      | .nil => room 0 m te.bytes ∧ obs.snoc (.row e te.size (0 + m) false l) fun obs' => fN (len obs) fun q => kk (.ob q) obs'
      | .p (.sl ex n l0) => bif ex then room n m te.bytes ∧ l0.length = n * te.size ∧ ∃ z : Bool, (z = true → m = 0) ∧ (z = false → 1 ≤ m) ∧
          (match z with
          | true => fun k : SV → Obs → Prop => k (.p (.sl true n l0)) obs
          | false => fun k => obs.snoc (.row e te.size (n + m) false (l0 ++ l)) fun obs' => fN (len obs) fun q => k (.ob q) obs') kk else False
      | .ob i => obs.at i fun ob => match ob with
        | .row e' sz n exact cs => bif Nat.beq sz te.size && Nat.beq e' e then room n m te.bytes ∧
            (match exact with
            | true => fun k : Obs → Prop => ∃ z : Bool, (z = true → 1 ≤ m) ∧ (match z with | true => fun k : Obs → Prop => k obs | false => fun k => obs.upd i .dead k) k
            | false => fun k => obs.upd i .dead k) fun obs1 => obs1.snoc (.row e te.size (n + m) false (cs ++ l)) fun obs' => fN (len obs) fun q => kk (.ob q) obs'
            else False
        | _ => False
      | _ => False
    else False
  | _ => False

def vcAppend2 (T : Tab) (t : Nat) (s x : SV) (obs : Obs) (kk : SV → Obs → Prop) : Prop :=
  (match nestNo obs x with
  | none => vcAppend T t s x obs
  | some j => fun kk => T.find t fun ty => match ty.kd with
    | .slice e => T.find e fun te => bif Nat.beq (len te.zero) te.size then vcAppN te e s j obs kk else False
    | _ => False) kk

def vcMake (T : Tab) (t : Nat) (l c : Int) (kk : Ob → Prop) : Prop :=
  T.find t fun ty => match ty.kd with
  | .slice e => T.find e fun te => bif Nat.ble 1 te.size && Nat.beq (len te.zero) te.size && oneCells te.zero then
      ∃ n m : Nat, l = n ∧ c = m ∧ n ≤ m ∧ room m 0 te.bytes ∧ fWL (mapZ te.zero) fun z => kk (.row e te.size n false (reps n z))
    else False
  | _ => False

def nil1 : List Value → Bool
  | [.slice none 0 0] => true
  | _ => false

/-- The same, rows of rows: each of them is nil, and the call's own. -/
def vcMake2 (T : Tab) (t : Nat) (l c : Int) (kk : Ob → Prop) : Prop :=
  T.find t fun ty => match ty.kd with
  | .slice e => T.find e fun te => match te.kd with
    | .slice e2 => T.find e2 fun t2 => bif Nat.ble 1 te.size && Nat.beq (len te.zero) te.size && nil1 te.zero then
      ∃ n m : Nat, l = n ∧ c = m ∧ n ≤ m ∧ room m 0 te.bytes ∧ kk (.nest e te.size n (List.replicate n (.ow e2 t2.size 0 [])) none) else False
    | _ => vcMake T t l c kk
  | _ => False

/-- The cells of an element that holds a row of the call's own, in cell c. -/
def ncOf (obs : Obs) (c : Nat) (e2 : TypeId) (sz2 : Nat) : Nat → List SV → (List NC → Option Nat → Prop) → Prop
  | _, [], k => k [] none
  | j, x :: r, k => match x with
    | .p y => fw1 y fun y => ncOf obs c e2 sz2 (j + 1) r fun ys d => k (.pu y :: ys) d
    | .kb b => ncOf obs c e2 sz2 (j + 1) r fun ys d => k (.pu (.v (.bool b)) :: ys) d
    | .nil => bif Nat.beq j c then ncOf obs c e2 sz2 (j + 1) r fun ys d => k (.ow e2 sz2 0 [] :: ys) d else ncOf obs c e2 sz2 (j + 1) r fun ys d => k (.pu (.sl false 0 []) :: ys) d
    | .ob i => bif Nat.beq j c then obs.at i fun ob => (match ob with
        | .row e' sz' m _ l => ncOf obs c e2 sz2 (j + 1) r fun ys _ => k (.ow e' sz' m l :: ys) (some i)
        | _ => False) else False
    | _ => False

def killO (d : Option Nat) (obs : Obs) (k : Obs → Prop) : Prop :=
  match d with
  | none => k obs
  | some i => obs.upd i .dead k

/-- A slice of one element, which holds a row of the call's own. -/
def vcAbsorb (T : Tab) (t : Nat) (x : SV) (obs : Obs) (kk : SV → Obs → Prop) : Prop :=
  T.find t fun ty => match ty.kd with
  | .slice e => T.find e fun te => bif Nat.ble 1 te.size && Nat.beq (len te.zero) te.size && oneCells te.zero && Nat.ble te.size 16777216 then
      cellsS x fun l => bif Nat.beq (len l) te.size then ∃ (c : Nat) (e2 : TypeId) (sz2 : Nat), ncOf obs c e2 sz2 0 l fun ncs d => killO d obs fun obs1 => obs1.snoc (.nest e te.size 1 ncs none) fun obs' => fN (len obs) fun q => kk (.ob q) obs' else False
    else False
  | _ => False

def isRowAt (obs : Obs) (i : Nat) : Bool := match obs[i]? with | some (.row _ _ _ _ _) => true | _ => false

def anyOwn (obs : Obs) : List SV → Bool
  | [] => false
  | .nil :: _ => true
  | .ob i :: r => bif isRowAt obs i then true else anyOwn obs r
  | _ :: r => anyOwn obs r

/-- A slice of one element, which may hold a row of the call's own. -/
def absorbs (o : Op) (sl : Slots) (obs : Obs) : Bool :=
  match o with
  | .buildSlice _ n ps => match n, ps.toList with
    | 1, [(0, .tmp t)] => match sl.get t with
      | .ob i => isRowAt obs i
      | .ag l => anyOwn obs l
      | _ => false
    | _, _ => false
  | _ => false

def rowParts (cs : List PV) (pl : List (Nat × Nat)) : List (Nat × SV) → (List PV → Prop) → Prop
  | [], k => k cs
  | (i, y) :: r, k => match pl.drop i with
    | (o, n) :: _ => toP y fun y => cellsP y fun xs => bif Nat.beq (len xs) n && Nat.ble (o + len xs) (len cs) then fL (spl cs o xs) fun l => rowParts l pl r k else False
    | [] => False

def vcBuildSlice (T : Tab) (t n : Nat) (ps : List (Nat × SV)) (kk : Ob → Prop) : Prop :=
  T.find t fun ty => match ty.kd with
  | .slice e => T.find e fun te => bif Nat.ble 1 te.size && Nat.beq (len te.zero) te.size && oneCells te.zero && Nat.ble (n * te.size) 16777216 then
      fWL (mapZ te.zero) fun z => fL (reps n z) fun z => fL (rowPl te.size n 0) fun pl => rowParts z pl ps fun l =>
        kk (.row e te.size n true l)
    else False
  | _ => False

def vcLen (T : Tab) (t : Nat) (x : SV) (obs : Obs) (kk : SV → Prop) : Prop :=
  T.find t fun ty => match ty.kd with
  | .slice _ => match x with
    | .p (.sl _ n _) => kk (.p (.v (.int .i64 n)))
    | .nil => kk (.p (.v (.int .i64 0)))
    | .ob i => obs.at i fun ob => match ob with
      | .row _ _ n _ _ => kk (.p (.v (.int .i64 n)))
      | .nest _ _ n _ _ => kk (.p (.v (.int .i64 n)))
      | _ => False
    | _ => False
  | .arr n _ _ _ => kk (.p (.v (.int .i64 n)))
  | _ => False

def maxL (a : Int) : List SV → (Int → Prop) → Prop
  | [], kk => kk a
  | x :: r, kk => match x with
    | .p (.v (.int .i64 b)) => maxL (if b > a then b else a) r kk
    | _ => False

def vcMax (l : List SV) (kk : SV → Prop) : Prop :=
  match l with
  | .p (.v (.int .i64 a)) :: r => maxL a r fun a => kk (.p (.v (.int .i64 a)))
  | _ => False

def optInt (sl : Slots) (x : Option Operand) (d : Nat) (k : Nat → Prop) : Prop :=
  match x with
  | none => k d
  | some x => evP sl x fun y => match y with
    | .v (.int .i64 j) => ∃ m : Nat, j = m ∧ k m
    | _ => False

/-- A slice of cells that nobody changes. -/
def sliceP (sl : Slots) (n sz : Nat) (ex : Bool) (l : List PV) (lo hi mx : Option Operand) (kk : SV → Prop) : Prop :=
  optInt sl lo 0 fun a => optInt sl hi n fun b => a ≤ b ∧ b ≤ n ∧
    (match mx with
    | none => fun k : Bool → Prop => (match hi with | none => k ex | some _ => k false)
    | some x => fun k => optInt sl (some x) 0 fun m => m = b ∧ k true) fun ex' => kk (.p (.sl ex' (b - a) ((l.drop (a * sz)).take ((b - a) * sz))))

def vcSlice (T : Tab) (sl : Slots) (t : Nat) (x : SV) (lo hi mx : Option Operand) (kk : SV → Prop) : Prop :=
  T.find t fun ty => match ty.kd with
  | .slice e => T.find e fun te => match x with
    | .p (.sl ex n l) => l.length = n * te.size ∧ sliceP sl n te.size ex l lo hi mx kk
    | _ => False
  | .arr n _ esz _ => match x with
    | .p (.fp _ l) => l.length = n * esz ∧ sliceP sl n esz true l lo hi mx kk
    | _ => False
  | _ => False

def nth (l : List SV) (i : Nat) (k : SV → Prop) : Prop :=
  match l, i with
  | [], _ => False
  | x :: _, 0 => fSV x k
  | _ :: r, i + 1 => nth r i k

def vcField (T : Tab) (t f : Nat) (x : SV) (k : SV → Prop) : Prop :=
  T.find t fun ty => match ty.kd with
  | .struct fs _ => match fs.drop f with
    | (o, e, _) :: _ => T.find e fun te => match x with
      | .p (.agg l) => fL ((l.drop o).take te.size) fun l => bif Nat.beq (len l) te.size then ofCellsP (isAggK te.kd) l k else False
      | .ag l => fL ((l.drop o).take te.size) fun l => bif Nat.beq (len l) te.size then ofCellsS (isAggK te.kd) l k else False
      | _ => False
    | [] => False
  | _ => False

def vcIndex (T : Tab) (t : Nat) (x : PV) (j : Int) (k : SV → Prop) : Prop :=
  match x with
  | .agg cs => T.find t fun ty => match ty.kd with
    | .arr n e esz _ => T.find e fun te => ∃ m : Nat, j = m ∧ m < n ∧ ∃ l, (cs.drop (m * esz)).take te.size = l ∧ l.length = te.size ∧ ofCellsP (isAggK te.kd) l k
    | _ => False
  | _ => False

/-- The literal nil of a slice. -/
def isNilC : Operand → Bool
  | .const (.slice none 0 0) => true
  | _ => false

/-- A slice that has elements, held against nil. -/
def vcNilCmp (T : Tab) (op : BinOp) (t : Nat) (x : PV) (k : SV → Prop) : Prop :=
  T.find t fun ty => match ty.kd with
  | .slice _ => match x with
    | .sl _ n _ => 0 < n ∧ (match op with
      | .eql => k (.kb false)
      | .neq => k (.kb true)
      | _ => False)
    | _ => False
  | _ => False

/-- Operations that only compute and read. -/
def vcPure (T : Tab) (o : Op) (sl : Slots) (obs : Obs) (k : SV → Prop) : Prop :=
  match o with
  | .move x => ev sl x k
  | .assign x => ev sl x k
  | .pick c a b => ev sl c fun c => match c with
    | .kb true => ev sl a k
    | .kb false => ev sl b k
    | .p (.v (.bool q)) => (q = true → ev sl a k) ∧ (q = false → ev sl b k)
    | _ => False
  | .binOp op t x y _ => match isNilC y with
    | true => evP sl x fun x => vcNilCmp T op t x k
    | false => evP sl x fun x => evP sl y fun y => vcBin T op t x y k
  | .unOp op _ x => ev sl x fun x => vcUn op x k
  | .convert src dst x => ev sl x fun x => T.find src fun _ => T.find dst fun ty => match x with
    | .p (.v (.int _ n)) => match ty.kd with
      | .int kd => k (.p (.v (.int kd (kd.wrap n))))
      | _ => False
    | _ => False
  | .extract x i => ev sl x fun x => match x with
    | .tup l => nth l i k
    | _ => False
  | .build t ps => T.find t fun ty => bif Nat.beq (len ty.zero) ty.size && isAggK ty.kd && oneCells ty.zero then evParts sl ps.toList fun ps => fL (mapZS ty.zero) fun z => putS z (plOf ty.kd) ps fun l => fSV (aggOf l) k else False
  | .load t x => ev sl x fun x => vcLoad T t x obs k
  | .fieldAddr s x f => ev sl x fun x => vcFieldAddr T s x f obs k
  | .indexAddr t x j => ev sl x fun x => evP sl j fun j => match j with
    | .v (.int _ j) => vcIndexAddr T t x j obs k
    | _ => False
  | .field t x f => ev sl x fun x => vcField T t f x k
  | .index t x j => evP sl x fun x => evP sl j fun j => match j with
    | .v (.int _ j) => vcIndex T t x j k
    | _ => False
  | .slice t x lo hi mx => match hi, mx with
    | none, some _ => False
    | hi, mx => ev sl x fun x => vcSlice T sl t x lo hi mx k
  | .makeFunc f first cap => evs sl first.toList fun a => evs sl cap.toList fun b => fSV (clOf f a b) k
  | .call c => match c.callee with
    | .builtin .len => match c.args.toList, c.argTypes.toList with
      | [x], [t] => ev sl x fun x => vcLen T t x obs k
      | _, _ => False
    | .builtin .max => evs sl c.args.toList fun l => vcMax l k
    | _ => False
  | _ => False

def isArr (ty : Ty) : Bool := match ty.kd with | .arr _ _ _ _ => true | _ => false

def mkVar (ty : Ty) (t : Nat) (cs : List SV) (k : Ob → Prop) : Prop :=
  (match isArr ty with
  | true => match pures cs with
    | some l => fun k : Ob → Prop => fWL l fun l => k (.arr t l)
    | none => fun _ => False
  | false => fun k => k (.box t cs)) k

/-- Operations that make an object. -/
def vcNew (T : Tab) (o : Op) (sl : Slots) (k : Ob → Prop) : Prop :=
  match o with
  | .alloc t => T.find t fun ty => bif Nat.beq (len ty.zero) ty.size && oneCells ty.zero then fL (mapZS ty.zero) fun z => mkVar ty t z k else False
  | .box t x => ev sl x fun x => T.find t fun ty => cellsS x fun cs => bif Nat.beq (len cs) ty.size then mkVar ty t cs k else False
  | .makeSlice t l c => evP sl l fun l => evP sl c fun c => match l, c with
    | .v (.int _ l), .v (.int _ c) => vcMake T t l c k
    | _, _ => False
  | .buildSlice t n ps => evParts sl ps.toList fun ps => vcBuildSlice T t n ps k
  | _ => False

def ncP : NC → PV
  | .pu p => p
  | .ow _ _ n l => .sl false n l

/-- What a cell is, read now. -/
def peek0 (obs : Obs) (x : SV) : Option PV :=
  match x with
  | .p y => some y
  | .kb b => some (.v (.bool b))
  | .nil => some (.sl true 0 [])
  | .ob i => match obs[i]? with
    | some (.row _ _ n _ cs) => some (.sl false n cs)
    | some (.nest _ _ n cs none) => some (.sl false n (cs.map ncP))
    | _ => none
  | _ => none

def peekL0 (obs : Obs) : List SV → Option (List PV)
  | [] => some []
  | x :: r => match peek0 obs x with
    | some y => (peekL0 obs r).map (y :: ·)
    | none => none

/-- A bool variable: a function that holds it may change it. -/
def boolCell : List SV → Bool
  | [.kb _] => true
  | [.p (.v (.bool _))] => true
  | _ => false

/-- What a value is, read now. -/
def peek (obs : Obs) (x : SV) : Option PV :=
  match x with
  | .p y => some y
  | .kb b => some (.v (.bool b))
  | .nil => some (.sl true 0 [])
  | .ob i => match obs[i]? with
    | some (.row _ _ n _ cs) => some (.sl false n cs)
    | some (.nest _ _ n cs none) => some (.sl false n (cs.map ncP))
    | some (.arr _ cs) => some (.fp false cs)
    | some (.box _ cs) => bif boolCell cs then none else (peekL0 obs cs).map (.fp true ·)
    | _ => none
  | .ag l => (peekL0 obs l).map (.agg ·)
  | _ => none

def isAg : SV → Bool
  | .ag _ => true
  | _ => false

def peekL (obs : Obs) : List SV → Option (List PV)
  | [] => some []
  | x :: r => bif isAg x then none else match peek obs x with
    | some y => (peekL obs r).map (y :: ·)
    | none => none

/-- The same, functions with what they hold too. -/
def peekF (obs : Obs) (x : SV) : Option PV :=
  match x with
  | .cl f a b => match peekL obs a with
    | some a' => (peekL obs b).map (.fn f a' ·)
    | none => none
  | x => peek obs x

def peekFL (obs : Obs) : List SV → Option (List PV)
  | [] => some []
  | x :: r => match peekF obs x with
    | some y => (peekFL obs r).map (y :: ·)
    | none => none

/-- A call of a Go function: which one, with which arguments. -/
def vcFn (F : Nat) (f : Operand) (args : List Operand) (sl : Slots) (k : FuncId → List SV → Prop) : Prop :=
  ev sl f fun f => match f with
    | .p (.fn (.func f) a b) => bif Nat.blt 2 f && Nat.blt f F then evs sl args fun l => fL (mapP a ++ (l ++ mapP b)) (k f) else False
    | .cl (.func f) a b => bif Nat.blt 2 f && Nat.blt f F then evs sl args fun l => fL (a ++ (l ++ b)) (k f) else False
    | _ => False

inductive OpK where
  | pure | new | store | append | call

def opK : Op → OpK
  | .alloc _ => .new
  | .box _ _ => .new
  | .makeSlice _ _ _ => .new
  | .buildSlice _ _ _ => .new
  | .store _ _ _ => .store
  | .call c => match c.callee with
    | .value _ => .call
    | .builtin .append => .append
    | _ => .pure
  | _ => .pure

def rowsOnly : Obs → Bool
  | [] => true
  | .row _ _ _ _ _ :: r => rowsOnly r
  | .nest _ _ _ _ none :: r => rowsOnly r
  | _ => false

def sh1 (n : Nat) : SV → SV
  | .ob i => .ob (n + i)
  | x => x

def shL (n : Nat) : List SV → List SV
  | [] => []
  | x :: r => sh1 n x :: shL n r

def shS (n : Nat) : SV → SV
  | .ob i => .ob (n + i)
  | .tup l => .tup (shL n l)
  | x => x

def okR : SV → Bool
  | .p _ => true
  | .kb _ => true
  | .nil => true
  | .ob _ => true
  | _ => false

def okRL : List SV → Bool
  | [] => true
  | x :: r => okR x && okRL r

def okRS : SV → Bool
  | .tup l => okRL l
  | x => okR x

/-! ### Objects that nobody changes any more -/

def refs1 : SV → List Nat
  | .ob i => [i]
  | _ => []

def refsL : List SV → List Nat
  | [] => []
  | .ob i :: r => i :: refsL r
  | _ :: r => refsL r

def refsOf : SV → List Nat
  | .ob i => [i]
  | .ag l => refsL l
  | .tup l => refsL l
  | .cl _ a b => refsL a ++ refsL b
  | _ => []

def sub1 (i : Nat) (y : PV) : SV → SV
  | .ob j => bif Nat.beq j i then .p y else .ob j
  | x => x

def subM (i : Nat) (y : PV) : List SV → List SV
  | [] => []
  | x :: r => sub1 i y x :: subM i y r

def subV (i : Nat) (y : PV) : SV → SV
  | .ob j => bif Nat.beq j i then .p y else .ob j
  | .ag l => aggOf (subM i y l)
  | .tup l => .tup (subM i y l)
  | .cl f a b => clOf f (subM i y a) (subM i y b)
  | x => x

def subS (i : Nat) (y : PV) : Slots → (Slots → Prop) → Prop
  | [], k => k []
  | (t, x) :: r, k => fSV (subV i y x) fun x => subS i y r fun r => k ((t, x) :: r)

def subH (i : Nat) (y : PV) : Option (Nat × SV) → Option (Nat × SV)
  | none => none
  | some (p, z) => some (p, sub1 i y z)

def subB (i : Nat) (y : PV) : Ob → Ob
  | .box t cs => .box t (subM i y cs)
  | .nest e sz n cs h => .nest e sz n cs (subH i y h)
  | o => o

def subO (i : Nat) (y : PV) : Obs → Obs
  | [] => []
  | o :: r => subB i y o :: subO i y r

def fSVs : List SV → (List SV → Prop) → Prop
  | [], k => k []
  | x :: r, k => fSV x fun x => fSVs r fun r => k (x :: r)

def fOb (o : Ob) (k : Ob → Prop) : Prop :=
  match o with
  | .box t cs => fSVs cs fun cs => k (.box t cs)
  | .arr t cs => k (.arr t cs)
  | .row e sz n ex cs => k (.row e sz n ex cs)
  | .nest e sz n cs h => k (.nest e sz n cs h)
  | .dead => k .dead

/-- The same, written out. -/
def subOF (i : Nat) (y : PV) : Obs → (Obs → Prop) → Prop
  | [], k => k []
  | o :: r, k => fOb (subB i y o) fun o => subOF i y r fun r => k (o :: r)

def frozen (ob : Ob) (k : PV → Prop) : Prop :=
  match ob with
  | .row _ _ n ex cs => k (.sl ex n cs)
  | .nest _ _ n cs h => (match h with
    | none => fun k : PV → Prop => k (.sl false n (cs.map ncP))
    | some _ => fun _ => False) k
  | .arr _ cs => k (.fp false cs)
  | .box _ cs => (match pures cs with
    | some l => fun k : PV → Prop => fL l fun l => k (.fp true l)
    | none => fun _ => False) k
  | .dead => False

/-- What cell p of a row of rows holds is its own again. -/
def inN (i : Nat) (k : K) : K := fun sl obs => obs.at i fun ob => (match ob with
  | .nest e sz n cs (some (p, y)) => match y with
    | .ob j => fun k : K => obs.at j fun o => match o with
      | .row e' sz' m _ l => Obs.upd obs j .dead fun obs => Obs.upd obs i (.nest e sz n (cs.set p (.ow e' sz' m l)) none) fun obs => k sl obs
      | _ => False
    | .p x => fun k => Obs.upd obs i (.nest e sz n (cs.set p (.pu x)) none) fun obs => k sl obs
    | _ => fun _ => False
  | _ => fun k => k sl obs) k

def holeIx : Nat → Obs → Option Nat
  | _, [] => none
  | i, .nest _ _ _ _ (some _) :: _ => some i
  | i, _ :: r => holeIx (i + 1) r

/-- The same of all rows of rows. -/
def vcIn (k : K) : K := fun sl obs => (match holeIx 0 obs with
  | some i => inN i k
  | none => k) sl obs

/-- A row of the call's own, taken out of a row of rows. -/
def outN (i p : Nat) (e : TypeId) (sz m : Nat) (l : List PV) (k : K) : K := fun sl obs => obs.at i fun ob => (match ob with
  | .nest e1 sz1 n cs none => fun k : K => cs[p]? = some (NC.ow e sz m l) ∧ fN (len obs) fun q => Obs.upd obs i (.nest e1 sz1 n cs (some (p, .ob q))) fun obs => obs.snoc (.row e sz m false l) fun obs => k sl obs
  | _ => fun _ => False) k

/-- What the proof does ahead of a region: nothing, or it takes a row out of a row of rows. -/
inductive Gh where
  | no
  | inn
  | kill (i : Nat)
  | out (i p : Nat) (e : TypeId) (sz m : Nat) (l : List PV)

def ghost (g : Gh) (k : K) : K := match g with
  | .no => k
  | .inn => vcIn k
  | .kill i => fun sl obs => Obs.upd obs i .dead fun obs => k sl obs
  | .out i p e sz m l => vcIn (outN i p e sz m l k)

def anyNest : Obs → Bool
  | [] => false
  | .nest _ _ _ _ _ :: _ => true
  | _ :: r => anyNest r

def isLoad : Op → Bool
  | .load _ _ => true
  | _ => false

def anyLoad : List Oper → Bool
  | [] => false
  | o :: r => bif isLoad o.op then true else anyLoad r

/-- A region that reads, where there are rows of rows. -/
def vcGh (ops : List Oper) (k : K) : K := fun sl obs => (match anyNest obs && anyLoad ops with
  | true => fun k : K => ∃ g, ghost g k sl obs
  | false => fun k => k sl obs) k

/-- Object i is not changed any more. -/
def frz1 (i : Nat) (k : K) : K := fun sl obs => obs.at i fun ob => (match ob.live with
  | true => fun k : K => frozen ob fun y => subS i y sl fun sl => subOF i y obs fun obs => Obs.upd obs i .dead fun obs => k sl obs
  | false => fun k => k sl obs) k

def frzL : List Nat → K → K
  | [], k => k
  | i :: r, k => frz1 i (frzL r k)

/-- What the variables among these objects hold. -/
def inner (obs : Obs) : List Nat → List Nat
  | [] => []
  | i :: r => (match obs[i]? with | some (.box _ cs) => refsL cs | _ => []) ++ inner obs r

def opRefs (sl : Slots) : List Operand → List Nat
  | [] => []
  | .tmp t :: r => refsOf (sl.get t) ++ opRefs sl r
  | _ :: r => opRefs sl r

def isBoxAt (obs : Obs) (i : Nat) : Bool := match obs[i]? with | some (.box _ _) => true | _ => false

def isNestAt (obs : Obs) (i : Nat) : Bool := match obs[i]? with | some (.nest _ _ _ _ _) => true | _ => false

/-- Which operands must not change any more. -/
def frzOps (o : Op) (sl : Slots) (obs : Obs) : List Operand :=
  match o with
  | .buildSlice _ _ ps => ps.toList.map (·.2)
  | .slice _ x _ _ _ => [x]
  | .store _ x y => match x with
    | .tmp t => match sl.get t with
      | .ob i => bif isBoxAt obs i then [] else [y]
      | .pt i _ => bif isBoxAt obs i || isNestAt obs i then [] else [y]
      | _ => [y]
    | _ => [y]
  | _ => []

def vcFreeze (xs : List Operand) (k : K) : K := fun sl obs =>
  fL (opRefs sl xs) fun is => fL (inner obs is) fun js => frzL js (frzL is k) sl obs

def plain1 : PV → Bool
  | .v _ => true
  | _ => false

def plainL : List PV → Bool
  | [] => true
  | x :: r => plain1 x && plainL r

/-- Numbers and bools, or such in a row: nothing that leads anywhere. -/
def plainS1 : SV → Bool
  | .p (.v _) => true
  | .p (.agg l) => plainL l
  | .kb _ => true
  | _ => false

def plainSL : List SV → Bool
  | [] => true
  | x :: r => plainS1 x && plainSL r

def plainS : SV → Bool
  | .tup l => plainSL l
  | x => plainS1 x

def refsA : List SV → List Nat
  | [] => []
  | x :: r => refsOf x ++ refsA r

/-- The first bool variable among these objects. -/
def boolRef (obs : Obs) : List Nat → Option Nat
  | [] => none
  | i :: r => match obs[i]? with
    | some (.box _ cs) => bif boolCell cs then some i else boolRef obs r
    | _ => boolRef obs r

/-- A value as a callee sees it to which variable i is lent. -/
def peekM (obs : Obs) (i : Nat) (x : SV) : Option SV :=
  match x with
  | .ob j => bif Nat.beq j i then some (.ob 0) else bif memN i (inner obs [j]) then none else (peek obs (.ob j)).map .p
  | x => bif memN i (refsOf x) || memN i (inner obs (refsOf x)) then none else (peek obs x).map .p

def peekML (obs : Obs) (i : Nat) : List SV → Option (List SV)
  | [] => some []
  | x :: r => match peekM obs i x with
    | some y => (peekML obs i r).map (y :: ·)
    | none => none

def peekMF (obs : Obs) (i : Nat) (x : SV) : Option SV :=
  match x with
  | .cl f a b => match peekML obs i a with
    | some a' => (peekML obs i b).map (.cl f a' ·)
    | none => none
  | x => peekM obs i x

def peekMFL (obs : Obs) (i : Nat) : List SV → Option (List SV)
  | [] => some []
  | x :: r => match peekMF obs i x with
    | some y => (peekMFL obs i r).map (y :: ·)
    | none => none

/-- A call that may change a bool variable. -/
def vcCallM (P : Program) (f : FuncId) (svs : List SV) (sl : Slots) (obs : Obs) (kk : SV → K) : Prop :=
  match boolRef obs (refsA svs) with
  | some i => obs.at i fun ob => match ob with
    | .box t cs => bif boolCell cs then (match peekMFL obs i svs with
      | some l => fun k : List SV → Prop => fL l k
      | none => fun _ => False) fun l => ∃ (b : Bool) (r : PV), RetM P f l (.box t cs) (.box t [.p (.v (.bool b))]) r ∧ plain1 r = true ∧ obs.upd i (.box t [.p (.v (.bool b))]) fun obs' => fPV r fun r => kk (.p r) sl obs' else False
    | _ => False
  | none => False

def vcCall (P : Program) (f : FuncId) (svs : List SV) (sl : Slots) (obs : Obs) (kk : SV → K) : Prop :=
  match peekFL obs svs with
  | none => vcCallM P f svs sl obs kk
  | some l => fWs l fun l => ∃ (obsR : Obs) (r : SV), Ret P f l obsR r ∧ (rowsOnly obsR && okRS r) = true ∧
    (match plainS r with
    | true => fun k : SV → K => fSV r fun r => k r sl obs
    | false => fun k : SV → K => fL (refsA svs) fun is => fL (inner obs is) fun js => frzL js (frzL is fun sl obs => fL (obs ++ obsR) fun obs' => fN (len obs) fun q => fSV (shS q r) fun r => k r sl obs') sl obs) kk

def vcOp (P : Program) (F : Nat) (T : Tab) (o : Op) (sl : Slots) (obs : Obs) (k : SV → K) : Prop :=
  match opK o with
  | .pure => vcPure T o sl obs fun x => k x sl obs
  | .new => (match o with
    | .makeSlice t l c => fun kn : Ob → Prop => evP sl l fun l => evP sl c fun c => match l, c with
      | .v (.int _ l), .v (.int _ c) => vcMake2 T t l c kn
      | _, _ => False
    | o => vcNew T o sl) fun ob => obs.snoc ob fun obs' => fN (len obs) fun q => k (.ob q) sl obs'
  | .store => match o with
    | .store t x y => ev sl x fun x => ev sl y fun y => vcStore T t x y obs fun obs => k (.p (.v undef)) sl obs
    | _ => False
  | .append => match o with
    | .call c => match c.args.toList, c.argTypes.toList with
      | [s, x], [t, t'] => bif Nat.beq t t' then ev sl s fun s => ev sl x fun x => vcAppend2 T t s x obs fun x obs => k x sl obs else False
      | _, _ => False
    | _ => False
  | .call => match o with
    | .call c => match c.callee with
      | .value f => vcFn F f c.args.toList sl fun f l => vcCall P f l sl obs k
      | _ => False
    | _ => False

/-! ### Lists of operations -/

def put (N : Nat) (d : Option Nat) (x : SV) (sl : Slots) (k : Slots → Prop) : Prop :=
  match d with
  | none => k sl
  | some d => bif Nat.blt d N then k ((d, x) :: sl) else False

def vcGuard (all : List Oper) (gd : Option (Nat × Bool)) (sl : Slots) (run skip : Slots → Prop) : Prop :=
  match gd with
  | none => run sl
  | some (j, want) => match dstOf all j with
    | none => False
    | some t => fSV (sl.get t) fun g => match g with
      | .kb b => match b, want with
        | true, true => run sl
        | false, false => run sl
        | _, _ => skip sl
      | .p (.v (.bool q)) => match want with
        | true => (q = true → run ((t, .kb true) :: sl)) ∧ (q = false → skip ((t, .kb false) :: sl))
        | false => (q = false → run ((t, .kb false) :: sl)) ∧ (q = true → skip ((t, .kb true) :: sl))
      | .p (.v (.tuple _)) => skip sl
      | _ => False

/-- One operation; the continuation stands here once (the kernel compares it once). -/
def stepF (P : Program) (F : Nat) (T : Tab) (o : Op) (k : SV → K) : K := fun sl obs => vcFreeze (frzOps o sl obs) (fun sl obs => vcOp P F T o sl obs k) sl obs

def stepA (T : Tab) (o : Op) (k : SV → K) : K := fun sl obs => match o with
  | .buildSlice t _ ps => match ps.toList with
    | [(_, x)] => ev sl x fun x => vcAbsorb T t x obs fun x obs => k x sl obs
    | _ => False
  | _ => False

/-- An operation; a slice of one element either holds a row of the call's own or what nobody changes. -/
def stepP (P : Program) (F : Nat) (T : Tab) (o : Op) (k : SV → K) : K := fun sl obs => (match absorbs o sl obs with
  | false => stepF P F T o
  | true => fun k sl obs => ∃ z : Bool, (match z with
    | false => stepF P F T o
    | true => stepA T o) k sl obs) k sl obs

def stepO (P : Program) (F : Nat) (T : Tab) (N : Nat) (all : List Oper) (o : Oper) (k : K) : K := fun sl obs => vcGuard all o.guard sl
      (fun sl => stepP P F T o.op (fun x sl obs => put N o.dst x sl fun sl => k sl obs) sl obs)
      (fun sl => put N o.dst (.p (.v undef)) sl fun sl => k sl obs)

def vcOps (P : Program) (F : Nat) (T : Tab) (N : Nat) (all : List Oper) (l : List Oper) (k : K) : K :=
  List.rec (motive := fun _ => K) k (fun o _ ih => stepO P F T N all o ih) l

end Go.Pv

/- First facts on the definitions. -/
namespace Go.Pv
open Go.Vc
open Go.RowKit (Below)

theorem fPV_iff (y : PV) (k : PV → Prop) : fPV y k ↔ k y := by cases y <;> simp only [fPV, fV_iff]
theorem fSV_iff (x : SV) (k : SV → Prop) : fSV x k ↔ k x := by cases x <;> simp only [fSV, fPV_iff]

theorem at_iff (obs : Obs) (i : Nat) (k : Ob → Prop) : obs.at i k ↔ ∃ ob, obs[i]? = some ob ∧ k ob := by
  induction obs generalizing i with
  | nil => simp [Obs.at]
  | cons o r ih => cases i <;> simp [Obs.at, ih]

theorem upd_iff (obs : Obs) (i : Nat) (o : Ob) (k : Obs → Prop) : obs.upd i o k ↔ i < obs.length ∧ k (obs.set i o) := by
  induction obs generalizing i k with
  | nil => simp [Obs.upd]
  | cons x r ih => cases i <;> simp [Obs.upd, ih]

theorem fN_iff (n : Nat) (k : Nat → Prop) : fN n k ↔ k n := by
  induction n generalizing k with
  | zero => exact Iff.rfl
  | succ n ih => exact ih _

theorem snoc_iff (obs : Obs) (o : Ob) (k : Obs → Prop) : obs.snoc o k ↔ k (obs ++ [o]) := by
  induction obs generalizing k with
  | nil => simp [Obs.snoc]
  | cons x r ih => simp [Obs.snoc, ih]

theorem nth_iff (l : List SV) (i : Nat) (k : SV → Prop) : nth l i k ↔ ∃ x, l[i]? = some x ∧ k x := by
  induction l generalizing i with
  | nil => simp [nth]
  | cons o r ih => cases i <;> simp [nth, ih, fSV_iff]

theorem mapP_eq (l : List PV) : mapP l = l.map .p := by induction l <;> simp_all [mapP]
theorem weakL_eq (l : List PV) : weakL l = l.map weak := by induction l <;> simp_all [weakL]
theorem weakAll_eq (l : List PV) : weakAll l = l.map weakA := by induction l <;> simp_all [weakAll]
theorem fw1_iff (x : PV) (k : PV → Prop) : fw1 x k ↔ k (weak x) := by cases x <;> simp only [fw1, fV_iff, weak]
theorem fWL_iff (l : List PV) (k : List PV → Prop) : fWL l k ↔ k (weakL l) := by
  induction l generalizing k with
  | nil => exact Iff.rfl
  | cons x r ih => simp only [fWL, fw1_iff, ih, weakL]
theorem fwA_iff (x : PV) (k : PV → Prop) : fwA x k ↔ k (weakA x) := by cases x <;> simp only [fwA, fV_iff, weakA, fWL_iff]
theorem fWs_iff (l : List PV) (k : List PV → Prop) : fWs l k ↔ k (weakAll l) := by
  induction l generalizing k with
  | nil => exact Iff.rfl
  | cons x r ih => simp only [fWs, fwA_iff, ih, weakAll]
theorem mapZ_eq (l : List Value) : mapZ l = l.map zP := by induction l <;> simp_all [mapZ]
theorem mapZS_eq (l : List Value) : mapZS l = l.map zS := by induction l <;> simp_all [mapZS]
theorem subM_eq (i : Nat) (y : PV) (l : List SV) : subM i y l = l.map (sub1 i y) := by induction l <;> simp_all [subM]
theorem subO_eq (i : Nat) (y : PV) (l : Obs) : subO i y l = l.map (subB i y) := by induction l <;> simp_all [subO]
theorem shL_eq (n : Nat) (l : List SV) : shL n l = l.map (sh1 n) := by induction l <;> simp_all [shL]

/-! ### What stays -/

/-- The blocks of S are as they were. -/
def Keeps (S : Nat → Prop) (w w' : World) : Prop := ∀ b, S b → w'.heap[b]? = w.heap[b]?

theorem Keeps.cell {S : Nat → Prop} {w w' : World} (h : Keeps S w w') {a : Addr} (hb : S a.block) : w'.cell? a = w.cell? a := by
  unfold World.cell?
  rw [h _ hb]

theorem Keeps.of_le {S : Nat → Prop} {w w' : World} (h : Le w w') (hlt : ∀ b, S b → b < w.heap.size) : Keeps S w w' := fun b hb => Below.block h b (hlt b hb)

theorem addr_add_block (a : Addr) (n : Nat) : (a.add n).block = a.block := by
  unfold Addr.add; split <;> rfl

theorem Rep.mono {w w' : World} {S S' : Nat → Prop} (hk : Keeps S w w') (hs : ∀ b, S b → S' b) : ∀ {x : PV} {v : Value}, Rep w S x v → Rep w' S' x v := by
  intro x v h
  induction h with
  | v x => exact .v x
  | agg hl h1 _ ih => exact .agg hl h1 ih
  | nil ex a cap h hn => exact .nil ex a cap h hn
  | sl hS hn hex hl h1 hc _ ih => exact .sl (hs _ hS) hn hex hl h1 (fun j x hj => by rw [hk.cell (by rw [addr_add_block]; exact hS)]; exact hc j x hj) ih
  | fp hS hl h1 hc _ ih => exact .fp (hs _ hS) hl h1 (fun j x hj => by rw [hk.cell (by rw [addr_add_block]; exact hS)]; exact hc j x hj) ih
  | fn ha hb _ _ ih1 ih2 => exact .fn ha hb ih1 ih2

theorem Rep.nil0 {w : World} {S : Nat → Prop} (ex : Bool) : Rep w S (.sl ex 0 []) (.slice none 0 0) := .nil ex none 0 (fun _ => rfl) (fun _ => rfl)

theorem Rep.of_v {w : World} {S : Nat → Prop} {x v : Value} (h : Rep w S (.v x) v) : v = x := by cases h; rfl

theorem RepL.mono {w w' : World} {S S' : Nat → Prop} (hk : Keeps S w w') (hs : ∀ b, S b → S' b) {l : List PV} {xs : List Value} (h : RepL (Rep w S) l xs) : RepL (Rep w' S') l xs :=
  ⟨h.1, fun j p x hp hx => (h.2 j p x hp hx).mono hk hs⟩

theorem Den.mono {ρ ρ' : Nat → Value} {n n' : Nat → Prop} {w w' : World} {S S' : Nat → Prop} (hk : Keeps S w w') (hs : ∀ b, S b → S' b) (hn : ∀ i, n i → n' i) (hρ : ∀ i, n i → ρ' i = ρ i) : ∀ {x : SV} {v : Value}, Den ρ n w S x v → Den ρ' n' w' S' x v := by
  intro x v h
  induction h with
  | p h => exact .p (h.mono hk hs)
  | kb b => exact .kb b
  | any v => exact .any v
  | nil => exact .nil
  | ob hi => rw [← hρ _ hi]; exact .ob (hn _ hi)
  | pt hi hb => exact .pt (hn _ hi) (by rw [hρ _ hi]; exact hb)
  | ag hl h1 _ ih => exact .ag hl h1 ih
  | tup hl _ ih => exact .tup hl ih
  | cl ha hb _ _ ih1 ih2 => exact .cl ha hb ih1 ih2

theorem DenL.mono {ρ ρ' : Nat → Value} {n n' : Nat → Prop} {w w' : World} {S S' : Nat → Prop} (hk : Keeps S w w') (hs : ∀ b, S b → S' b) (hn : ∀ i, n i → n' i) (hρ : ∀ i, n i → ρ' i = ρ i) {l : List SV} {xs : List Value} (h : DenL ρ n w S l xs) : DenL ρ' n' w' S' l xs :=
  ⟨h.1, fun j p x hp hx => (h.2 j p x hp hx).mono hk hs hn hρ⟩

theorem _root_.Go.Vc.RowOk.keep {w w' : World} {e : TypeId} {sz m : Nat} {xs : List Value} {ex : Bool} {x : Value} (hh : ∀ g, blk x = some g → w'.heap[g]? = w.heap[g]?) (h : RowOk w e sz m xs ex x) : RowOk w' e sz m xs ex x := by
  obtain ⟨h2, h3⟩ := h
  refine ⟨h2, ?_⟩
  rcases h3 with h3 | ⟨g, cap, cur, rfl, hg, r⟩
  · exact .inl h3
  · exact .inr ⟨g, cap, cur, rfl, by rw [hh g rfl]; exact hg, r⟩

theorem _root_.Go.Vc.RowOk.uniq {w : World} {e e' : TypeId} {sz m : Nat} {xs ys : List Value} {ex ex' : Bool} {x : Value} (h : RowOk w e sz m xs ex x) (h' : RowOk w e' sz m ys ex' x) : xs = ys := by
  obtain ⟨h1, h2⟩ := h
  obtain ⟨h3, h4⟩ := h'
  rcases h2 with ⟨rfl, rfl⟩ | ⟨g, cap, cur, rfl, hg, _, _, _, ht, _⟩
  · have e1 : xs = [] := List.eq_nil_of_length_eq_zero (by simpa using h1)
    have e2 : ys = [] := List.eq_nil_of_length_eq_zero (by simpa using h3)
    rw [e1, e2]
  · rcases h4 with ⟨h, _⟩ | ⟨g', cap', cur', hx, hg', _, _, _, ht', _⟩
    · cases h
    · cases hx
      rw [hg] at hg'
      cases hg'
      rw [← ht, ← ht']

theorem _root_.Go.Vc.RowOk.lt {w : World} {e : TypeId} {sz m : Nat} {xs : List Value} {ex : Bool} {x : Value} (h : RowOk w e sz m xs ex x) {b : Nat} (hb : blk x = some b) : b < w.heap.size := by
  rcases h.2 with ⟨rfl, _⟩ | ⟨g, cap, cur, rfl, hg, _⟩
  · cases hb
  · simp only [blk, Option.some.injEq] at hb
    subst hb
    exact (Array.getElem?_eq_some_iff.1 hg).1

theorem Owns.blk {w : World} {ob : Ob} {x : Value} {b : Nat} (h : Go.Vc.blk x = some b) : Owns w ob x b := .inl h

/-- Not a row of rows. -/
def flatOb : Ob → Bool
  | .nest _ _ _ _ _ => false
  | _ => true

theorem Owns.flat {w : World} {ob : Ob} {x : Value} {b : Nat} (h : Owns w ob x b) (hf : flatOb ob = true) : Go.Vc.blk x = some b := by
  rcases h with h | ⟨e, sz, m, cs, hh, xs, j, rfl, _⟩
  · exact h
  · cases hf

theorem Owns.back {w w' : World} {ob : Ob} {x : Value} {b : Nat} (hh : ∀ g, Go.Vc.blk x = some g → w'.heap[g]? = w.heap[g]?) (h : Owns w' ob x b) : Owns w ob x b := by
  rcases h with h | ⟨e, sz, m, cs, hl, xs, j, h1, h2, h3⟩
  · exact .inl h
  · exact .inr ⟨e, sz, m, cs, hl, xs, j, h1, h2.keep fun g hg => (hh g hg).symm, h3⟩

theorem NcOk.mono {w w' : World} {S S' : Nat → Prop} {c : NC} {v : Value} (hh : ∀ g, isOw c = true → Go.Vc.blk v = some g → w'.heap[g]? = w.heap[g]?) (hk : Keeps S w w') (hs : ∀ b, S b → S' b) (h : NcOk w S c v) : NcOk w' S' c v := by
  cases c with
  | pu p => exact Rep.mono hk hs h
  | ow e sz m l =>
    obtain ⟨ys, h1, h2, h3⟩ := h
    exact ⟨ys, h1.keep (fun g hg => hh g rfl hg), h2.mono hk hs, h3⟩

theorem ObOk.mono {ρ ρ' : Nat → Value} {n n' : Nat → Prop} {w w' : World} {S S' : Nat → Prop} {ob : Ob} {x : Value} (hh : ∀ g, ob.live = true → Owns w ob x g → w'.heap[g]? = w.heap[g]?) (hk : Keeps S w w') (hs : ∀ b, S b → S' b) (hn : ∀ i, n i → n' i) (hρ : ∀ i, n i → ρ' i = ρ i)
    (h : ObOk ρ n w S ob x) : ObOk ρ' n' w' S' ob x := by
  cases ob with
  | box t cs =>
    obtain ⟨b, xs, rfl, hb, hd, h1⟩ := h
    exact ⟨b, xs, rfl, by rw [hh b rfl (.inl rfl)]; exact hb, hd.mono hk hs hn hρ, h1⟩
  | arr t cs =>
    obtain ⟨b, xs, rfl, hb, hd, h1⟩ := h
    exact ⟨b, xs, rfl, by rw [hh b rfl (.inl rfl)]; exact hb, hd.mono hk hs, h1⟩
  | row e sz m ex cs =>
    obtain ⟨xs, hr, hd, h1⟩ := h
    exact ⟨xs, hr.keep fun g hg => hh g rfl (.inl hg), hd.mono hk hs, h1⟩
  | nest e sz m cs hl =>
    obtain ⟨xs, hr, h1, h2, h3, h4, h5, h6⟩ := h
    refine ⟨xs, hr.keep fun g hg => hh g rfl (.inl hg), h1, h2, fun j c v hc hv ho => ?_, fun p y hp => ?_, h5, h6⟩
    · exact (h3 j c v hc hv ho).mono (fun g hw hg => hh g rfl (.inr ⟨e, sz, m, cs, hl, xs, j, rfl, hr, c, v, hc, hw, ho, hv, hg⟩)) hk hs
    · obtain ⟨v, hv, hd⟩ := h4 p y hp
      exact ⟨v, hv, hd.mono hk hs hn hρ⟩
  | dead => exact trivial

theorem ObOk.lt {ρ : Nat → Value} {n : Nat → Prop} {w : World} {S : Nat → Prop} {ob : Ob} {x : Value} (h : ObOk ρ n w S ob x) (hl : ob.live = true) {b : Nat} (hb : Owns w ob x b) : b < w.heap.size := by
  cases ob with
  | box t cs =>
    obtain ⟨b', xs, rfl, hh, _⟩ := h
    have hb := hb.flat rfl
    simp only [Go.Vc.blk, Option.some.injEq] at hb
    subst hb
    exact (Array.getElem?_eq_some_iff.1 hh).1
  | arr t cs =>
    obtain ⟨b', xs, rfl, hh, _⟩ := h
    have hb := hb.flat rfl
    simp only [Go.Vc.blk, Option.some.injEq] at hb
    subst hb
    exact (Array.getElem?_eq_some_iff.1 hh).1
  | row e sz m ex cs =>
    obtain ⟨xs, hr, _⟩ := h
    exact hr.lt (hb.flat rfl)
  | nest e sz m cs hl =>
    obtain ⟨xs, hr, h1, h2, h3, h4, h5, h6⟩ := h
    rcases hb with hb | ⟨e', sz', m', cs', hl', xs', j, he, hr', c, v, hc, hw, ho, hv, hg⟩
    · exact hr.lt hb
    · cases he
      have := hr.uniq hr'
      subst this
      have := h3 j c v hc hv ho
      cases c with
      | pu p => cases hw
      | ow e sz m l =>
        obtain ⟨ys, h7, _⟩ := this
        exact h7.lt hg
  | dead => cases hl

/-- The cells of an object: at least its contents. -/
theorem ObOk.cells {ρ : Nat → Value} {n : Nat → Prop} {w : World} {S : Nat → Prop} {ob : Ob} {x : Value} (h : ObOk ρ n w S ob x) (hl : ob.live = true) {b : Nat} (hb : blk x = some b) :
    ∃ (cur : Array Value) (e : TypeId) (xs : List Value), w.heap[b]? = some (.cells cur e (0, 0)) ∧ xs.length ≤ cur.size ∧ cur.toList.take xs.length = xs ∧ Ones xs ∧
      (match ob with | .box _ cs => DenL ρ n w S cs xs | .arr _ cs => RepL (Rep w S) cs xs | .row _ _ _ _ cs => RepL (Rep w S) cs xs | .nest e sz m cs h => RowOk w e sz m xs false x ∧ cs.length = xs.length ∧ (∀ j c v, cs[j]? = some c → xs[j]? = some v → Off h j → NcOk w S c v) ∧ (∀ p y, h = some (p, y) → ∃ v, xs[p]? = some v ∧ Den ρ n w S y v) | .dead => True) := by
  cases ob with
  | box t cs =>
    obtain ⟨b', xs, rfl, hh, hd, h1⟩ := h
    simp only [blk, Option.some.injEq] at hb
    subst hb
    exact ⟨_, _, xs, hh, by simp, by simp, h1, hd⟩
  | arr t cs =>
    obtain ⟨b', xs, rfl, hh, hd, h1⟩ := h
    simp only [blk, Option.some.injEq] at hb
    subst hb
    exact ⟨_, _, xs, hh, by simp, by simp, h1, hd⟩
  | row e sz m ex cs =>
    obtain ⟨xs, hr, hd, h1⟩ := h
    obtain ⟨h2, hr⟩ := hr
    rcases hr with ⟨rfl, _⟩ | ⟨g, cap, cur, rfl, hg, hnc, _, hcs, ht, _⟩
    · cases hb
    · simp only [blk, Option.some.injEq] at hb
      subst hb
      refine ⟨cur, _, xs, hg, ?_, by rw [h2]; exact ht, h1, hd⟩
      rw [h2, hcs]
      exact Nat.mul_le_mul_right _ hnc
  | nest e sz m cs hole =>
    obtain ⟨xs, hr, hd1, h1, hd2, hd3, _, _⟩ := h
    have hr0 := hr
    obtain ⟨h2, hr⟩ := hr
    rcases hr with ⟨rfl, _⟩ | ⟨g, cap, cur, rfl, hg, hnc, _, hcs, ht, _⟩
    · cases hb
    · simp only [blk, Option.some.injEq] at hb
      subst hb
      refine ⟨cur, _, xs, hg, ?_, by rw [h2]; exact ht, h1, hr0, hd1, hd2, hd3⟩
      rw [h2, hcs]
      exact Nat.mul_le_mul_right _ hnc
  | dead => cases hl

section
variable {w0 w w' : World} {S0 : Fr} {S : Nat → Prop} {obs : Obs} {ρ : Nat → Value}

theorem SatW.keeps (h : SatW w0 S0 obs ρ S w) (hl : Le w w') : Keeps S w w' := Keeps.of_le hl h.lt

theorem LeM.trans {m : Nat → Prop} {w w' w'' : World} (h : LeM m w w') (h' : Le w' w'') : LeM m w w'' :=
  ⟨h'.os.trans h.os, h'.tape.trans h.tape, h'.output.trans h.output, Nat.le_trans h.size h'.size, fun k hk hm => (Below.block h' k (Nat.lt_of_lt_of_le hk h.size)).trans (h.block k hk hm)⟩

theorem LeM.refl (m : Nat → Prop) (w : World) : LeM m w w := ⟨rfl, rfl, rfl, Nat.le_refl _, fun _ _ _ => rfl⟩

theorem LeM.toLe {m : Nat → Prop} {w w' : World} (h : LeM m w w') (hm : ∀ b, ¬ m b) : Le w w' := ⟨h.os, h.tape, h.output, h.size, fun k hk => h.block k hk (hm k)⟩

theorem SatW.toLe {S1 : Nat → Prop} (h : SatW w0 (Fr.of S1) obs ρ S w) : Le w0 w := h.le.toLe fun _ h => h

theorem SatW.owned (h : SatW w0 S0 obs ρ S w) {i : Nat} {ob : Ob} (hi : obs[i]? = some ob) (hl : ob.live = true) {b : Nat} (hb : Owns w ob (ρ i) b) : b < w.heap.size := (h.objs i ob hi).lt hl hb

/-- What an object owns is the same after a change elsewhere. -/
theorem SatW.same (h : SatW w0 S0 obs ρ S w) {i : Nat} {ob : Ob} (hi : obs[i]? = some ob) (hl : ob.live = true) (hch : ∀ g, Owns w ob (ρ i) g → w'.heap[g]? = w.heap[g]?) {b : Nat} (hb : Owns w' ob (ρ i) b) : Owns w ob (ρ i) b :=
  hb.back fun g hg => hch g (.inl hg)

theorem SatW.mono (h : SatW w0 S0 obs ρ S w) (hl : Le w w') : SatW w0 S0 obs ρ S w' := by
  have hch : ∀ i ob, obs[i]? = some ob → ob.live = true → ∀ g, Owns w ob (ρ i) g → w'.heap[g]? = w.heap[g]? := fun i ob hi hlv g hg => Below.block hl _ (h.owned hi hlv hg)
  exact ⟨fun i ob hi => (h.objs i ob hi).mono (fun g hlv hg => hch i ob hi hlv g hg) (h.keeps hl) (fun _ hb => hb) (fun _ h => h) (fun _ _ => rfl),
   fun i j oi oj b hi hj li lj bi bj => h.dist i j oi oj b hi hj li lj (h.same hi li (hch i oi hi li) bi) (h.same hj lj (hch j oj hj lj) bj),
   fun i ob b hi hlv hb => h.own i ob b hi hlv (h.same hi hlv (hch i ob hi hlv) hb), h.sub, fun b hb => Nat.lt_of_lt_of_le (h.lt b hb) (Below.size hl), h.new, h.le.trans hl, h.plain, h.pins⟩

/-- More blocks that nobody changes. -/
theorem SatW.more (h : SatW w0 S0 obs ρ S w) {S' : Nat → Prop} (hs : ∀ b, S b → S' b) (hlt : ∀ b, S' b → b < w.heap.size) (hnew : ∀ b, S' b → S b ∨ ((w0.heap.size ≤ b ∨ S0.m b) ∧ ∀ i ob, obs[i]? = some ob → ob.live = true → ¬ Owns w ob (ρ i) b)) : SatW w0 S0 obs ρ S' w :=
  ⟨fun i ob hi => (h.objs i ob hi).mono (fun _ _ _ => rfl) (fun _ _ => rfl) hs (fun _ h => h) (fun _ _ => rfl), h.dist,
   fun i ob b hi hl hb => ⟨(h.own i ob b hi hl hb).1, fun hS => by
     rcases hnew b hS with h1 | ⟨_, h1⟩
     · exact (h.own i ob b hi hl hb).2 h1
     · exact h1 i ob hi hl hb⟩,
   fun b hb => hs b (h.sub b hb), hlt, fun b hb => by
     rcases hnew b hb with h1 | ⟨h1, _⟩
     · exact h.new b h1
     · exact .inr h1, h.le, h.plain, h.pins⟩

def updρ (ρ : Nat → Value) (i : Nat) (x : Value) : Nat → Value := fun j => if j = i then x else ρ j

theorem updρ_lt {i n : Nat} {x : Value} (h : i < n) : updρ ρ n x i = ρ i := by rw [updρ, if_neg (by omega)]
theorem updρ_eq {n : Nat} {x : Value} : updρ ρ n x n = x := by rw [updρ, if_pos rfl]

theorem get_snoc {obs : Obs} {ob o : Ob} {i : Nat} (h : (obs ++ [ob])[i]? = some o) : (i < obs.length ∧ obs[i]? = some o) ∨ (i = obs.length ∧ o = ob) := by
  by_cases hi : i < obs.length
  · rw [List.getElem?_append_left hi] at h; exact .inl ⟨hi, h⟩
  · rw [List.getElem?_append_right (by omega)] at h
    have : i - obs.length = 0 := by
      have := (List.getElem?_eq_some_iff.1 h).1
      simp at this; omega
    rw [this] at h
    simp at h
    exact .inr ⟨by omega, h.symm⟩

theorem get_set {obs : Obs} {ob o : Ob} {i j : Nat} (h : (obs.set i ob)[j]? = some o) : (i ≠ j ∧ obs[j]? = some o) ∨ (i = j ∧ j < obs.length ∧ o = ob) := by
  by_cases hij : i = j
  · subst hij
    have hlt : i < obs.length := by simpa using (List.getElem?_eq_some_iff.1 h).1
    rw [List.getElem?_set_self hlt] at h
    exact .inr ⟨rfl, hlt, by simpa using h.symm⟩
  · rw [List.getElem?_set_ne hij] at h
    exact .inl ⟨hij, h⟩

/-- A new object, in blocks that are not any other's. -/
theorem SatW.snoc' (h : SatW w0 S0 obs ρ S w) {ob : Ob} {x : Value} (hx : ObOk ρ (Lt obs.length) w S ob x) (hb : ∀ b, Owns w ob x b → (w0.heap.size ≤ b ∨ S0.m b) ∧ ¬ S b ∧ ∀ i oi, obs[i]? = some oi → oi.live = true → ¬ Owns w oi (ρ i) b) (hpl : Plain x) :
    SatW w0 S0 (obs ++ [ob]) (updρ ρ obs.length x) S w := by
  refine ⟨?_, ?_, ?_, h.sub, h.lt, h.new, h.le, fun i hi => ?_, fun i v hp => ⟨(updρ_lt (h.pins i v hp).2).trans (h.pins i v hp).1, by rw [List.length_append]; exact Nat.lt_add_right _ (h.pins i v hp).2⟩⟩
  · intro i o hi
    rw [List.length_append, List.length_singleton]
    rcases get_snoc hi with ⟨h1, h2⟩ | ⟨rfl, rfl⟩
    · rw [updρ_lt h1]
      exact (h.objs i o h2).mono (fun _ _ _ => rfl) (fun _ _ => rfl) (fun _ h => h) (fun j hj => Nat.lt_succ_of_lt hj) (fun j hj => updρ_lt hj)
    · rw [updρ_eq]
      exact hx.mono (fun _ _ _ => rfl) (fun _ _ => rfl) (fun _ h => h) (fun j hj => Nat.lt_succ_of_lt hj) (fun j hj => updρ_lt hj)
  · intro i j oi oj b hi hj li lj bi bj
    rcases get_snoc hi with ⟨h1, h2⟩ | ⟨rfl, rfl⟩ <;> rcases get_snoc hj with ⟨h3, h4⟩ | ⟨rfl, rfl⟩
    · rw [updρ_lt h1] at bi
      rw [updρ_lt h3] at bj
      exact h.dist i j oi oj b h2 h4 li lj bi bj
    · rw [updρ_eq] at bj
      rw [updρ_lt h1] at bi
      exact absurd bi ((hb b bj).2.2 i oi h2 li)
    · rw [updρ_eq] at bi
      rw [updρ_lt h3] at bj
      exact absurd bj ((hb b bi).2.2 j oj h4 lj)
    · rfl
  · intro i o b hi hlive bb
    rcases get_snoc hi with ⟨h1, h2⟩ | ⟨rfl, rfl⟩
    · rw [updρ_lt h1] at bb
      exact h.own i o b h2 hlive bb
    · rw [updρ_eq] at bb
      exact ⟨(hb b bb).1, (hb b bb).2.1⟩
  · simp at hi
    by_cases h1 : i < obs.length
    · rw [updρ_lt h1]; exact h.plain i h1
    · have : i = obs.length := by omega
      subst this
      rw [updρ_eq]; exact hpl

/-- A new object, in a block that is new. -/
theorem SatW.snoc (h : SatW w0 S0 obs ρ S w) (hl : Le w w') {ob : Ob} {x : Value} (hx : ObOk ρ (Lt obs.length) w' S ob x) (hb : ∀ b, Owns w' ob x b → w.heap.size ≤ b) (hpl : Plain x) :
    SatW w0 S0 (obs ++ [ob]) (updρ ρ obs.length x) S w' := by
  have hm := h.mono hl
  refine hm.snoc' hx (fun b bb => ⟨.inl ?_, fun hS => ?_, fun i oi hi hl' hbi => ?_⟩) hpl
  · have h1 := hb b bb
    have h2 := h.le.size
    omega
  · have h1 := hb b bb
    have := h.lt b hS
    omega
  · have h1 := hb b bb
    have := h.owned hi hl' (h.same hi hl' (fun g hg => Below.block hl _ (h.owned hi hl' hg)) hbi)
    omega

/-- A store into the blocks of object i. -/
theorem SatW.store (h : SatW w0 S0 obs ρ S w) {i g : Nat} {ob ob' : Ob} (hi : obs[i]? = some ob) (hlive : ob.live = true) (hg : Owns w ob (ρ i) g) (hch : Ch g w w') (hob : ObOk ρ (Lt obs.length) w' S ob' (ρ i)) (hsub : ∀ b, ob'.live = true → Owns w' ob' (ρ i) b → Owns w ob (ρ i) b) :
    SatW w0 S0 (obs.set i ob') ρ S w' := by
  have hk : Keeps S w w' := fun b hb => hch.block b (h.lt b hb) fun e => by subst e; exact (h.own i ob b hi hlive hg).2 hb
  have hne : ∀ j o, i ≠ j → obs[j]? = some o → o.live = true → ∀ g', Owns w o (ρ j) g' → w'.heap[g']? = w.heap[g']? := by
    intro j o hij ho hl g' hg'
    refine hch.block g' (h.owned ho hl hg') fun e => ?_
    subst e
    exact hij (h.dist i j ob o g' hi ho hlive hl hg hg')
  have hother : ∀ j o, i ≠ j → obs[j]? = some o → ObOk ρ (Lt obs.length) w' S o (ρ j) := by
    intro j o hij ho
    exact (h.objs j o ho).mono (fun g' hl hg' => hne j o hij ho hl g' hg') hk (fun _ h => h) (fun _ h => h) (fun _ _ => rfl)
  have hown : ∀ j o b, (obs.set i ob')[j]? = some o → o.live = true → Owns w' o (ρ j) b → ∃ o', obs[j]? = some o' ∧ o'.live = true ∧ Owns w o' (ρ j) b := by
    intro j o b ho hl hb
    rcases get_set ho with ⟨h1, h2⟩ | ⟨rfl, _, rfl⟩
    · exact ⟨o, h2, hl, h.same h2 hl (hne j o h1 h2 hl) hb⟩
    · exact ⟨ob, hi, hlive, hsub b hl hb⟩
  refine ⟨?_, ?_, ?_, h.sub, fun b hb => Nat.lt_of_lt_of_le (h.lt b hb) hch.size, h.new, ?_, by simpa using h.plain, by simpa using h.pins⟩
  · intro j o ho
    rw [List.length_set]
    rcases get_set ho with ⟨h1, h2⟩ | ⟨rfl, _, rfl⟩
    · exact hother j o h1 h2
    · exact hob
  · intro j k oj ok b hj hk lj lk bj bk
    obtain ⟨o1, a1, a2, a3⟩ := hown j oj b hj lj bj
    obtain ⟨o2, b1, b2, b3⟩ := hown k ok b hk lk bk
    exact h.dist j k o1 o2 b a1 b1 a2 b2 a3 b3
  · intro j o b ho hl hb
    obtain ⟨o1, a1, a2, a3⟩ := hown j o b ho hl hb
    exact h.own j o1 b a1 a2 a3
  · have hle := h.le
    have hf := (h.own i ob g hi hlive hg).1
    exact ⟨hch.os.trans hle.os, hch.tape.trans hle.tape, hch.output.trans hle.output, Nat.le_trans hle.size hch.size,
      fun k hk hm => (hch.block k (by have := hle.size; omega) (by rintro rfl; rcases hf with h | h; omega; exact hm h)).trans (hle.block k hk hm)⟩

/-- An object is given up. -/
theorem SatW.kill (h : SatW w0 S0 obs ρ S w) (i : Nat) : SatW w0 S0 (obs.set i .dead) ρ S w := by
  refine ⟨?_, ?_, ?_, h.sub, h.lt, h.new, h.le, by simpa using h.plain, by simpa using h.pins⟩
  · intro j o ho
    rw [List.length_set]
    rcases get_set ho with ⟨h1, h2⟩ | ⟨rfl, _, rfl⟩
    · exact h.objs j o h2
    · trivial
  · intro j k oj ok b hj hk lj lk bj bk
    rcases get_set hj with ⟨h1, h2⟩ | ⟨rfl, _, rfl⟩
    · rcases get_set hk with ⟨h3, h4⟩ | ⟨rfl, _, rfl⟩
      · exact h.dist j k oj ok b h2 h4 lj lk bj bk
      · cases lk
    · cases lj
  · intro j o b ho hl hb
    rcases get_set ho with ⟨h1, h2⟩ | ⟨rfl, _, rfl⟩
    · exact h.own j o b h2 hl hb
    · cases hl

end

/-- The slots. -/
structure SatA (N : Nat) (sl : Slots) (n : Nat → Prop) (ρ : Nat → Value) (S : Nat → Prop) (w : World) (a : Act) : Prop where
  size : a.tmps.size = N
  defs : a.defers = []
  slots : ∀ t, Den ρ n w S (sl.get t) (a.tmps.getD t undef)

section
variable {N : Nat} {sl : Slots} {n n' : Nat → Prop} {ρ ρ' : Nat → Value} {S S' : Nat → Prop} {w w' : World} {a : Act}

theorem SatA.mono (h : SatA N sl n ρ S w a) (hk : Keeps S w w') (hs : ∀ b, S b → S' b) (hn : ∀ i, n i → n' i) (hρ : ∀ i, n i → ρ' i = ρ i) : SatA N sl n' ρ' S' w' a :=
  ⟨h.size, h.defs, fun t => (h.slots t).mono hk hs hn hρ⟩

theorem get_cons (d t : Nat) (x : SV) (sl : Slots) : Slots.get ((d, x) :: sl) t = if d = t then x else Slots.get sl t := by
  by_cases h : d = t
  · subst h; simp [Slots.get]
  · have : Nat.beq d t = false := by rw [Bool.eq_false_iff]; intro h'; exact h (Nat.eq_of_beq_eq_true h')
    simp [Slots.get, this, h]

theorem SatA.put (h : SatA N sl n ρ S w a) {d : Option Nat} {sv : SV} {v : Value} (hd : Den ρ n w S sv v)
    {k : Slots → Prop} (hk : put N d sv sl k) : ∃ sl', k sl' ∧ SatA N sl' n ρ S w (a.put d v) := by
  cases d with
  | none => exact ⟨sl, hk, h.size, h.defs, h.slots⟩
  | some d =>
    simp only [Pv.put, cond_false_iff] at hk
    obtain ⟨hlt, hk⟩ := hk
    have hlt : d < N := by simpa [Nat.blt_eq] using hlt
    refine ⟨_, hk, by simp [Act.put, h.size], h.defs, fun t => ?_⟩
    rw [get_cons]
    by_cases hdt : d = t
    · subst hdt
      rw [if_pos rfl]
      have : (a.put (some d) v).tmps.getD d undef = v := by simp [Act.put, h.size, hlt]
      rw [this]; exact hd
    · rw [if_neg hdt]
      have : (a.put (some d) v).tmps.getD t undef = a.tmps.getD t undef := by simp [Act.put, Array.getElem?_setIfInBounds_ne hdt]
      rw [this]
      exact h.slots t

theorem constSV_den (v : Value) : Den ρ n w S (constSV v) v := by
  unfold constSV
  split
  · exact .kb _
  · exact .nil
  · exact .p (.v _)

theorem ev_spec (h : SatA N sl n ρ S w a) {x : Operand} {k : SV → Prop} (hk : ev sl x k) : ∃ sv, k sv ∧ Den ρ n w S sv (a.eval x) := by
  cases x with
  | tmp t => exact ⟨sl.get t, (fSV_iff _ _).1 hk, h.slots t⟩
  | const v => exact ⟨_, (fSV_iff _ _).1 hk, constSV_den v⟩
  | global g => exact hk.elim
  | func f => exact ⟨_, hk, .p (.fn (xa := []) (xb := []) rfl rfl (by simp) (by simp))⟩

theorem denL_cons {x : SV} {v : Value} {l : List SV} {xs : List Value} (h : Den ρ n w S x v) (hr : DenL ρ n w S l xs) : DenL ρ n w S (x :: l) (v :: xs) :=
  ⟨by simp [hr.1], fun j p y hp hy => by
    cases j with
    | zero => simp at hp hy; subst hp hy; exact h
    | succ j => exact hr.2 j p y (by simpa using hp) (by simpa using hy)⟩

theorem denL_nil : DenL ρ n w S [] [] := ⟨rfl, fun j p y hp => by simp at hp⟩

theorem repL_cons {x : PV} {v : Value} {l : List PV} {xs : List Value} (h : Rep w S x v) (hr : RepL (Rep w S) l xs) : RepL (Rep w S) (x :: l) (v :: xs) :=
  ⟨by simp [hr.1], fun j p y hp hy => by
    cases j with
    | zero => simp at hp hy; subst hp hy; exact h
    | succ j => exact hr.2 j p y (by simpa using hp) (by simpa using hy)⟩

theorem repL_nil : RepL (Rep w S) [] [] := ⟨rfl, fun j p y hp => by simp at hp⟩

theorem denL_uncons {x : SV} {l : List SV} {xs : List Value} (h : DenL ρ n w S (x :: l) xs) : ∃ v r, xs = v :: r ∧ Den ρ n w S x v ∧ DenL ρ n w S l r := by
  cases xs with
  | nil => exact absurd h.1 (by simp)
  | cons v r => exact ⟨v, r, rfl, h.2 0 x v rfl rfl, by simpa using h.1, fun j p y hp hy => h.2 (j + 1) p y (by simpa using hp) (by simpa using hy)⟩

theorem repL_uncons {x : PV} {l : List PV} {xs : List Value} (h : RepL (Rep w S) (x :: l) xs) : ∃ v r, xs = v :: r ∧ Rep w S x v ∧ RepL (Rep w S) l r := by
  cases xs with
  | nil => exact absurd h.1 (by simp)
  | cons v r => exact ⟨v, r, rfl, h.2 0 x v rfl rfl, by simpa using h.1, fun j p y hp hy => h.2 (j + 1) p y (by simpa using hp) (by simpa using hy)⟩

theorem repL_app {l l' : List PV} {xs xs' : List Value} (h : RepL (Rep w S) l xs) (h' : RepL (Rep w S) l' xs') : RepL (Rep w S) (l ++ l') (xs ++ xs') := by
  refine ⟨by simp [h.1, h'.1], fun j p x hp hx => ?_⟩
  by_cases hj : j < l.length
  · rw [List.getElem?_append_left hj] at hp
    rw [List.getElem?_append_left (by rw [← h.1]; exact hj)] at hx
    exact h.2 j p x hp hx
  · rw [List.getElem?_append_right (by omega)] at hp
    rw [List.getElem?_append_right (by rw [← h.1]; omega), ← h.1] at hx
    exact h'.2 _ p x hp hx

theorem repL_take {l : List PV} {xs : List Value} (h : RepL (Rep w S) l xs) (m : Nat) : RepL (Rep w S) (l.take m) (xs.take m) :=
  ⟨by simp [h.1], fun j p x hp hx => by
    rw [List.getElem?_take] at hp hx
    split at hp
    · rename_i hj; rw [if_pos hj] at hx; exact h.2 j p x hp hx
    · cases hp⟩

theorem repL_drop {l : List PV} {xs : List Value} (h : RepL (Rep w S) l xs) (m : Nat) : RepL (Rep w S) (l.drop m) (xs.drop m) :=
  ⟨by simp [h.1], fun j p x hp hx => by
    rw [List.getElem?_drop] at hp hx
    exact h.2 _ p x hp hx⟩

theorem denL_take {l : List SV} {xs : List Value} (h : DenL ρ n w S l xs) (m : Nat) : DenL ρ n w S (l.take m) (xs.take m) :=
  ⟨by simp [h.1], fun j p x hp hx => by
    rw [List.getElem?_take] at hp hx
    split at hp
    · rename_i hj; rw [if_pos hj] at hx; exact h.2 j p x hp hx
    · cases hp⟩

theorem denL_drop {l : List SV} {xs : List Value} (h : DenL ρ n w S l xs) (m : Nat) : DenL ρ n w S (l.drop m) (xs.drop m) :=
  ⟨by simp [h.1], fun j p x hp hx => by
    rw [List.getElem?_drop] at hp hx
    exact h.2 _ p x hp hx⟩

theorem denL_app {l l' : List SV} {xs xs' : List Value} (h : DenL ρ n w S l xs) (h' : DenL ρ n w S l' xs') : DenL ρ n w S (l ++ l') (xs ++ xs') := by
  refine ⟨by simp [h.1, h'.1], fun j p x hp hx => ?_⟩
  by_cases hj : j < l.length
  · rw [List.getElem?_append_left hj] at hp
    rw [List.getElem?_append_left (by rw [← h.1]; exact hj)] at hx
    exact h.2 j p x hp hx
  · rw [List.getElem?_append_right (by omega)] at hp
    rw [List.getElem?_append_right (by rw [← h.1]; omega), ← h.1] at hx
    exact h'.2 _ p x hp hx

theorem evs_spec (h : SatA N sl n ρ S w a) : ∀ (xs : List Operand) {k : List SV → Prop}, evs sl xs k → ∃ l, k l ∧ DenL ρ n w S l (xs.map a.eval)
  | [], _, hk => ⟨[], hk, denL_nil⟩
  | x :: r, k, hk => by
    obtain ⟨sv, hk, hd⟩ := ev_spec h hk
    obtain ⟨l, hk, hr⟩ := evs_spec h r hk
    exact ⟨_, hk, denL_cons hd hr⟩

/-- Parts: their numbers, and what they mean. -/
def DenPs (ρ : Nat → Value) (n : Nat → Prop) (w : World) (S : Nat → Prop) : List (Nat × SV) → List (Nat × Value) → Prop
  | [], [] => True
  | (i, x) :: r, (j, v) :: s => i = j ∧ Den ρ n w S x v ∧ DenPs ρ n w S r s
  | _, _ => False

theorem evParts_spec (h : SatA N sl n ρ S w a) : ∀ (ps : List (Nat × Operand)) {k : List (Nat × SV) → Prop}, evParts sl ps k → ∃ l, k l ∧ DenPs ρ n w S l (ps.map fun p => (p.1, a.eval p.2))
  | [], _, hk => ⟨[], hk, trivial⟩
  | (i, x) :: r, k, hk => by
    obtain ⟨sv, hk, hd⟩ := ev_spec h hk
    obtain ⟨l, hk, hr⟩ := evParts_spec h r hk
    exact ⟨_, hk, rfl, hd, hr⟩

theorem pures_spec : ∀ {l : List SV} {lp : List PV} {xs : List Value}, pures l = some lp → DenL ρ n w S l xs → RepL (Rep w S) lp xs
  | [], lp, xs, h, hd => by
    simp only [pures, Option.some.injEq] at h
    subst h
    exact ⟨hd.1, fun j p y hp => by simp at hp⟩
  | x :: r, lp, xs, h, hd => by
    obtain ⟨v, rs, rfl, h1, h2⟩ := denL_uncons hd
    cases x <;> simp only [pures, Option.map_eq_some_iff] at h <;> first | (cases h; done) | (obtain ⟨lp', h3, rfl⟩ := h)
    · cases h1 with
      | p hr => exact repL_cons hr (pures_spec h3 h2)
    · cases h1; exact repL_cons (.v _) (pures_spec h3 h2)
    · cases h1; exact repL_cons (Rep.nil0 _) (pures_spec h3 h2)

theorem toP_spec {sv : SV} {v : Value} (hd : Den ρ n w S sv v) {k : PV → Prop} (h : toP sv k) : ∃ y, k y ∧ Rep w S y v := by
  cases hd with
  | p hr => exact ⟨_, h, hr⟩
  | kb b => exact ⟨_, h, .v _⟩
  | nil => exact ⟨_, h, Rep.nil0 _⟩
  | ag hl h1 hh =>
    rename_i l xs
    simp only [toP] at h
    cases hp : pures l with
    | none => simp only [hp] at h
    | some lp =>
      simp only [hp] at h
      have := pures_spec hp (⟨hl, hh⟩ : DenL ρ n w S l xs)
      exact ⟨_, h, .agg this.1 h1 this.2⟩
  | _ => exact h.elim

theorem evP_spec (h : SatA N sl n ρ S w a) {x : Operand} {k : PV → Prop} (hk : evP sl x k) : ∃ y, k y ∧ Rep w S y (a.eval x) := by
  obtain ⟨sv, hk, hd⟩ := ev_spec h hk
  exact toP_spec hd hk

theorem aggOf_den {l : List SV} {xs : List Value} (h : DenL ρ n w S l xs) (h1 : Ones xs) : Den ρ n w S (aggOf l) (.agg xs.toArray) := by
  unfold aggOf
  split
  · exact .ag h.1 h1 h.2
  · split
    · rename_i lp hp
      have := pures_spec hp h
      exact .p (.agg this.1 h1 this.2)
    · exact .ag h.1 h1 h.2

theorem clOf_den {f : Fn} {l m : List SV} {xs ys : List Value} (h : DenL ρ n w S l xs) (h' : DenL ρ n w S m ys) : Den ρ n w S (clOf f l m) (.func f xs.toArray ys.toArray) := by
  unfold clOf
  split
  · rename_i lp hp
    split
    · rename_i mp hp'
      have h1 := pures_spec hp h
      have h2 := pures_spec hp' h'
      exact .p (.fn h1.1 h2.1 h1.2 h2.2)
    · exact .cl h.1 h'.1 h.2 h'.2
  · exact .cl h.1 h'.1 h.2 h'.2

theorem weak_rep {x : PV} {v : Value} (h : Rep w S x v) : Rep w S (weak x) v := by
  cases h with
  | nil ex a cap h hn => exact .nil _ a cap (by simp) hn
  | sl hS hn hex hl h1 hc h => exact .sl hS hn (by simp) hl h1 hc h
  | v => exact .v v
  | agg hl h1 h => exact .agg hl h1 h
  | fp hS hl h1 hc h => exact .fp hS hl h1 hc h
  | fn ha hb h1 h2 => exact .fn ha hb h1 h2

theorem weakL_rep {l : List PV} {xs : List Value} (h : RepL (Rep w S) l xs) : RepL (Rep w S) (weakL l) xs := by
  rw [weakL_eq]
  refine ⟨by simp [h.1], fun j p x hp hx => ?_⟩
  rw [List.getElem?_map, Option.map_eq_some_iff] at hp
  obtain ⟨q, hq, rfl⟩ := hp
  exact weak_rep (h.2 j q x hq hx)

theorem weakA_rep {x : PV} {v : Value} (h : Rep w S x v) : Rep w S (weakA x) v := by
  cases h with
  | nil ex a cap h hn => exact .nil _ a cap (by simp) hn
  | sl hS hn hex hl h1 hc h => exact .sl hS hn (by simp) hl h1 hc h
  | v => exact .v v
  | agg hl h1 h => have := weakL_rep ⟨hl, h⟩; exact .agg this.1 h1 this.2
  | fp hS hl h1 hc h => exact .fp hS hl h1 hc h
  | fn ha hb h1 h2 => exact .fn ha hb h1 h2

theorem weakAll_rep {l : List PV} {xs : List Value} (h : RepL (Rep w S) l xs) : RepL (Rep w S) (weakAll l) xs := by
  rw [weakAll_eq]
  refine ⟨by simp [h.1], fun j p x hp hx => ?_⟩
  rw [List.getElem?_map, Option.map_eq_some_iff] at hp
  obtain ⟨q, hq, rfl⟩ := hp
  exact weakA_rep (h.2 j q x hq hx)

theorem oneV_spec {x : Value} (h : oneV x = true) : x.oneCell' = true ∧ x.cells = #[x] := by
  cases x <;> first | (cases h; done) | exact ⟨rfl, rfl⟩

theorem mapP_den {l : List PV} {xs : List Value} (h : RepL (Rep w S) l xs) : DenL ρ n w S (mapP l) xs := by
  rw [mapP_eq]
  refine ⟨by simp [h.1], fun j p x hp hx => ?_⟩
  rw [List.getElem?_map, Option.map_eq_some_iff] at hp
  obtain ⟨q, hq, rfl⟩ := hp
  exact .p (h.2 j q x hq hx)

/-- A single cell. -/
theorem not_tup {v : Value} (h : v.oneCell' = true) : ∀ vs, v ≠ .tuple vs := by
  rintro vs rfl
  cases h

theorem one_den {x : SV} {v : Value} (h : Den ρ n w S x v) (h1 : v.oneCell' = true) (h2 : v.cells = #[v]) : DenL ρ n w S [x] v.cells.toList ∧ Ones v.cells.toList ∧ ∀ vs, v ≠ .tuple vs := by
  rw [h2]
  exact ⟨denL_cons h denL_nil, fun y hy => by simp at hy; subst hy; exact h1, not_tup h1⟩

theorem cellsS_spec {x : SV} {v : Value} (hρ : ∀ i, n i → Plain (ρ i)) (hd : Den ρ n w S x v) {k : List SV → Prop} (h : cellsS x k) : ∃ l, k l ∧ DenL ρ n w S l v.cells.toList ∧ Ones v.cells.toList ∧ ∀ vs, v ≠ .tuple vs := by
  cases hd with
  | p hr =>
    cases hr with
    | v x =>
      simp only [cellsS, cond_false_iff] at h
      obtain ⟨h1, h2⟩ := oneV_spec h.1
      exact ⟨_, h.2, one_den (.p (.v _)) h1 h2⟩
    | agg hl h1 hh =>
      simp only [cellsS, fL_iff] at h
      exact ⟨_, h, mapP_den ⟨hl, hh⟩, h1, by simp⟩
    | nil ex a cap hh hn => exact ⟨_, h, one_den (.p (.nil _ a cap hh hn)) rfl rfl⟩
    | sl hS hn hex hl h1 hc hh => exact ⟨_, h, one_den (.p (.sl hS hn hex hl h1 hc hh)) rfl rfl⟩
    | fp hS hl h1 hc hh => exact ⟨_, h, one_den (.p (.fp hS hl h1 hc hh)) rfl rfl⟩
    | fn ha hb h1 h2 => exact ⟨_, h, one_den (.p (.fn ha hb h1 h2)) rfl rfl⟩
  | kb b => exact ⟨_, h, one_den (.kb b) rfl rfl⟩
  | any v => exact h.elim
  | nil => exact ⟨_, h, one_den .nil rfl rfl⟩
  | ob hi => exact ⟨_, h, one_den (.ob hi) (hρ _ hi).1 (hρ _ hi).2⟩
  | pt hi hb => exact ⟨_, h, one_den (.pt hi hb) rfl rfl⟩
  | ag hl h1 hh => exact ⟨_, h, ⟨hl, hh⟩, h1, by simp⟩
  | tup hl hh => exact h.elim
  | cl ha hb h1 h2 => exact ⟨_, h, one_den (.cl ha hb h1 h2) rfl rfl⟩

theorem one_rep {x : PV} {v : Value} (h : Rep w S x v) (h1 : v.oneCell' = true) (h2 : v.cells = #[v]) : RepL (Rep w S) [x] v.cells.toList ∧ Ones v.cells.toList ∧ ∀ vs, v ≠ .tuple vs := by
  rw [h2]
  exact ⟨repL_cons h repL_nil, fun y hy => by simp at hy; subst hy; exact h1, not_tup h1⟩

theorem cellsP_spec {x : PV} {v : Value} (hr : Rep w S x v) {k : List PV → Prop} (h : cellsP x k) : ∃ l, k l ∧ RepL (Rep w S) l v.cells.toList ∧ Ones v.cells.toList ∧ ∀ vs, v ≠ .tuple vs := by
  cases hr with
  | v x =>
    simp only [cellsP, cond_false_iff] at h
    obtain ⟨h1, h2⟩ := oneV_spec h.1
    exact ⟨_, h.2, one_rep (.v _) h1 h2⟩
  | agg hl h1 hh =>
    simp only [cellsP, fWL_iff] at h
    exact ⟨_, h, weakL_rep ⟨hl, hh⟩, h1, by simp⟩
  | nil ex a cap hh hn => exact ⟨_, h, one_rep (.nil _ a cap (by simp) hn) rfl rfl⟩
  | sl hS hn hex hl h1 hc hh => exact ⟨_, h, one_rep (weak_rep (.sl hS hn hex hl h1 hc hh)) rfl rfl⟩
  | fp hS hl h1 hc hh => exact ⟨_, h, one_rep (.fp hS hl h1 hc hh) rfl rfl⟩
  | fn ha hb h1 h2 => exact ⟨_, h, one_rep (.fn ha hb h1 h2) rfl rfl⟩

theorem ofCellsP_spec {agg : Bool} {l : List PV} {xs : List Value} {k : SV → Prop} (h : ofCellsP agg l k) (hr : RepL (Rep w S) l xs) (h1 : Ones xs) :
    ∃ sv v, k sv ∧ Den ρ n w S sv v ∧ ((agg = true ∧ v = .agg xs.toArray) ∨ (agg = false ∧ xs = [v])) := by
  cases agg with
  | true =>
    simp only [ofCellsP, fL_iff] at h
    exact ⟨_, _, h, .p (.agg hr.1 h1 hr.2), .inl ⟨rfl, rfl⟩⟩
  | false =>
    simp only [ofCellsP] at h
    split at h
    · rename_i x
      rw [fPV_iff] at h
      obtain ⟨v, r, rfl, h2, h3⟩ := repL_uncons hr
      have : r = [] := List.eq_nil_of_length_eq_zero (by simpa using h3.1.symm)
      subst this
      exact ⟨_, v, h, .p h2, .inr ⟨rfl, rfl⟩⟩
    · exact h.elim

theorem ofCellsS_spec {agg : Bool} {l : List SV} {xs : List Value} {k : SV → Prop} (h : ofCellsS agg l k) (hr : DenL ρ n w S l xs) (h1 : Ones xs) :
    ∃ sv v, k sv ∧ Den ρ n w S sv v ∧ ((agg = true ∧ v = .agg xs.toArray) ∨ (agg = false ∧ xs = [v])) := by
  cases agg with
  | true =>
    simp only [ofCellsS, fL_iff, fSV_iff] at h
    exact ⟨_, _, h, aggOf_den hr h1, .inl ⟨rfl, rfl⟩⟩
  | false =>
    simp only [ofCellsS] at h
    split at h
    · rename_i x
      rw [fSV_iff] at h
      obtain ⟨v, r, rfl, h2, h3⟩ := denL_uncons hr
      have : r = [] := List.eq_nil_of_length_eq_zero (by simpa using h3.1.symm)
      subst this
      exact ⟨_, v, h, h2, .inr ⟨rfl, rfl⟩⟩
    · exact h.elim

end

/-- Slices and pointers. -/
theorem ObOk.plain {ρ : Nat → Value} {n : Nat → Prop} {w : World} {S : Nat → Prop} {ob : Ob} {x : Value} (h : ObOk ρ n w S ob x) (hl : ob.live = true) : Plain x := by
  cases ob with
  | box t cs => obtain ⟨b, xs, rfl, _⟩ := h; exact ⟨rfl, rfl⟩
  | arr t cs => obtain ⟨b, xs, rfl, _⟩ := h; exact ⟨rfl, rfl⟩
  | row e sz m ex cs =>
    obtain ⟨xs, hr, _⟩ := h
    rcases hr.2 with ⟨rfl, _⟩ | ⟨g, cap, cur, rfl, _⟩ <;> exact ⟨rfl, rfl⟩
  | nest e sz m cs hole =>
    obtain ⟨xs, hr, _⟩ := h
    rcases hr.2 with ⟨rfl, _⟩ | ⟨g, cap, cur, rfl, _⟩ <;> exact ⟨rfl, rfl⟩
  | dead => cases hl

end Go.Pv
