/- The definitions of a verification condition generator over Go code as the model has it. Nothing is proved here. -/
import Derived.WalkKit
import Derived.Deep.AppendSrc
import Derived.StillTail
namespace Go.Vc
open Go.RowKit (Below)

/-- What the VC generator knows of a type. -/
inductive Kd where
  | int (k : IntKind)
  | bool
  | struct (fs : List (Nat × Nat × Nat)) (flat : Bool)   -- of each field: its offset, its type, its cells
  | arr (n : Nat) (e : TypeId) (esz : Nat) (flat : Bool)
  | slice (e : TypeId)
  | other

structure Ty where
  size : Nat
  bytes : Nat
  zero : List Value
  kd : Kd

abbrev Tab := List (Nat × Ty)

def Tab.find (T : Tab) (t : Nat) (k : Ty → Prop) : Prop :=
  match T with
  | [] => False
  | (n, ty) :: r => bif Nat.beq n t then k ty else Tab.find r t k

/-- A symbolic value. -/
inductive SV where
  | v (x : Value)
  | kb (b : Bool)
  | any
  | ob (i : Nat)
  | pt (i : Nat) (off : Nat)
  | ex (a : Option Addr) (off : Nat)

/-- An object of the call's own: a variable in memory (row = none), or a row of n elements of sz cells. -/
structure Ob where
  ty : TypeId
  cs : List Value
  lit : Bool
  row : Option (Nat × Nat × Bool)   -- sz, n, exact (the capacity is n)
  live : Bool

abbrev Slots := List (Nat × SV)
abbrev Obs := List Ob
abbrev Us := List (World × Nat)
abbrev K := Slots → Obs → Us → Prop

def Le (u w : World) : Prop := Below u.heap.size u w

def LeAll : Us → World → Prop
  | [], _ => True
  | (u, _) :: r, w => Le u w ∧ LeAll r w

def Slots.get : Slots → Nat → SV
  | [], _ => .any
  | (k, x) :: r, t => bif Nat.beq k t then x else Slots.get r t

def fV (y : Value) (k : Value → Prop) : Prop :=
  match y with
  | .bool b => k (.bool b)
  | .int a n => k (.int a n)
  | .float a n => k (.float a n)
  | .complex a n m => k (.complex a n m)
  | .string s => k (.string s)
  | .pointer a => k (.pointer a)
  | .slice a l c => k (.slice a l c)
  | .map r => k (.map r)
  | .chan r => k (.chan r)
  | .func f a b => k (.func f a b)
  | .nilFunc => k .nilFunc
  | .iface t v => k (.iface t v)
  | .nilIface => k .nilIface
  | .agg cs => k (.agg cs)
  | .tuple vs => k (.tuple vs)

def fSV (x : SV) (k : SV → Prop) : Prop :=
  match x with
  | .v y => fV y fun y => k (.v y)
  | .kb b => k (.kb b)
  | .any => k .any
  | .ob i => k (.ob i)
  | .pt i o => k (.pt i o)
  | .ex a o => k (.ex a o)

/-- A list written out (its elements as they stand). -/
def fL {α : Type} (l : List α) (k : List α → Prop) : Prop :=
  match l with
  | [] => k []
  | x :: r => fL r fun r => k (x :: r)

def ofConst (y : Value) (k : SV → Prop) : Prop :=
  match y with
  | .bool b => k (.kb b)
  | y => k (.v y)

def ev (sl : Slots) (x : Operand) (k : SV → Prop) : Prop :=
  match x with
  | .tmp t => fSV (sl.get t) k
  | .const v => ofConst v k
  | .func f => k (.v (.func (.func f) #[] #[]))
  | .global _ => False

/-- Operands that are plain values. -/
def evV (sl : Slots) (x : Operand) (k : Value → Prop) : Prop :=
  ev sl x fun x => match x with
  | .v y => k y
  | .kb b => k (.bool b)
  | _ => False

def evVs (sl : Slots) : List Operand → (List Value → Prop) → Prop
  | [], k => k []
  | x :: r, k => evV sl x fun y => evVs sl r fun ys => k (y :: ys)

def eqV : Value → Value → Bool
  | .int _ a, .int _ b => a == b
  | .bool a, .bool b => a == b
  | _, _ => false

def eqL : List Value → List Value → Bool
  | [], [] => true
  | a :: r, b :: s => eqV a b && eqL r s
  | _, _ => false

def intBin (k : IntKind) (op : BinOp) (a b : Int) (kk : SV → Prop) : Prop :=
  match op with
  | .add => kk (.v (.int k (k.wrap (a + b))))
  | .sub => kk (.v (.int k (k.wrap (a - b))))
  | .mul => kk (.v (.int k (k.wrap (a * b))))
  | .quo => b ≠ 0 ∧ kk (.v (.int k (k.wrap (a.tdiv b))))
  | .rem => b ≠ 0 ∧ kk (.v (.int k (a.tmod b)))
  | .eql => kk (.v (.bool (a == b)))
  | .neq => kk (.v (.bool (a != b)))
  | .lss => kk (.v (.bool (decide (a < b))))
  | .leq => kk (.v (.bool (decide (a ≤ b))))
  | .gtr => kk (.v (.bool (decide (a > b))))
  | .geq => kk (.v (.bool (decide (a ≥ b))))
  | _ => False

def boolBin (op : BinOp) (a b : Bool) (kk : SV → Prop) : Prop :=
  match op with
  | .eql => kk (.v (.bool (a == b)))
  | .neq => kk (.v (.bool (!(a == b))))
  | _ => False

def aggBin (op : BinOp) (a b : List Value) (kk : SV → Prop) : Prop :=
  match op with
  | .eql => kk (.v (.bool (eqL a b)))
  | .neq => kk (.v (.bool (!(eqL a b))))
  | _ => False

def len {α : Type} (l : List α) : Nat :=
  match l with
  | [] => 0
  | _ :: r => Nat.succ (len r)

def allI64 : List Value → Bool
  | [] => true
  | .int .i64 _ :: r => allI64 r
  | _ => false

def isFlat : Kd → Bool
  | .struct _ f => f
  | .arr _ _ _ f => f
  | _ => false

def vcBin (T : Tab) (op : BinOp) (t : Nat) (x y : Value) (kk : SV → Prop) : Prop :=
  match x, y with
  | .int .i64 a, .int .i64 b => intBin .i64 op a b kk
  | .int .u8 a, .int .u8 b => intBin .u8 op a b kk
  | .bool a, .bool b => T.find t fun ty => match ty.kd with | .bool => boolBin op a b kk | _ => False
  | .agg a, .agg b => T.find t fun ty => bif isFlat ty.kd && allI64 a.toList && allI64 b.toList && Nat.beq (len a.toList) ty.size && Nat.beq (len b.toList) ty.size then aggBin op a.toList b.toList kk else False
  | _, _ => False

def vcUn (op : UnOp) (x : SV) (kk : SV → Prop) : Prop :=
  match op, x with
  | .neg, .v (.int k n) => kk (.v (.int k (k.wrap (0 - n))))
  | .not, .v (.bool b) => kk (.v (.bool (!b)))
  | .not, .kb true => kk (.kb false)
  | .not, .kb false => kk (.kb true)
  | _, _ => False

/-- The cells of a value that is stored. -/
def cellsOf (y : Value) (k : List Value → Prop) : Prop :=
  match y with
  | .agg cs => fL cs.toList k
  | .tuple _ => False
  | y => k [y]

def splice (cs : List Value) (o : Nat) (xs : List Value) : List Value := cs.take o ++ xs ++ cs.drop (o + xs.length)

/-- The value of n cells: a struct or an array (agg), or a single cell. -/
def ofCells (agg : Bool) (l : List Value) (k : SV → Prop) : Prop :=
  match agg with
  | true => fL l fun l => k (.v (.agg l.toArray))
  | false => match l with
    | [x] => fV x fun x => k (.v x)
    | _ => False

def isAggK : Kd → Bool
  | .struct _ _ => true
  | .arr _ _ _ _ => true
  | _ => false

def Obs.at (obs : Obs) (i : Nat) (k : Ob → Prop) : Prop :=
  match obs, i with
  | [], _ => False
  | o :: _, 0 => k o
  | _ :: r, i + 1 => Obs.at r i k

/-- Object i is a variable of the call's own. -/
def Obs.box (obs : Obs) (i : Nat) (k : Prop) : Prop := obs.at i fun ob => match ob.live, ob.row with
  | true, none => k
  | _, _ => False

def Obs.upd (obs : Obs) (i : Nat) (o : Ob) (k : Obs → Prop) : Prop :=
  match obs, i with
  | [], _ => False
  | _ :: r, 0 => k (o :: r)
  | x :: r, i + 1 => Obs.upd r i o fun r => k (x :: r)

def Obs.snoc (obs : Obs) (o : Ob) (k : Obs → Prop) : Prop :=
  match obs with
  | [] => k [o]
  | x :: r => Obs.snoc r o fun r => k (x :: r)

/-- What remains sure of the named worlds when object i is written. -/
def trunc (us : Us) (i : Nat) (k : Us → Prop) : Prop :=
  match us with
  | [] => k []
  | (u, n) :: r => bif Nat.ble n i then trunc r i fun r => k ((u, n) :: r) else trunc r i k

def Cells (w : World) (a : Option Addr) (off : Nat) (cs : List Value) : Prop :=
  ∃ ad, a = some ad ∧ ∀ j c, cs[j]? = some c → w.cell? (ad.add (off + j)) = some c

/-- A pointer's object and offset. -/
def vcLoad (T : Tab) (t : Nat) (x : SV) (obs : Obs) (us : Us) (kk : SV → Prop) : Prop :=
  T.find t fun ty =>
    let go (i o : Nat) : Prop := obs.at i fun ob =>
      match ob.live with
      | true => match ob.lit with
        | true => fL ((ob.cs.drop o).take ty.size) fun l => bif Nat.beq (len l) ty.size then ofCells (isAggK ty.kd) l kk else False
        | false => ∃ l, (ob.cs.drop o).take ty.size = l ∧ l.length = ty.size ∧ ofCells (isAggK ty.kd) l kk
      | false => False
    match x with
    | .ob i => obs.box i (go i 0)
    | .pt i o => go i o
    | .ex a o => ∃ l, (∀ w, LeAll us w → Cells w a o l) ∧ l.length = ty.size ∧ ofCells (isAggK ty.kd) l kk
    | _ => False

/-- Of the blocks that were there, g alone may have changed. -/
structure Ch (g : Nat) (w w' : World) : Prop where
  os : w'.os = w.os
  tape : w'.tape = w.tape
  output : w'.output = w.output
  size : w.heap.size ≤ w'.heap.size
  block : ∀ k, k < w.heap.size → k ≠ g → w'.heap[k]? = w.heap[k]?

/-- The row behind a slice value: its cells, in a block of its own. -/
def RowOk (w : World) (e : TypeId) (sz n : Nat) (cs : List Value) (exact : Bool) (x : Value) : Prop :=
  cs.length = n * sz ∧
  ((x = .slice none 0 0 ∧ n = 0) ∨
   ∃ g cap cur, x = .slice (some ⟨g, 0, none⟩) n cap ∧ w.heap[g]? = some (.cells cur e (0, 0)) ∧ n ≤ cap ∧ cap ≤ maxLen ∧ cur.size = cap * sz ∧ cur.toList.take (n * sz) = cs ∧ (exact = true → cap = n))

/-- The block is none that these worlds have. -/
def Stale : Us → Option Addr → Prop
  | [], _ => True
  | (u, _) :: r, a => (∀ ad, a = some ad → u.heap.size ≤ ad.block) ∧ Stale r a

def deadRange (n1 n2 : Nat) : Nat → Obs → Bool
  | _, [] => true
  | i, o :: r => (Nat.blt i n1 || Nat.ble n2 i || !o.live) && deadRange n1 n2 (Nat.succ i) r

def nthU (us : Us) (q : Nat) (k : World → Nat → Prop) : Prop :=
  match us, q with
  | [], _ => False
  | (u, n) :: _, 0 => k u n
  | _ :: r, q + 1 => nthU r q k

/-- No object of the call's own lies in this block. -/
def Apart (obs : Obs) (us kept : Us) (q : Nat) (a : Option Addr) : Prop :=
  match kept with
  | [] => False
  | (_, n1) :: _ => nthU us q fun u n2 => (∀ ad, a = some ad → ad.block < u.heap.size) ∧ deadRange n1 n2 0 obs = true

/-- A store through an outer slice, whose row lies in a block of its own. -/
def vcStoreEx (obs : Obs) (us : Us) (a : Option Addr) (o size : Nat) (l : List Value) (kk : Obs → Us → Prop) : Prop :=
  ∃ (e sz n : Nat) (cs : List Value) (ex : Bool) (cap d q : Nat), (∀ w, LeAll us w → RowOk w e sz n cs ex (.slice a n cap)) ∧ o + size ≤ n * sz ∧
    fL (us.drop d) fun kept => Stale kept a ∧ Apart obs us kept q a ∧
    ∀ w w1, LeAll us w → (∀ ad, a = some ad → Ch ad.block w w1) → RowOk w1 e sz n (splice cs o l) ex (.slice a n cap) → kk obs ((w1, len obs) :: kept)

def oneCells : List Value → Bool
  | [] => true
  | .agg _ :: _ => false
  | .tuple _ :: _ => false
  | _ :: r => oneCells r

def vcStore (T : Tab) (t : Nat) (x : SV) (y : Value) (obs : Obs) (us : Us) (kk : Obs → Us → Prop) : Prop :=
  T.find t fun ty => cellsOf y fun cs => bif Nat.beq (len cs) ty.size && oneCells cs then
    let go (i o : Nat) : Prop := obs.at i fun ob =>
      match ob.live with
      | true => match ob.lit with
        | true => bif Nat.ble (o + ty.size) (len ob.cs) then fL (splice ob.cs o cs) fun l => obs.upd i { ob with cs := l } fun obs => trunc us i fun us => kk obs us else False
        | false => o + ty.size ≤ ob.cs.length ∧ obs.upd i { ob with cs := splice ob.cs o cs } fun obs => trunc us i fun us => kk obs us
      | false => False
    match x with
    | .ob i => obs.box i (go i 0)
    | .pt i o => go i o
    | .ex a o => vcStoreEx obs us a o ty.size cs kk
    | _ => False
    else False

def vcFieldAddr (T : Tab) (s : Nat) (x : SV) (f : Nat) (obs : Obs) (kk : SV → Prop) : Prop :=
  T.find s fun ty => match ty.kd with
  | .struct fs _ =>
    match fs.drop f with
    | (o, _, _) :: _ => match x with
      | .ob i => obs.box i (kk (.pt i o))
      | .pt i p => kk (.pt i (p + o))
      | .ex a p => kk (.ex a (p + o))
      | _ => False
    | [] => False
  | _ => False

def vcIndexAddr (T : Tab) (t : Nat) (x : SV) (j : Int) (obs : Obs) (kk : SV → Prop) : Prop :=
  T.find t fun ty => match ty.kd with
  | .arr n _ esz _ => match x with
    | .ob i => obs.box i (∃ m : Nat, j = m ∧ m < n ∧ kk (.pt i (m * esz)))
    | .pt i p => ∃ m : Nat, j = m ∧ m < n ∧ kk (.pt i (p + m * esz))
    | .ex a p => ∃ m : Nat, j = m ∧ m < n ∧ kk (.ex a (p + m * esz))
    | _ => False
  | .slice e => T.find e fun te => match x with
    | .v (.slice a l _) => ∃ m : Nat, j = m ∧ m < l ∧ a ≠ none ∧ kk (.ex a (m * te.size))
    | .ob i => obs.at i fun ob => match ob.live, ob.row with
      | true, some (sz, n, _) => bif Nat.beq sz te.size then ∃ m : Nat, j = m ∧ m < n ∧ kk (.pt i (m * sz)) else False
      | _, _ => False
    | _ => False
  | _ => False

/-- A call returns v, nothing that was there has changed, and Φ v w' holds. -/
def Ret (P : Program) (f : FuncId) (args : Array Value) (w : World) (Φ : Value → World → Prop) : Prop :=
  Calls P f args w fun e w' => ∃ v, e = .returned v ∧ Le w w' ∧ Φ v w'

def vcCall (P : Program) (f : FuncId) (args : List Value) (n : Nat) (us : Us) (kk : SV → Us → Prop) : Prop :=
  ∀ w, LeAll us w → ∃ Φ : Value → World → Prop, Ret P f args.toArray w Φ ∧ ∀ v w', LeAll ((w, n) :: us) w' → Φ v w' → kk (.v v) ((w', n) :: (w, n) :: us)

/-- Parts put in place: a part's offset and size by its number. -/
def putParts (cs : List Value) (pl : List (Nat × Nat)) : List (Nat × Value) → (List Value → Prop) → Prop
  | [], k => k cs
  | (i, y) :: r, k => match pl.drop i with
    | (o, n) :: _ => cellsOf y fun xs => bif Nat.beq (len xs) n && Nat.ble (o + len xs) (len cs) then fL (splice cs o xs) fun l => putParts l pl r k else False
    | [] => False

def evParts (sl : Slots) : List (Nat × Operand) → (List (Nat × Value) → Prop) → Prop
  | [], k => k []
  | (i, x) :: r, k => evV sl x fun y => evParts sl r fun ys => k ((i, y) :: ys)

def rowPl (esz : Nat) : Nat → Nat → List (Nat × Nat)
  | 0, _ => []
  | n + 1, o => (o, esz) :: rowPl esz n (o + esz)

def plOf : Kd → List (Nat × Nat)
  | .struct fs _ => fs.map fun f => (f.1, f.2.2)
  | .arr n _ esz _ => rowPl esz n 0
  | _ => []

def repl (n : Nat) (z : List Value) : List Value := (List.replicate n z).flatten

/-- The source of an append: an external slice, or a row of the call's own. -/
def vcSrc (x : SV) (sz : Nat) (obs : Obs) (us : Us) (kk : Nat → List Value → Prop) : Prop :=
  match x with
  | .v (.slice a m _) => ∃ l : List Value, (∀ w, LeAll us w → m = 0 ∨ Cells w a 0 l) ∧ l.length = m * sz ∧ oneCells l = true ∧ kk m l
  | .ob i => obs.at i fun ob => match ob.live, ob.row with
    | true, some (sz', m, _) => bif Nat.beq sz' sz then oneCells ob.cs = true ∧ kk m ob.cs else False
    | _, _ => False
  | _ => False

def vcAppend (T : Tab) (t : Nat) (s x : SV) (obs : Obs) (us : Us) (kk : SV → Obs → Us → Prop) : Prop :=
  T.find t fun ty => match ty.kd with
  | .slice e => T.find e fun te => bif Nat.ble 1 te.size && Nat.beq (len te.zero) te.size then
    vcSrc x te.size obs us fun m l =>
      match s with
      | .v (.slice a n cap) => ∃ cs, (∀ w, LeAll us w → RowOk w e te.size n cs true (.slice a n cap)) ∧ (a = none ∨ 1 ≤ m) ∧ (n + m ≤ 1099511627776 ∧ (n + m) * te.bytes ≤ 140737488355328) ∧
          obs.snoc ⟨e, cs ++ l, false, some (te.size, n + m, false), true⟩ fun obs' => kk (.ob (len obs)) obs' us
      | .ob i => obs.at i fun ob => match ob.live, ob.row with
        | true, some (sz, n, exact) => bif Nat.beq sz te.size && Nat.beq ob.ty e then (n + m ≤ 1099511627776 ∧ (n + m) * te.bytes ≤ 140737488355328) ∧
            (let general : Prop := obs.upd i { ob with live := false } fun obs1 => obs1.snoc ⟨e, ob.cs ++ l, false, some (te.size, n + m, false), true⟩ fun obs' => trunc us i fun us => kk (.ob (len obs)) obs' us
            match exact with
            | true => (1 ≤ m ∧ obs.snoc ⟨e, ob.cs ++ l, false, some (te.size, n + m, false), true⟩ fun obs' => kk (.ob (len obs)) obs' us) ∨ general
            | false => general)
            else False
        | _, _ => False
      | _ => False
    else False
  | _ => False

def vcMake (T : Tab) (t : Nat) (l c : Int) (kk : Ob → Prop) : Prop :=
  T.find t fun ty => match ty.kd with
  | .slice e => T.find e fun te => bif Nat.ble 1 te.size && Nat.beq (len te.zero) te.size then
      ∃ n m : Nat, l = n ∧ c = m ∧ n ≤ m ∧ m ≤ 1099511627776 ∧ m * te.bytes ≤ 140737488355328 ∧
      kk ⟨e, repl n te.zero, false, some (te.size, n, false), true⟩
    else False
  | _ => False

def vcBuildSlice (T : Tab) (t n : Nat) (ps : List (Nat × Value)) (kk : Ob → Prop) : Prop :=
  T.find t fun ty => match ty.kd with
  | .slice e => T.find e fun te => bif Nat.ble 1 te.size && Nat.beq (len te.zero) te.size then
      bif Nat.ble (n * te.size) 16777216 then
      fL (repl n te.zero) fun z => fL (rowPl te.size n 0) fun pl => putParts z pl ps fun l =>
        kk ⟨e, l, false, some (te.size, n, true), true⟩
      else False
    else False
  | _ => False

def vcLen (T : Tab) (t : Nat) (x : SV) (obs : Obs) (kk : SV → Prop) : Prop :=
  T.find t fun ty => match ty.kd, x with
  | .slice _, .v (.slice _ n _) => kk (.v (.int .i64 n))
  | .slice _, .ob i => obs.at i fun ob => match ob.live, ob.row with
    | true, some (_, n, _) => kk (.v (.int .i64 n))
    | _, _ => False
  | .arr n _ _ _, _ => kk (.v (.int .i64 n))
  | _, _ => False

def maxL (k : IntKind) (a : Int) : List Value → (Int → Prop) → Prop
  | [], kk => kk a
  | .int k' b :: r, kk => match k, k' with
    | .i64, .i64 => maxL k (if b > a then b else a) r kk
    | _, _ => False
  | _, _ => False

def vcMax (l : List Value) (kk : SV → Prop) : Prop :=
  match l with
  | .int .i64 a :: r => maxL .i64 a r fun a => kk (.v (.int .i64 a))
  | _ => False

def optInt (sl : Slots) (x : Option Operand) (d : Nat) (k : Nat → Prop) : Prop :=
  match x with
  | none => k d
  | some x => evV sl x fun y => match y with
    | .int .i64 j => ∃ m : Nat, j = m ∧ k m
    | _ => False

/-- A slice of an external slice. -/
def vcSlice (T : Tab) (sl : Slots) (t : Nat) (x : SV) (lo hi mx : Option Operand) (kk : SV → Prop) : Prop :=
  T.find t fun ty => match ty.kd with
  | .slice e => T.find e fun te => match x with
    | .v (.slice a n c) =>
      optInt sl mx c fun m => optInt sl hi n fun h => optInt sl lo 0 fun l =>
        m ≤ c ∧ h ≤ m ∧ l ≤ h ∧ kk (.v (.slice (if m = l then a else a.map (·.add (l * te.size))) (h - l) (m - l)))
    | _ => False
  | _ => False

def nth (l : List Value) (i : Nat) (k : Value → Prop) : Prop :=
  match l, i with
  | [], _ => False
  | x :: _, 0 => k x
  | _ :: r, i + 1 => nth r i k

/-- A part of an aggregate: size cells from off on. -/
def vcPart (ty : Ty) (l : List Value) (off : Nat) (kk : SV → Prop) : Prop :=
  fL ((l.drop off).take ty.size) fun l => bif Nat.beq (len l) ty.size then ofCells (isAggK ty.kd) l kk else False

/-- Operations that only compute and read. -/
def vcPure (T : Tab) (o : Op) (sl : Slots) (obs : Obs) (us : Us) (k : SV → Prop) : Prop :=
  match o with
  | .move x => ev sl x k
  | .assign x => ev sl x k
  | .pick c a b => ev sl c fun c => match c with
    | .kb true => ev sl a k
    | .kb false => ev sl b k
    | .v (.bool q) => (q = true → ev sl a k) ∧ (q = false → ev sl b k)
    | _ => False
  | .binOp op t x y _ => evV sl x fun x => evV sl y fun y => vcBin T op t x y k
  | .unOp op _ x => ev sl x fun x => vcUn op x k
  | .convert src dst x => evV sl x fun x => match x with
    | .int _ n => T.find src fun _ => T.find dst fun ty => match ty.kd with
      | .int kd => k (.v (.int kd (kd.wrap n)))
      | _ => False
    | _ => False
  | .extract x i => evV sl x fun x => match x with
    | .tuple vs => nth vs.toList i fun y => fV y fun y => k (.v y)
    | _ => False
  | .build t ps => T.find t fun ty => bif Nat.beq (len ty.zero) ty.size && isAggK ty.kd then evParts sl ps.toList fun ps => putParts ty.zero (plOf ty.kd) ps fun l => k (.v (.agg l.toArray)) else False
  | .load t x => ev sl x fun x => vcLoad T t x obs us k
  | .fieldAddr s x f => ev sl x fun x => vcFieldAddr T s x f obs k
  | .indexAddr t x j => ev sl x fun x => evV sl j fun j => match j with
    | .int _ j => vcIndexAddr T t x j obs k
    | _ => False
  | .field t x f => evV sl x fun x => match x with
    | .agg cs => T.find t fun ty => match ty.kd with
      | .struct fs _ => match fs.drop f with
        | (o, e, _) :: _ => T.find e fun te => vcPart te cs.toList o k
        | [] => False
      | _ => False
    | _ => False
  | .index t x j => evV sl x fun x => evV sl j fun j => match x, j with
    | .agg cs, .int _ j => T.find t fun ty => match ty.kd with
      | .arr n e esz _ => T.find e fun te => ∃ m : Nat, j = m ∧ m < n ∧ ∃ l, (cs.toList.drop (m * esz)).take te.size = l ∧ l.length = te.size ∧ ofCells (isAggK te.kd) l k
      | _ => False
    | _, _ => False
  | .slice t x lo hi mx => match hi, mx with
    | none, some _ => False
    | hi, mx => ev sl x fun x => vcSlice T sl t x lo hi mx k
  | .makeFunc f first cap => evVs sl first.toList fun a => evVs sl cap.toList fun b => k (.v (.func f a.toArray b.toArray))
  | .call c => match c.callee with
    | .builtin .len => match c.args.toList, c.argTypes.toList with
      | [x], [t] => ev sl x fun x => vcLen T t x obs k
      | _, _ => False
    | .builtin .max => evVs sl c.args.toList fun l => vcMax l k
    | _ => False
  | _ => False

def isLit (ty : Ty) : Bool := match ty.kd with | .arr _ _ _ _ => false | _ => true

/-- Operations that make an object. -/
def vcNew (T : Tab) (o : Op) (sl : Slots) (k : Ob → Prop) : Prop :=
  match o with
  | .alloc t => T.find t fun ty => bif Nat.beq (len ty.zero) ty.size then k ⟨t, ty.zero, isLit ty, none, true⟩ else False
  | .box t x => evV sl x fun x => T.find t fun ty => cellsOf x fun cs => bif Nat.beq (len cs) ty.size then k ⟨t, cs, isLit ty, none, true⟩ else False
  | .makeSlice t l c => evV sl l fun l => evV sl c fun c => match l, c with
    | .int _ l, .int _ c => vcMake T t l c k
    | _, _ => False
  | .buildSlice t n ps => evParts sl ps.toList fun ps => vcBuildSlice T t n ps k
  | _ => False

/-- A call of a Go function: which one, with which arguments. -/
def vcFn (F : Nat) (f : Operand) (args : List Operand) (sl : Slots) (k : FuncId → List Value → Prop) : Prop :=
  evV sl f fun f => match f with
    | .func (.func f) a b => bif Nat.blt 2 f && Nat.blt f F then evVs sl args fun l => fL (a.toList ++ l ++ b.toList) fun l => k f l else False
    | _ => False

inductive OpK where
  | pure | new | store | append | call

def opK : Op → OpK
  | .alloc _ => .new
  | .box _ _ => .new
  | .makeSlice _ _ _ => .new
  | .buildSlice _ _ _ => .new
  | .store _ _ _ => .store
  | .call c => match c.callee with
    | .value _ => .call
    | .builtin .append => .append
    | _ => .pure
  | _ => .pure

def vcOp (P : Program) (F : Nat) (T : Tab) (o : Op) (sl : Slots) (obs : Obs) (us : Us) (k : SV → Obs → Us → Prop) : Prop :=
  match opK o with
  | .pure => vcPure T o sl obs us fun x => k x obs us
  | .new => vcNew T o sl fun ob => obs.snoc ob fun obs' => k (.ob (len obs)) obs' us
  | .store => match o with
    | .store t x y => ev sl x fun x => evV sl y fun y => vcStore T t x y obs us fun obs us => k (.v undef) obs us
    | _ => False
  | .append => match o with
    | .call c => match c.args.toList, c.argTypes.toList with
      | [s, x], [t, t'] => bif Nat.beq t t' then ev sl s fun s => ev sl x fun x => vcAppend T t s x obs us k else False
      | _, _ => False
    | _ => False
  | .call => match o with
    | .call c => match c.callee with
      | .value f => vcFn F f c.args.toList sl fun f l => vcCall P f l (len obs) us fun r us => k r obs us
      | _ => False
    | _ => False

def Fresh : Us → Nat → Option Addr → Prop
  | [], _, _ => True
  | (u, n) :: r, i, a => (bif Nat.ble n i then (∀ ad, a = some ad → u.heap.size ≤ ad.block) else True) ∧ Fresh r i a

def subS (i : Nat) (y : Value) : Slots → (Slots → Prop) → Prop
  | [], k => k []
  | (t, x) :: r, k => match x with
    | .ob j => bif Nat.beq j i then subS i y r fun r => k ((t, .v y) :: r) else subS i y r fun r => k ((t, .ob j) :: r)
    | x => subS i y r fun r => k ((t, x) :: r)

/-- Rows of the call's own among these operands are taken for plain slices from here on. -/
def vcFreeze : List Operand → Slots → Obs → Us → K → Prop
  | [], sl, obs, us, k => k sl obs us
  | x :: r, sl, obs, us, k => match x with
    | .tmp t => match sl.get t with
      | .ob i => obs.at i fun ob => match ob.live, ob.row with
        | true, some (sz, n, ex) => ∀ a cap w, LeAll us w → RowOk w ob.ty sz n ob.cs ex (.slice a n cap) → Fresh us i a →
            subS i (.slice a n cap) sl fun sl => obs.upd i { ob with live := false } fun obs => vcFreeze r sl obs ((w, len obs) :: us) k
        | _, _ => vcFreeze r sl obs us k
      | _ => vcFreeze r sl obs us k
    | _ => vcFreeze r sl obs us k

def frz : Op → List Operand
  | .call c => match c.callee with
    | .value _ => c.args.toList
    | _ => []
  | .build _ ps => ps.toList.map (·.2)
  | .buildSlice _ _ ps => ps.toList.map (·.2)
  | .makeFunc _ a b => a.toList ++ b.toList
  | .store _ _ y => [y]
  | .slice _ x _ _ _ => [x]
  | _ => []

def dstOf (all : List Oper) (j : Nat) : Option Nat :=
  match all, j with
  | [], _ => none
  | o :: _, 0 => o.dst
  | _ :: r, j + 1 => dstOf r j

def putS (N : Nat) (d : Option Nat) (x : SV) (sl : Slots) (k : Slots → Prop) : Prop :=
  match d with
  | none => k sl
  | some d => bif Nat.blt d N then k ((d, x) :: sl) else False

def vcGuard (all : List Oper) (gd : Option (Nat × Bool)) (sl : Slots) (run skip : Slots → Prop) : Prop :=
  match gd with
  | none => run sl
  | some (j, want) => match dstOf all j with
    | none => False
    | some t => fSV (sl.get t) fun g => match g with
      | .kb b => match b, want with
        | true, true => run sl
        | false, false => run sl
        | _, _ => skip sl
      | .v (.bool q) => match want with
        | true => (q = true → run ((t, .kb true) :: sl)) ∧ (q = false → skip ((t, .kb false) :: sl))
        | false => (q = false → run ((t, .kb false) :: sl)) ∧ (q = true → skip ((t, .kb true) :: sl))
      | .v (.tuple _) => skip sl
      | _ => False

/-- One operation; the continuation stands here once (the kernel compares it once). -/
def stepO (P : Program) (F : Nat) (T : Tab) (N : Nat) (all : List Oper) (o : Oper) (k : K) : K := fun sl obs us => vcGuard all o.guard sl
      (fun sl => vcFreeze (frz o.op) sl obs us fun sl obs us => vcOp P F T o.op sl obs us fun x obs us => putS N o.dst x sl fun sl => k sl obs us)
      (fun sl => putS N o.dst (.v undef) sl fun sl => k sl obs us)

def vcOps (P : Program) (F : Nat) (T : Tab) (N : Nat) (all : List Oper) : List Oper → K → K
  | [], k => k
  | o :: r, k => stepO P F T N all o (vcOps P F T N all r k)

/-! A region that draws its order: what only reads or makes new objects, in any order; then the rest, one behind the other. -/

def okRef (n : Nat) : SV → Bool
  | .ob i => Nat.blt i n
  | .pt i _ => Nat.blt i n
  | _ => true

def vcOpD (P : Program) (F : Nat) (T : Tab) (o : Op) (sl : Slots) (obs : Obs) (us : Us) (kv : SV → Prop) (kn : Ob → Prop) : Prop :=
  match opK o with
  | .pure => vcPure T o sl obs us kv
  | .new => vcNew T o sl kn
  | .call => match o with
    | .call c => match c.callee with
      | .value f => vcFn F f c.args.toList sl fun f l => ∃ v, (∀ w, LeAll us w → Ret P f l.toArray w fun v' _ => v' = v) ∧ kv (.v v)
      | _ => False
    | _ => False
  | _ => False

def stepD (P : Program) (F : Nat) (T : Tab) (N : Nat) (all : List Oper) (obs : Obs) (us : Us) (o : Oper) (k : Obs → Slots → Prop) (cr : Obs) (sl : Slots) : Prop := vcGuard all o.guard sl
      (fun sl => vcOpD P F T o.op sl obs us
        (fun x => bif okRef (len obs) x then putS N o.dst x sl fun sl => k cr sl else False)
        (fun ob => cr.snoc ob fun cr' => putS N o.dst (.ob (len obs + len cr)) sl fun sl => k cr' sl))
      (fun sl => putS N o.dst (.v undef) sl fun sl => k cr sl)

def vcHead (P : Program) (F : Nat) (T : Tab) (N : Nat) (all : List Oper) (obs : Obs) (us : Us) (k : Slots → Obs → Prop) : List Oper → Obs → Slots → Prop
  | [] => fun cr sl => k sl cr
  | o :: r => stepD P F T N all obs us o (vcHead P F T N all obs us k r)

/-- The first operation that writes. -/
def cutAt : List Oper → Nat
  | [] => 0
  | o :: r => match opK o.op with
    | .store => 0
    | .append => 0
    | _ => Nat.succ (cutAt r)

def takeN {α : Type} : Nat → List α → List α
  | 0, _ => []
  | _, [] => []
  | n + 1, x :: r => x :: takeN n r

def dropN {α : Type} : Nat → List α → List α
  | 0, l => l
  | _, [] => []
  | n + 1, _ :: r => dropN n r

def vcDraw (P : Program) (F : Nat) (T : Tab) (N : Nat) (all : List Oper) (k : K) : K := fun sl obs us =>
  fL (takeN (cutAt all) all) fun hd => fL (dropN (cutAt all) all) fun tl =>
  vcHead P F T N all obs us (fun sl cr => fL (obs ++ cr) fun obs' => vcOps P F T N all tl k sl obs' us) hd [] sl

/-- The slots that code writes. -/
def wr : Code → List Nat
  | .region _ ops _ => ops.toList.filterMap (·.dst)
  | .seq a b => wr a ++ wr b
  | .cond _ a b => wr a ++ wr b
  | .block _ b => wr b
  | .loop b => wr b
  | .scope b => wr b
  | .rangeFunc _ ps a b => ps.toList ++ wr a ++ wr b
  | _ => []

def memN (t : Nat) : List Nat → Bool
  | [] => false
  | x :: r => bif Nat.beq x t then true else memN t r

/-- What is left of the slots at a loop's head. -/
def clear (W : List Nat) : Slots → (Slots → Prop) → Prop
  | [], k => k []
  | (t, x) :: r, k => bif memN t W then clear W r k else clear W r fun r => k ((t, x) :: r)

/-- A loop's invariant: what it carries (slots, contents of objects, rows of the call's own) as functions of x. -/
structure LSpec (X : Type) where
  inv : X → World → Prop
  slots : List (Nat × (X → Value))
  boxes : List (Nat × (X → List Value))
  rows : List (Nat × TypeId × Nat × (X → Nat) × (X → List Value))     -- slot, element type, its cells, number of elements, cells
  mu : X → Nat
  drop : Nat

def keysOf {α : Type} : List (Nat × α) → List Nat
  | [] => []
  | (t, _) :: r => t :: keysOf r

def putAll {X : Type} (N : Nat) (x : X) : List (Nat × (X → Value)) → Slots → (Slots → Prop) → Prop
  | [], sl, k => k sl
  | (t, y) :: r, sl, k => bif Nat.blt t N then putAll N x r ((t, .v (y x)) :: sl) k else False

/-- The slots hold these values. -/
def hasAll {X : Type} (sl : Slots) (x : X) : List (Nat × (X → Value)) → Prop
  | [] => True
  | (t, y) :: r => (match sl.get t with | .v z => z = y x | .kb b => .bool b = y x | _ => False) ∧ hasAll sl x r

def over {X : Type} (x : X) (bx : List (Nat × (X → List Value))) (i : Nat) (cs : List Value) : List Value :=
  match bx with
  | [] => cs
  | (j, l) :: r => bif Nat.beq j i then l x else over x r i cs

def hasKey {α : Type} (i : Nat) : List (Nat × α) → Bool
  | [] => false
  | (j, _) :: r => bif Nat.beq j i then true else hasKey i r

/-- The objects' contents that a loop changes, put in place. -/
def setBoxes {X : Type} (x : X) (bx : List (Nat × (X → List Value))) : Nat → Obs → (Obs → Prop) → Prop
  | _, [], k => k []
  | i, o :: r, k => bif hasKey i bx then setBoxes x bx (i + 1) r fun r => k ({ o with cs := over x bx i o.cs } :: r) else setBoxes x bx (i + 1) r fun r => k (o :: r)

/-- The rows that a loop carries have a new number at its head. -/
def killRows {X : Type} (sl : Slots) : List (Nat × TypeId × Nat × (X → Nat) × (X → List Value)) → Obs → (Obs → Prop) → Prop
  | [], obs, k => k obs
  | (t, _) :: r, obs, k => match sl.get t with
    | .ob j => obs.at j fun ob => obs.upd j { ob with live := false } fun obs => killRows sl r obs k
    | _ => killRows sl r obs k

def deadAt (obs : Obs) (j : Nat) : Bool :=
  match obs, j with
  | [], _ => true
  | o :: _, 0 => !o.live
  | _ :: r, j + 1 => deadAt r j

def keptOk (j : Nat) : Us → Bool
  | [] => true
  | (_, n) :: r => Nat.ble n j && keptOk j r

def hasRows {X : Type} (sl : Slots) (obs obsE : Obs) (kept : Us) (x : X) : List (Nat × TypeId × Nat × (X → Nat) × (X → List Value)) → List Nat → Prop
  | [], _ => True
  | (t, e, sz, n, cs) :: r, seen => match sl.get t with
    | .v (.slice none 0 0) => n x = 0 ∧ cs x = [] ∧ hasRows sl obs obsE kept x r seen
    | .ob j => bif deadAt obsE j && !memN j seen && keptOk j kept then
        (obs.at j fun ob => match ob.live, ob.row with
          | true, some (sz', n', _) => bif Nat.beq sz' sz && Nat.beq ob.ty e then n' = n x ∧ ob.cs = cs x else False
          | _, _ => False) ∧ hasRows sl obs obsE kept x r (j :: seen) else False
    | _ => False

def setRows {X : Type} (N : Nat) (x : X) : List (Nat × TypeId × Nat × (X → Nat) × (X → List Value)) → Slots → Obs → (Slots → Obs → Prop) → Prop
  | [], sl, obs, k => k sl obs
  | (t, e, sz, n, cs) :: r, sl, obs, k => bif Nat.blt t N then obs.snoc ⟨e, cs x, false, some (sz, n x, false), true⟩ fun obs' => setRows N x r ((t, .ob (len obs)) :: sl) obs' k else False

def sameRow : Option (Nat × Nat × Bool) → Option (Nat × Nat × Bool) → Prop
  | none, none => True
  | a, b => a = b

/-- The objects that were there at the head are there, with what the invariant says of them. -/
def sameObs {X : Type} (x : X) (bx : List (Nat × (X → List Value))) : Nat → Obs → Obs → Prop
  | _, [], _ => True
  | i, o :: r, c :: s => (match o.live with
    | true => match c.live with
      | true => bif Nat.beq c.ty o.ty then sameRow c.row o.row ∧ c.cs = over x bx i o.cs else False
      | false => False
    | false => True) ∧ sameObs x bx (i + 1) r s
  | _, _ :: _, [] => False

def nonE : Us → Bool
  | [] => false
  | _ :: _ => true

def allIn (W : List Nat) : Slots → Bool
  | [] => true
  | (t, _) :: r => memN t W && allIn W r

def vcLoop (N : Nat) (W : List Nat) (body : K → K) (sl : Slots) (obs : Obs) (us : Us) : Prop :=
  ∃ (X : Type) (L : LSpec X) (x0 : X),
    killRows sl L.rows obs fun obsE => fL (us.drop L.drop) fun kept => fL (W ++ (keysOf L.slots ++ keysOf L.rows)) fun W => clear W sl fun sl1 =>
    bif nonE kept then hasAll sl x0 L.slots ∧ hasRows sl obs obsE kept x0 L.rows [] ∧ sameObs x0 L.boxes 0 obsE obs ∧ (∀ w, LeAll us w → L.inv x0 w) ∧
    ∀ x w, LeAll kept w → L.inv x w →
      setBoxes x L.boxes 0 obsE fun obs1 => putAll N x L.slots sl1 fun sl2 => setRows N x L.rows sl2 obs1 fun sl3 obs3 =>
        body (fun sl' obs' us' => ∃ x', L.mu x' < L.mu x ∧ hasAll sl' x' L.slots ∧ hasRows sl' obs' obsE kept x' L.rows [] ∧ sameObs x' L.boxes 0 obsE obs' ∧
          (sl'.drop (len sl' - len sl1) = sl1 ∧ allIn W (takeN (len sl' - len sl1) sl') = true) ∧ us'.drop (len us' - len kept) = kept ∧ ∀ w', LeAll us' w' → L.inv x' w') sl3 obs3 ((w, len obs3) :: kept)
    else False

def vcCode (P : Program) (F : Nat) (T : Tab) (N : Nat) : Code → K → K → (Nat → K) → K
  | .skip, kn, _, _ => kn
  | .seq a b, kn, kr, kx => vcCode P F T N a (vcCode P F T N b kn kr kx) kr kx
  | .cond c a b, kn, kr, kx => fun sl obs us => ev sl c fun c => match c with
    | .kb true => vcCode P F T N a kn kr kx sl obs us
    | .kb false => vcCode P F T N b kn kr kx sl obs us
    | .v (.bool q) => (q = true → vcCode P F T N a kn kr kx sl obs us) ∧ (q = false → vcCode P F T N b kn kr kx sl obs us)
    | _ => False
  | .block id body, kn, kr, kx => vcCode P F T N body kn kr fun i => bif Nat.beq i id then kn else kx i
  | .exit id, _, _, kx => kx id
  | .ret, _, kr, _ => kr
  | .loop body, _, kr, kx => vcLoop N (wr body) fun kn => vcCode P F T N body kn kr kx
  | .region _ ops false, kn, _, _ => vcOps P F T N ops.toList ops.toList kn
  | .region _ ops true, kn, _, _ => vcDraw P F T N ops.toList kn
  | _, _, _, _ => fun _ _ _ => False

def vcRets (T : Tab) (sl : Slots) (obs : Obs) (us : Us) : List ResultVar → (List Value → Prop) → Prop
  | [], k => k []
  | .tmp t :: r, k => fSV (sl.get t) fun x => match x with
    | .v y => vcRets T sl obs us r fun ys => k (y :: ys)
    | .kb b => vcRets T sl obs us r fun ys => k (.bool b :: ys)
    | _ => False
  | .cell t ty :: r, k => fSV (sl.get t) fun x => vcLoad T ty x obs us fun y => match y with
    | .v y => vcRets T sl obs us r fun ys => k (y :: ys)
    | _ => False

def retOps : List ResultVar → List Operand
  | [] => []
  | .tmp t :: r => .tmp t :: retOps r
  | .cell t _ :: r => .tmp t :: retOps r

def retK (T : Tab) (rs : List ResultVar) (Φ : Value → World → Prop) : K := fun sl obs us =>
  vcFreeze (retOps rs) sl obs us fun sl obs us => ∀ w, LeAll us w → vcRets T sl obs us rs fun vs => match vs with
    | [x] => Φ x w
    | vs => Φ (.tuple vs.toArray) w

def initS (i : Nat) : List Value → Slots
  | [] => []
  | x :: r => (i, .v x) :: initS (i + 1) r

def vcFun (P : Program) (F : Nat) (T : Tab) (fn : Func) (args : List Value) (w : World) (Φ : Value → World → Prop) : Prop :=
  match fn.body with
  | some c => vcCode P F T fn.ntmps c (retK T fn.results.toList Φ) (retK T fn.results.toList Φ) (fun _ _ _ _ => False) (initS 0 args) [] [(w, 0)]
  | none => False

end Go.Vc

/- The VC generator's small functions say what they should: each in plain logical words. -/
namespace Go.Vc
open Go.RowKit (Below)

theorem fV_iff (y : Value) (k : Value → Prop) : fV y k ↔ k y := by cases y <;> exact Iff.rfl
theorem fSV_iff (x : SV) (k : SV → Prop) : fSV x k ↔ k x := by cases x <;> simp only [fSV, fV_iff]
theorem fL_iff {α : Type} (l : List α) (k : List α → Prop) : fL l k ↔ k l := by
  induction l generalizing k with
  | nil => exact Iff.rfl
  | cons x r ih => simp only [fL, ih]

theorem len_eq {α : Type} (l : List α) : len l = l.length := by
  induction l with
  | nil => rfl
  | cons x r ih => simp only [len, List.length_cons, ih]

def Tab.get (T : Tab) (t : Nat) : Option Ty :=
  match T with
  | [] => none
  | (n, ty) :: r => if n = t then some ty else Tab.get r t

theorem find_iff (T : Tab) (t : Nat) (k : Ty → Prop) : T.find t k ↔ ∃ ty, T.get t = some ty ∧ k ty := by
  induction T with
  | nil => simp [Tab.find, Tab.get]
  | cons p r ih =>
    obtain ⟨n, ty⟩ := p
    by_cases h : n = t
    · subst h; simp [Tab.find, Tab.get]
    · have : Nat.beq n t = false := by rw [Bool.eq_false_iff]; intro h'; exact h (Nat.eq_of_beq_eq_true h')
      simp [Tab.find, Tab.get, this, h, ih]

theorem at_iff (obs : Obs) (i : Nat) (k : Ob → Prop) : obs.at i k ↔ ∃ ob, obs[i]? = some ob ∧ k ob := by
  induction obs generalizing i with
  | nil => simp [Obs.at]
  | cons o r ih => cases i <;> simp [Obs.at, ih]

theorem upd_iff (obs : Obs) (i : Nat) (o : Ob) (k : Obs → Prop) : obs.upd i o k ↔ i < obs.length ∧ k (obs.set i o) := by
  induction obs generalizing i k with
  | nil => simp [Obs.upd]
  | cons x r ih => cases i <;> simp [Obs.upd, ih]

theorem snoc_iff (obs : Obs) (o : Ob) (k : Obs → Prop) : obs.snoc o k ↔ k (obs ++ [o]) := by
  induction obs generalizing k with
  | nil => simp [Obs.snoc]
  | cons x r ih => simp [Obs.snoc, ih]

theorem box_iff (obs : Obs) (i : Nat) (k : Prop) : obs.box i k ↔ ∃ ob, obs[i]? = some ob ∧ ob.live = true ∧ ob.row = none ∧ k := by
  unfold Obs.box
  rw [at_iff]
  constructor
  · rintro ⟨ob, h, hk⟩
    refine ⟨ob, h, ?_⟩
    split at hk
    · exact ⟨‹_›, ‹_›, hk⟩
    · exact hk.elim
  · rintro ⟨ob, h, h1, h2, hk⟩
    exact ⟨ob, h, by simp only [h1, h2]; exact hk⟩

def truncL (us : Us) (i : Nat) : Us := us.filter fun p => decide (p.2 ≤ i)

theorem trunc_iff (us : Us) (i : Nat) (k : Us → Prop) : trunc us i k ↔ k (truncL us i) := by
  induction us generalizing k with
  | nil => simp [trunc, truncL]
  | cons p r ih =>
    obtain ⟨u, n⟩ := p
    by_cases h : n ≤ i
    · have : Nat.ble n i = true := by rw [Nat.ble_eq]; exact h
      simp only [trunc, this, cond_true, ih, truncL, List.filter_cons, h, decide_true, if_true]
    · have : Nat.ble n i = false := by rw [Bool.eq_false_iff]; intro h'; rw [Nat.ble_eq] at h'; exact h h'
      simp only [trunc, this, cond_false, ih, truncL, List.filter_cons, h, decide_false]; simp

theorem ofConst_iff (y : Value) (k : SV → Prop) : ofConst y k ↔ k (match y with | .bool b => .kb b | y => .v y) := by
  cases y <;> exact Iff.rfl

theorem cond_prop (b : Bool) (p q : Prop) : (bif b then p else q) ↔ (b = true → p) ∧ (b = false → q) := by cases b <;> simp
theorem cond_false_iff (b : Bool) (p : Prop) : (bif b then p else False) ↔ b = true ∧ p := by cases b <;> simp

theorem oneCells_iff (l : List Value) : oneCells l = true ↔ ∀ v ∈ l, v.oneCell' = true := by
  induction l with
  | nil => simp [oneCells]
  | cons x r ih => cases x <;> simp [oneCells, Value.oneCell', ih]

theorem cellsOf_iff (y : Value) (k : List Value → Prop) : cellsOf y k ↔ (∀ vs, y ≠ .tuple vs) ∧ k y.cells.toList := by
  cases y <;> simp [cellsOf, Value.cells, fL_iff]

theorem ofCells_spec {agg : Bool} {l : List Value} {k : SV → Prop} (h : ofCells agg l k) :
    (agg = true ∧ k (.v (.agg l.toArray))) ∨ (agg = false ∧ ∃ x, l = [x] ∧ k (.v x)) := by
  unfold ofCells at h
  cases agg with
  | true => exact .inl ⟨rfl, (fL_iff _ _).1 h⟩
  | false =>
    refine .inr ⟨rfl, ?_⟩
    simp only at h
    split at h
    · exact ⟨_, rfl, (fV_iff _ _).1 h⟩
    · exact h.elim

theorem nth_iff (l : List Value) (i : Nat) (k : Value → Prop) : nth l i k ↔ ∃ x, l[i]? = some x ∧ k x := by
  induction l generalizing i with
  | nil => simp [nth]
  | cons o r ih => cases i <;> simp [nth, ih]

theorem Le.refl (w : World) : Le w w := Below.refl _ _
theorem Le.trans {a b c : World} (h : Le a b) (k : Le b c) : Le a c := Below.trans h (k.mono h.size)
theorem Le.heap {u w : World} (h : Le u w) {b : Nat} {o : Obj} (hb : u.heap[b]? = some o) : w.heap[b]? = some o := by
  rw [Below.block h b (Array.getElem?_eq_some_iff.1 hb).1]; exact hb
theorem Le.cell {u w : World} (h : Le u w) {a : Addr} {v : Value} (hc : u.cell? a = some v) : w.cell? a = some v := by
  rw [Below.cell h (World.block_lt_of_cell? u a hc)]; exact hc
theorem Le.alloc (w : World) (o : Obj) : Le w (w.alloc o) := (Below.refl _ _).alloc (Nat.le_refl _) _
theorem Le.drew (w : World) : Le w w.drew := (Below.refl _ _).drew

theorem LeAll_iff (us : Us) (w : World) : LeAll us w ↔ ∀ p ∈ us, Le p.1 w := by
  induction us with
  | nil => simp [LeAll]
  | cons p r ih => simp [LeAll, ih]

theorem LeAll.mono {us : Us} {w w' : World} (h : LeAll us w) (hl : Le w w') : LeAll us w' := by
  rw [LeAll_iff] at *
  exact fun p hp => (h p hp).trans hl

theorem Cells.mono {u w : World} (h : Le u w) {a : Option Addr} {o : Nat} {cs : List Value} (hc : Cells u a o cs) : Cells w a o cs := by
  obtain ⟨ad, rfl, hh⟩ := hc
  exact ⟨ad, rfl, fun j c hj => h.cell (hh j c hj)⟩

theorem Addr.add_add (a : Addr) (m n : Nat) : (a.add m).add n = a.add (m + n) := by
  unfold Addr.add
  by_cases hm : m = 0 <;> by_cases hn : n = 0 <;> simp [hm, hn, Nat.add_assoc]

theorem Addr.add0 (b o : Nat) (n : Nat) : (⟨b, o, none⟩ : Addr).add n = ⟨b, o + n, none⟩ := by
  unfold Addr.add; split <;> simp_all

end Go.Vc

/- What the operations do, over a program whose types are as the table says. -/
namespace Go.Vc
open Go.RowKit (Below)

/-- Fields one behind the other, from an offset on, up to an end. -/
def layB (P : Program) : List Field → Nat → Nat → Bool
  | [], o, n => o == n
  | f :: r, o, n => f.offset == o && decide (f.name ≠ "_") && layB P r (o + P.cellsOf f.type) n

/-- A type of structs and arrays of int alone, fields that are compared. -/
def flatB (P : Program) : Nat → TypeId → Bool
  | 0, _ => false
  | d + 1, t => match P.underlying t with
    | some (.int .i64) => P.cellsOf t == 1
    | some (.struct fs) => !P.stoodInHeld t && layB P fs.toList 0 (P.cellsOf t) && fs.toList.all fun f => flatB P d f.type
    | some (.array n e) => flatB P d e && P.cellsOf t == n * P.cellsOf e
    | _ => false

def kdB (P : Program) (t : TypeId) : Kd → Bool
  | .int k => match P.underlying t with | some (.int k') => k == k' | _ => false
  | .bool => match P.underlying t with | some .bool => true | _ => false
  | .struct fs flat => match P.underlying t with
    | some (.struct fields) => fields.toList.map (fun f => (f.offset, f.type, P.cellsOf f.type)) == fs && (fs.all fun f => f.2.2 != 0) && (!flat || (flatB P 8 t && !P.eqGuardType P.depth t))
    | _ => false
  | .arr n e esz flat => match P.underlying t with
    | some (.array n' e') => n == n' && e == e' && (P.info? e).map (·.size) == some esz && (!flat || (flatB P 8 t && !P.eqGuardType P.depth t))
    | _ => false
  | .slice e => match P.underlying t with | some (.slice e') => e == e' | _ => false
  | .other => match P.underlying t with | some (.struct _) | some (.array _ _) | none => false | _ => true

/-- The table is right: all but the zero values, as a Bool; those by an equation. -/
def tabB (P : Program) (T : Tab) : Bool := T.all fun p => kdB P p.1 p.2.kd && (P.info? p.1).map (fun i => (i.size, i.bytes)) == some (p.2.size, p.2.bytes)

def tabZ (P : Program) (T : Tab) : List (Option (Option (List Value))) := T.map fun p => (P.info? p.1).map fun i => i.zero.map fun z => z.cells.toList
def tabZ' (T : Tab) : List (Option (Option (List Value))) := T.map fun p => some (some p.2.zero)

structure TyOk (P : Program) (t : TypeId) (ty : Ty) : Prop where
  info : ∃ i z, P.info? t = some i ∧ i.size = ty.size ∧ i.bytes = ty.bytes ∧ i.zero = some z ∧ z.cells.toList = ty.zero
  kd : kdB P t ty.kd = true

def TabOk (P : Program) (T : Tab) : Prop := ∀ t ty, T.get t = some ty → TyOk P t ty

theorem tabOk_of {P : Program} : ∀ {T : Tab}, tabB P T = true → tabZ P T = tabZ' T → TabOk P T
  | [], _, _ => fun _ _ h => by cases h
  | (n, y) :: r, hb, hz => by
    intro t ty h
    simp only [tabB, List.all_cons, Bool.and_eq_true, beq_iff_eq] at hb
    simp only [tabZ, tabZ', List.map_cons, List.cons.injEq] at hz
    by_cases hn : n = t
    · subst hn
      simp only [Tab.get, if_true, Option.some.injEq] at h
      subst h
      refine ⟨?_, hb.1.1⟩
      have h1 := hb.1.2
      have h2 := hz.1
      cases hi : P.info? n with
      | none => simp [hi] at h1
      | some i =>
        simp only [hi, Option.map_some, Option.some.injEq, Prod.mk.injEq] at h1 h2
        cases hz : i.zero with
        | none => simp [hz] at h2
        | some z => simp only [hz, Option.map_some, Option.some.injEq] at h2; exact ⟨i, z, rfl, h1.1, h1.2, hz, h2⟩
    · simp only [Tab.get, hn, if_false] at h
      exact tabOk_of (T := r) hb.2 hz.2 t ty h

section
variable {P : Program} {t : TypeId} {ty : Ty}

theorem TyOk.cellsOf (h : TyOk P t ty) : P.cellsOf t = ty.size := by
  obtain ⟨i, z, hi, hs, _⟩ := h.info
  simp [Program.cellsOf, hi, hs]

theorem run_sizeOf (h : TyOk P t ty) (w : World) : (sizeOf t).run P w = .ok ty.size w := by
  obtain ⟨i, z, hi, hs, _⟩ := h.info
  simp [sizeOf, typeInfo, hi, hs]

theorem run_zeroValue (h : TyOk P t ty) : ∃ z, z.cells.toList = ty.zero ∧ ∀ w : World, (zeroValue t).run P w = .ok z w := by
  obtain ⟨i, z, hi, hs, hb, hz, hc⟩ := h.info
  exact ⟨z, hc, fun w => by simp [zeroValue, typeInfo, hi, hz]⟩

theorem TyOk.und (h : TyOk P t ty) : ∃ d, P.underlying t = some d ∧ (match d with | .struct _ | .array _ _ => true | _ => false) = isAggK ty.kd := by
  have h3 := h.kd
  cases hk : ty.kd <;> simp only [hk, kdB] at h3 <;> split at h3 <;> first | (cases h3; done) | skip
  all_goals (rename_i hu; try (exact ⟨_, hu, rfl⟩))
  rename_i h1 h2
  cases hd : P.underlying t with
  | none => exact (hu hd).elim
  | some d =>
    refine ⟨d, rfl, ?_⟩
    cases d <;> first | rfl | (exact (h1 _ hd).elim) | (exact (h2 _ _ hd).elim)

theorem run_isAgg (h : TyOk P t ty) (w : World) : (isAgg t).run P w = .ok (isAggK ty.kd) w := by
  obtain ⟨d, hd, ha⟩ := h.und
  rw [← ha]
  simp only [isAgg, Sem.run_bind, run_underlying hd, Result.andThen_ok]
  cases d <;> rfl

theorem run_loadVar (h : TyOk P t ty) (w : World) (ad : Addr) (l : List Value) (hl : l.length = ty.size) (hc : ∀ j c, l[j]? = some c → w.cell? (ad.add j) = some c) (v : Value)
    (hv : (isAggK ty.kd = true ∧ v = .agg l.toArray) ∨ (isAggK ty.kd = false ∧ l = [v])) : (loadVar t ad).run P w = .ok v w := by
  rcases hv with ⟨ha, rfl⟩ | ⟨ha, rfl⟩
  · simp only [loadVar, Sem.run_bind, run_isAgg h, ha, Result.andThen_ok, if_true, run_sizeOf h]
    rw [← hl, run_loadCells_list w ad l hc]
    rfl
  · have h0 := hc 0 v rfl
    have : ad.add 0 = ad := rfl
    rw [this] at h0
    simp only [loadVar, Sem.run_bind, run_isAgg h, ha, Result.andThen_ok]
    simp [run_load, h0]

theorem run_storeVar (h : TyOk P t ty) (w : World) (g o : Nat) (e : TypeId) (cur : Array Value) (hg : w.heap[g]? = some (.cells cur e (0, 0))) (v : Value) (hl : v.cells.toList.length = ty.size)
    (h1 : ∀ u ∈ v.cells.toList, u.oneCell' = true) (hfit : o + ty.size ≤ cur.size) :
    (storeVar t ⟨g, o, none⟩ v).run P w = .ok () (w.setRow g (splice cur.toList o v.cells.toList).toArray) := by
  have hst := run_storeCells_at P g o e v.cells.toList 0 cur w hg (by omega) h1
  simp only [Nat.add_zero] at hst
  have hs : v.cells.size = ty.size := by simpa using hl
  simp only [storeVar, Sem.run_bind, run_sizeOf h, Result.andThen_ok, hs]
  simp [hst, splice]

end
end Go.Vc

/- Equality of structs and arrays of ints: cell by cell. -/
namespace Go.Vc

theorem eqL_append : ∀ (a c b d : List Value), a.length = c.length → eqL (a ++ b) (c ++ d) = (eqL a c && eqL b d)
  | [], [], _, _, _ => by simp [eqL]
  | x :: a, y :: c, b, d, h => by
    simp only [List.cons_append, eqL, eqL_append a c b d (by simpa using h), Bool.and_assoc]
  | [], _ :: _, _, _, h => by simp at h
  | _ :: _, [], _, _, h => by simp at h

theorem allI64_iff (l : List Value) : allI64 l = true ↔ ∀ v ∈ l, ∃ n, v = .int .i64 n := by
  induction l with
  | nil => simp [allI64]
  | cons x r ih =>
    cases x with
    | int k n => cases k <;> simp [allI64, ih]
    | _ => simp [allI64]

def flatVal (P : Program) (t : TypeId) (xs : List Value) : Value :=
  match P.underlying t with
  | some (.int _) => xs.headD undef
  | _ => .agg xs.toArray

section
variable {P : Program}

theorem info_of_und {t : TypeId} {d : TypeDesc} (h : P.underlying t = some d) : ∃ i, P.info? t = some i := by
  unfold Program.underlying at h
  cases hi : P.info? t with
  | none => simp [hi] at h
  | some i => exact ⟨i, rfl⟩

theorem run_sizeOf' {t : TypeId} {d : TypeDesc} (h : P.underlying t = some d) (w : World) : (sizeOf t).run P w = .ok (P.cellsOf t) w := by
  obtain ⟨i, hi⟩ := info_of_und h
  simp [sizeOf, typeInfo, hi, Program.cellsOf]

theorem part_flat {n : Nat} {t : TypeId} (hf : flatB P n t = true) (cs : Array Value) (off : Nat) (h : off + P.cellsOf t ≤ cs.size) (w : World) :
    (part t cs off).run P w = .ok (flatVal P t ((cs.toList.drop off).take (P.cellsOf t))) w := by
  have hx : (cs.extract off (off + P.cellsOf t)) = ((cs.toList.drop off).take (P.cellsOf t)).toArray := by
    apply Array.ext'
    simp [Array.toList_extract]
  cases n with
  | zero => cases hf
  | succ n =>
    unfold flatB at hf
    split at hf
    · rename_i hu
      have h1 : P.cellsOf t = 1 := by simpa using hf
      have hlt : off < cs.size := by omega
      have hget : cs[off]? = some cs[off] := by simp [hlt]
      simp only [part, isAgg, Sem.run_bind, run_underlying hu, Result.andThen_ok, Sem.run_pure, Bool.false_eq_true, if_false, hget, flatVal, hu, h1]
      congr 1
      rw [List.take_one, List.head?_drop]
      simp [hlt]
    · rename_i fs hu
      simp only [part, isAgg, Sem.run_bind, run_underlying hu, Result.andThen_ok, Sem.run_pure, if_true, run_sizeOf' hu, flatVal, hu, hx]
    · rename_i k e hu
      simp only [part, isAgg, Sem.run_bind, run_underlying hu, Result.andThen_ok, Sem.run_pure, if_true, run_sizeOf' hu, flatVal, hu, hx]
    · cases hf

/-- The run of a loop over an array's elements in '=='. -/
theorem run_eqElems (d : Nat) (e : TypeId) (xs ys : Array Value) (k : Nat) (F : Nat → Bool) (w : World)
    (l : List Nat) (hF : ∀ i ∈ l, ∃ a b, (part e xs (i * k)).run P w = .ok a w ∧ (part e ys (i * k)).run P w = .ok b w ∧ (Op.equalIn d e a b).run P w = .ok (F i) w) :
    (do
      let r ← forIn l ((none, ()) : Option Bool × Unit) fun i _ => do
        if !(← Op.equalIn d e (← part e xs (i * k)) (← part e ys (i * k))) then pure (ForInStep.done (some false, ()))
        else pure (ForInStep.yield (none, ()))
      match r.1 with
      | some r => pure r
      | none => pure true : Sem Bool).run P w = .ok (l.all F) w := by
  induction l with
  | nil => simp
  | cons i l ih =>
    obtain ⟨a, b, ha, hb, he⟩ := hF i (by simp)
    have ih := ih fun j hj => hF j (by simp [hj])
    simp only [List.forIn_cons, Sem.run_bind, ha, hb, he, Result.andThen_ok, List.all_cons] at ih ⊢
    cases hFi : F i
    · simp
    · simp only [Bool.not_true, Bool.false_eq_true, if_false, Sem.run_pure, Result.andThen_ok, Bool.true_and]
      exact ih


theorem all_range_split (k : Nat) (xs ys : List Value) : ∀ (n o : Nat), o * k + n * k = xs.length → o * k + n * k = ys.length →
    ((List.range' o n).all fun i => eqL ((xs.drop (i * k)).take k) ((ys.drop (i * k)).take k)) = eqL (xs.drop (o * k)) (ys.drop (o * k))
  | 0, o, h1, h2 => by
    have e1 : xs.drop (o * k) = [] := List.drop_eq_nil_of_le (by omega)
    have e2 : ys.drop (o * k) = [] := List.drop_eq_nil_of_le (by omega)
    simp [e1, e2, eqL]
  | n + 1, o, h1, h2 => by
    have hk : (n + 1) * k = k + n * k := by rw [Nat.add_mul]; omega
    have ho : (o + 1) * k = o * k + k := by rw [Nat.add_mul]; omega
    have ih := all_range_split k xs ys n (o + 1) (by omega) (by omega)
    rw [List.range'_succ, List.all_cons, ih]
    have e1 : xs.drop (o * k) = (xs.drop (o * k)).take k ++ xs.drop ((o + 1) * k) := by
      rw [ho, ← List.drop_drop]; exact (List.take_append_drop k _).symm
    have e2 : ys.drop (o * k) = (ys.drop (o * k)).take k ++ ys.drop ((o + 1) * k) := by
      rw [ho, ← List.drop_drop]; exact (List.take_append_drop k _).symm
    conv => rhs; rw [e1, e2]
    rw [eqL_append _ _ _ _ (by simp; omega)]

theorem allI64_sub {l : List Value} (h : allI64 l = true) (o n : Nat) : allI64 ((l.drop o).take n) = true := by
  rw [allI64_iff] at *
  exact fun v hv => h v (List.mem_of_mem_drop (List.mem_of_mem_take hv))

theorem flat_eq : ∀ (n : Nat) (t : TypeId), flatB P n t = true → ∀ (d : Nat), n ≤ d → ∀ (xs ys : List Value) (w : World), allI64 xs = true → allI64 ys = true → xs.length = P.cellsOf t → ys.length = P.cellsOf t →
    (Op.equalIn d t (flatVal P t xs) (flatVal P t ys)).run P w = .ok (eqL xs ys) w
  | 0, _, h, _, _, _, _, _, _, _, _, _ => by cases h
  | n + 1, t, h, 0, hd, _, _, _, _, _, _, _ => by omega
  | n + 1, t, h, d + 1, hd, xs, ys, w, hx, hy, lx, ly => by
    unfold flatB at h
    split at h
    · rename_i hu
      have h1 : P.cellsOf t = 1 := by simpa using h
      rw [h1] at lx ly
      match xs, ys, lx, ly with
      | [x], [y], _, _ =>
        rw [allI64_iff] at hx hy
        obtain ⟨a, rfl⟩ := hx x (by simp)
        obtain ⟨b, rfl⟩ := hy y (by simp)
        simp [flatVal, hu, run_equalIn_int (P := P) w d t .i64 .i64 a b hu, eqL, eqV]
    · rename_i fs hu
      simp only [Bool.and_eq_true, Bool.not_eq_true', List.all_eq_true] at h
      obtain ⟨⟨hst, hlay⟩, hall⟩ := h
      have hfs : P.fieldsOf t = fs := by simp [Program.fieldsOf, hu]
      simp only [flatVal, hu]
      rw [run_equalIn_struct w d t xs.toArray ys.toArray (by rw [hfs]; exact hu) hst, hfs]
      have key : ∀ (l : List Field) (o : Nat), (∀ f ∈ l, flatB P n f.type = true) → layB P l o (P.cellsOf t) = true →
          (Op.eqFields d xs.toArray ys.toArray l).run P w = .ok (eqL (xs.drop o) (ys.drop o)) w := by
        intro l
        induction l with
        | nil =>
          intro o _ hl
          have : o = P.cellsOf t := by simpa [layB] using hl
          have e1 : xs.drop o = [] := List.drop_eq_nil_of_le (by omega)
          have e2 : ys.drop o = [] := List.drop_eq_nil_of_le (by omega)
          simp [Op.eqFields, e1, e2, eqL]
        | cons f r ih =>
          intro o hf hl
          simp only [layB, Bool.and_eq_true, beq_iff_eq, decide_eq_true_eq] at hl
          obtain ⟨⟨ho, hname⟩, hl⟩ := hl
          have hle : ∀ (l : List Field) (o : Nat), layB P l o (P.cellsOf t) = true → o ≤ P.cellsOf t := by
            intro l
            induction l with
            | nil => intro o h; have : o = P.cellsOf t := by simpa [layB] using h
                     omega
            | cons g r ih => intro o h; simp only [layB, Bool.and_eq_true] at h; have := ih _ h.2; omega
          have hb := hle _ _ hl
          have hff := hf f (by simp)
          have p1 := part_flat hff xs.toArray f.offset (by simp; omega) w
          have p2 := part_flat hff ys.toArray f.offset (by simp; omega) w
          simp only [] at p1 p2
          have q := flat_eq n f.type hff d (by omega) ((xs.drop o).take (P.cellsOf f.type)) ((ys.drop o).take (P.cellsOf f.type)) w (allI64_sub hx _ _) (allI64_sub hy _ _) (by simp; omega) (by simp; omega)
          have ih' := ih (o + P.cellsOf f.type) (fun g hg => hf g (by simp [hg])) hl
          have e1 : xs.drop o = (xs.drop o).take (P.cellsOf f.type) ++ xs.drop (o + P.cellsOf f.type) := by
            rw [← List.drop_drop]; exact (List.take_append_drop _ _).symm
          have e2 : ys.drop o = (ys.drop o).take (P.cellsOf f.type) ++ ys.drop (o + P.cellsOf f.type) := by
            rw [← List.drop_drop]; exact (List.take_append_drop _ _).symm
          rw [e1, e2, eqL_append _ _ _ _ (by simp; omega)]
          rw [ho] at p1 p2
          simp only [Op.eqFields, ho, hname, ne_eq, not_false_eq_true, if_true, Sem.run_bind, p1, p2, Result.andThen_ok, q, Sem.run_ite]
          cases eqL ((xs.drop o).take (P.cellsOf f.type)) ((ys.drop o).take (P.cellsOf f.type))
          · simp
          · simpa using ih'
      have := key fs.toList 0 hall hlay
      simpa using this
    · rename_i k e hu
      simp only [Bool.and_eq_true, beq_iff_eq] at h
      obtain ⟨hfe, hsz⟩ := h
      simp only [flatVal, hu]
      have hus : ∃ de, P.underlying e = some de := by
        cases n with
        | zero => cases hfe
        | succ n => unfold flatB at hfe; split at hfe <;> first | exact ⟨_, ‹_›⟩ | cases hfe
      obtain ⟨de, hde⟩ := hus
      have hr := run_eqElems (P := P) d e xs.toArray ys.toArray (P.cellsOf e) (fun i => eqL ((xs.drop (i * P.cellsOf e)).take (P.cellsOf e)) ((ys.drop (i * P.cellsOf e)).take (P.cellsOf e))) w (List.range' 0 k) (by
        intro i hi
        have hik : i < k := by simpa [List.mem_range'] using hi
        have hb : i * P.cellsOf e + P.cellsOf e ≤ k * P.cellsOf e := by
          have : (i + 1) * P.cellsOf e ≤ k * P.cellsOf e := Nat.mul_le_mul_right _ hik
          rwa [Nat.add_mul, Nat.one_mul] at this
        have p1 := part_flat hfe xs.toArray (i * P.cellsOf e) (by simp; omega) w
        have p2 := part_flat hfe ys.toArray (i * P.cellsOf e) (by simp; omega) w
        simp only [] at p1 p2
        exact ⟨_, _, p1, p2, flat_eq n e hfe d (by omega) _ _ w (allI64_sub hx _ _) (allI64_sub hy _ _) (by simp; omega) (by simp; omega)⟩)
      have hsplit := all_range_split (P.cellsOf e) xs ys k 0 (by omega) (by omega)
      simp only [Nat.zero_mul, List.drop_zero] at hsplit
      rw [hsplit] at hr
      simp only [Op.equalIn, Sem.run_bind, run_underlying hu, Result.andThen_ok, run_sizeOf' hde]
      simp only [Sem.run_bind] at hr
      rw [← hr]
      simp only [Std.Legacy.Range.forIn_eq_forIn_range', Std.Legacy.Range.size, Nat.sub_zero, Nat.add_sub_cancel, Nat.div_one]
      congr 1
      funext a w'
      obtain ⟨r, _⟩ := a
      cases r <;> rfl
    · cases h

end
end Go.Vc

/- Parts put in place; rows that are made, built, appended to. -/
namespace Go.Vc
section
variable {P : Program}

theorem splice_cons (cs : List Value) (o : Nat) (x : Value) (r : List Value) (h : o + (r.length + 1) ≤ cs.length) : splice (cs.set o x) (o + 1) r = splice cs o (x :: r) := by
  unfold splice
  have h1 : (cs.set o x).take (o + 1) = cs.take o ++ [x] := by
    rw [List.take_set, List.take_succ_eq_append_getElem (by omega)]
    have hl : (cs.take o).length = o := by simp; omega
    generalize cs[o]'(by omega) = z
    rw [List.set_append_right _ _ (by omega), hl]
    simp
  rw [h1]
  simp only [List.append_assoc, List.singleton_append, List.length_cons]
  rw [List.drop_set_of_lt (by omega)]
  simp [Nat.add_assoc, Nat.add_comm 1]

theorem fill_fold (off : Nat) : ∀ (xs : List Value) (i : Nat) (cells : Array Value), off + i + xs.length ≤ cells.size →
    ((xs.zipIdx i).foldl (fun (cs : Array Value) (p : Value × Nat) => cs.setIfInBounds (off + p.2) p.1) cells).toList = splice cells.toList (off + i) xs
  | [], i, cells, _ => by simp [splice]
  | x :: r, i, cells, h => by
    simp only [List.zipIdx_cons, List.foldl_cons]
    rw [fill_fold off r (i + 1) _ (by simp at h ⊢; omega)]
    rw [Array.toList_setIfInBounds, ← Nat.add_assoc, splice_cons _ _ _ _ (by simp at h ⊢; omega)]

theorem splice_length (cs : List Value) (o : Nat) (xs : List Value) (h : o + xs.length ≤ cs.length) : (splice cs o xs).length = cs.length := by
  simp [splice]; omega

/-- The fill of the model, as the VC generator puts parts. -/
theorem fill_of_putParts (place : Nat → Option (Nat × Nat)) (pl : List (Nat × Nat)) (hpl : ∀ i p, pl[i]? = some p → place i = some p) :
    ∀ (ps : List (Nat × Value)) (cells : Array Value) (k : List Value → Prop), putParts cells.toList pl ps k → ∃ l, l.length = cells.size ∧ Instr.fill place cells ps = some l.toArray ∧ k l
  | [], cells, k, h => ⟨cells.toList, by simp, by simp [Instr.fill], h⟩
  | (i, y) :: r, cells, k, h => by
    simp only [putParts] at h
    split at h
    · rename_i o n _ hd
      rw [cellsOf_iff] at h
      simp only [cond_false_iff, Bool.and_eq_true, fL_iff, len_eq] at h
      obtain ⟨_, ⟨h1, h2⟩, h⟩ := h
      have h1 : y.cells.toList.length = n := Nat.eq_of_beq_eq_true h1
      rw [Nat.ble_eq] at h2
      have hi : pl[i]? = some (o, n) := by
        have := congrArg (·[0]?) hd
        simpa using this
      have hf := fill_fold o y.cells.toList 0 cells (by simpa using h2)
      simp only [Nat.add_zero] at hf
      have hz : (y.cells.zipIdx.foldl (fun cs (c, j) => cs.setIfInBounds (o + j) c) cells).toList = splice cells.toList o y.cells.toList := by
        rw [← hf]
        simp only [Array.foldl_toList, ← Array.toList_zipIdx]
      obtain ⟨l, hl, hfill, hk⟩ := fill_of_putParts place pl hpl r (splice cells.toList o y.cells.toList).toArray k (by simpa using h)
      refine ⟨l, ?_, ?_, hk⟩
      · rw [hl]
        simp only [List.size_toArray]
        rw [splice_length _ _ _ h2]; simp
      · simp only [Instr.fill, hpl i _ hi]
        have hs : y.cells.size = n := by simpa using h1
        have h2' : ¬ (o + n > cells.size) := by simp at h2; omega
        simp only [hs, ne_eq, not_true_eq_false, decide_false, Bool.false_or, h2']
        rw [if_neg (by simp)]
        rw [← hfill]
        congr 1
        apply Array.ext'
        rw [hz]
    · exact h.elim

theorem rowPl_get (esz : Nat) : ∀ (n o i : Nat) (p : Nat × Nat), (rowPl esz n o)[i]? = some p → i < n ∧ p = (o + i * esz, esz)
  | 0, _, _, _, h => by simp [rowPl] at h
  | n + 1, o, 0, p, h => by simp [rowPl] at h; exact ⟨by omega, by simp [← h]⟩
  | n + 1, o, i + 1, p, h => by
    simp only [rowPl, List.getElem?_cons_succ] at h
    obtain ⟨h1, h2⟩ := rowPl_get esz n (o + esz) i p h
    refine ⟨by omega, ?_⟩
    rw [h2, Nat.add_mul]
    congr 1
    omega

theorem kd_struct {t : TypeId} {ty : Ty} (h : TyOk P t ty) {fs : List (Nat × Nat × Nat)} {fl : Bool} (hk : ty.kd = .struct fs fl) :
    ∃ fields, P.underlying t = some (.struct fields) ∧ fields.toList.map (fun f => (f.offset, f.type, P.cellsOf f.type)) = fs ∧ (∀ f ∈ fs, f.2.2 ≠ 0) := by
  have h3 := h.kd
  simp only [hk, kdB] at h3
  split at h3
  · rename_i fields hu
    simp only [Bool.and_eq_true, beq_iff_eq, List.all_eq_true, bne_iff_ne] at h3
    exact ⟨fields, hu, h3.1.1, h3.1.2⟩
  · cases h3

theorem kd_arr {t : TypeId} {ty : Ty} (h : TyOk P t ty) {n e esz : Nat} {fl : Bool} (hk : ty.kd = .arr n e esz fl) :
    P.underlying t = some (.array n e) ∧ ∀ w : World, (sizeOf e).run P w = .ok esz w := by
  have h3 := h.kd
  simp only [hk, kdB] at h3
  split at h3
  · rename_i n' e' hu
    simp only [Bool.and_eq_true, beq_iff_eq] at h3
    obtain ⟨⟨⟨rfl, rfl⟩, he⟩, _⟩ := h3
    refine ⟨hu, fun w => ?_⟩
    cases hi : P.info? e with
    | none => simp [hi] at he
    | some i => simp [hi] at he; simp [sizeOf, typeInfo, hi, he]
  · cases h3

theorem kd_slice {t : TypeId} {ty : Ty} (h : TyOk P t ty) {e : Nat} (hk : ty.kd = .slice e) : P.underlying t = some (.slice e) := by
  have h3 := h.kd
  simp only [hk, kdB] at h3
  split at h3
  · rename_i e' hu
    have : e = e' := by simpa using h3
    subst this
    exact hu
  · cases h3

theorem kd_int {t : TypeId} {ty : Ty} (h : TyOk P t ty) {k : IntKind} (hk : ty.kd = .int k) : P.underlying t = some (.int k) := by
  have h3 := h.kd
  simp only [hk, kdB] at h3
  split at h3
  · rename_i e' hu
    have : k = e' := by simpa using h3
    subst this
    exact hu
  · cases h3

theorem kd_bool {t : TypeId} {ty : Ty} (h : TyOk P t ty) (hk : ty.kd = .bool) : P.underlying t = some .bool := by
  have h3 := h.kd
  simp only [hk, kdB] at h3
  split at h3
  · assumption
  · cases h3

theorem kd_flat {t : TypeId} {ty : Ty} (h : TyOk P t ty) (hf : isFlat ty.kd = true) : flatB P 8 t = true ∧ P.eqGuardType P.depth t = false ∧ isAggK ty.kd = true := by
  have h3 := h.kd
  cases hk : ty.kd with
  | struct fs fl =>
    simp only [hk, isFlat] at hf
    subst hf
    simp only [hk, kdB] at h3
    split at h3
    · simp only [Bool.and_eq_true, Bool.not_true, Bool.false_or, Bool.not_eq_true'] at h3
      exact ⟨h3.2.1, h3.2.2, rfl⟩
    · cases h3
  | arr n e z fl =>
    simp only [hk, isFlat] at hf
    subst hf
    simp only [hk, kdB] at h3
    split at h3
    · simp only [Bool.and_eq_true, Bool.not_true, Bool.false_or, Bool.not_eq_true'] at h3
      exact ⟨h3.2.1, h3.2.2, rfl⟩
    · cases h3
  | _ => simp [hk, isFlat] at hf

theorem places_of : ∀ (fields : List Field) (fs : List (Nat × Nat × Nat)), fields.map (fun f => (f.offset, f.type, P.cellsOf f.type)) = fs → (∀ f ∈ fs, f.2.2 ≠ 0) →
    fields.mapM (fun f => (P.info? f.type).map fun i => (f.offset, i.size)) = some (fs.map fun f => (f.1, f.2.2))
  | [], _, h, _ => by subst h; rfl
  | f :: r, _, h, hz => by
    subst h
    have h0 := hz (f.offset, f.type, P.cellsOf f.type) (by simp)
    have ih := places_of r _ rfl (fun g hg => hz g (by simp only [List.map_cons, List.mem_cons]; exact .inr hg))
    simp only at h0
    cases hi : P.info? f.type with
    | none => simp [Program.cellsOf, hi] at h0
    | some i => simp [List.mapM_cons, hi, ih, Program.cellsOf]

theorem run_build {t : TypeId} {ty : Ty} (h : TyOk P t ty) (hz : ty.zero.length = ty.size) (ha : isAggK ty.kd = true) (ps : Array (Nat × Value)) (k : List Value → Prop) (hk : putParts ty.zero (plOf ty.kd) ps.toList k) (w : World) :
    ∃ l, l.length = ty.size ∧ (Instr.build t ps).run P w = .ok (.agg l.toArray) w ∧ k l := by
  obtain ⟨z, hzc, hzr⟩ := run_zeroValue h
  have hzs : z.cells.size = ty.size := by rw [← hz, ← hzc]; simp
  cases hkd : ty.kd with
  | struct fs fl =>
    obtain ⟨fields, hu, hm, hnz⟩ := kd_struct h hkd
    rw [hkd] at hk
    rw [← hzc] at hk
    have hpl := places_of fields.toList fs hm hnz
    obtain ⟨l, hl, hf, hk⟩ := fill_of_putParts (fun i => ((fs.map fun f => (f.1, f.2.2)).toArray)[i]?) (plOf (.struct fs fl)) (by intro i p hp; simpa [plOf] using hp) ps.toList z.cells k hk
    refine ⟨l, by omega, ?_, hk⟩
    simp only [Instr.build, Sem.run_bind, hzr, run_underlying hu, Result.andThen_ok]
    simp [Array.mapM_eq_mapM_toList, run_places w _ _ hpl]
    have hf' : Instr.fill (fun x => Option.map (fun f : Nat × Nat × Nat => (f.fst, f.snd.snd)) fs[x]?) z.cells ps.toList = some l.toArray := by
      rw [← hf]; congr 1; funext i; simp
    rw [hf']
    rfl
  | arr n e esz fl =>
    obtain ⟨hu, hs⟩ := kd_arr h hkd
    rw [hkd, ← hzc] at hk
    obtain ⟨l, hl, hf, hk⟩ := fill_of_putParts (fun i => some (i * esz, esz)) (plOf (.arr n e esz fl)) (by
      intro i p hp
      obtain ⟨_, h2⟩ := rowPl_get esz n 0 i p hp
      simp [h2]) ps.toList z.cells k hk
    refine ⟨l, by omega, ?_, hk⟩
    simp only [Instr.build, Sem.run_bind, hzr, run_underlying hu, Result.andThen_ok, hs, hf]
    rfl
  | _ => simp [hkd, isAggK] at ha

end
end Go.Vc

/- Rows that are made, built and appended to. -/
namespace Go.Vc
open Go.RowKit (Below)
section
variable {P : Program}

theorem repl_length (n : Nat) (z : List Value) : (repl n z).length = n * z.length := by
  simp [repl, List.length_flatten]

theorem repl_succ (n : Nat) (z : List Value) : repl (n + 1) z = z ++ repl n z := by simp [repl, List.replicate_succ]

theorem repl_get (z : List Value) : ∀ (n j : Nat), j < n * z.length → (repl n z)[j]? = z[j % z.length]?
  | 0, j, h => by simp at h
  | n + 1, j, h => by
    rw [repl_succ]
    by_cases hj : j < z.length
    · rw [List.getElem?_append_left hj, Nat.mod_eq_of_lt hj]
    · rw [List.getElem?_append_right (by omega), repl_get z n (j - z.length) (by rw [Nat.add_mul] at h; omega)]
      conv => rhs; rw [Nat.mod_eq_sub_mod (by omega)]

theorem made_take (z : Array Value) (n c sz : Nat) (hz : z.size = sz) (h0 : 0 < sz) (h : n ≤ c) : (madeCells z (c * sz)).toList.take (n * sz) = repl n z.toList := by
  have hle : n * sz ≤ c * sz := Nat.mul_le_mul_right _ h
  apply List.ext_getElem?
  intro j
  by_cases hj : j < n * sz
  · rw [List.getElem?_take_of_lt hj, repl_get _ _ _ (by simpa [hz] using hj)]
    have hm : j % sz < z.size := by rw [hz]; exact Nat.mod_lt _ h0
    simp [madeCells, hz, show j < c * sz by omega]
    rw [Array.getElem?_eq_getElem hm]
    simp [getElem!_pos z (j % sz) hm]
  · rw [List.getElem?_eq_none (by rw [List.length_take, Array.length_toList, size_madeCells]; omega), List.getElem?_eq_none (by rw [repl_length]; simp [hz]; omega)]

def blk : Value → Option Nat
  | .pointer (some a) => some a.block
  | .slice (some a) _ _ => some a.block
  | _ => none

theorem Ch_setRow (w : World) (g : Nat) (cs : Array Value) : Ch g w (w.setRow g cs) :=
  ⟨rfl, rfl, rfl, by simp, fun k _ hk => setRow_other w g k cs hk⟩

theorem run_make_row {t e : TypeId} {te : Ty} (ht : P.underlying t = some (.slice e)) (he : TyOk P e te) (h0 : 0 < te.size) (hz : te.zero.length = te.size) (kl kc : IntKind) (n m : Nat) (hnm : n ≤ m) (hm : m ≤ 1099511627776) (hb : m * te.bytes ≤ 140737488355328) (w : World) :
    ∃ v w', (Instr.makeSlice t (.int kl (n : Int)) (.int kc (m : Int))).run P w = .ok v w' ∧ RowOk w' e te.size n (repl n te.zero) false v ∧ Le w w' ∧ blk v = some w.heap.size := by
  obtain ⟨i, z, hi, hs, hby, hzz, hc⟩ := he.info
  have hzs : z.cells.size = te.size := by rw [← hz, ← hc]; simp
  have hbb : (i.bytes : Int) * (m : Int) ≤ 281474976710656 := by
    have : ((i.bytes * m : Nat) : Int) ≤ 281474976710656 := by rw [hby, Nat.mul_comm]; omega
    rwa [Int.natCast_mul] at this
  have hr := run_make (P := P) w t e i z ht hi hzz kl kc n m (by omega) (by omega) hbb (by omega)
  simp only [Int.toNat_natCast, hs] at hr
  refine ⟨_, _, hr, ⟨by rw [repl_length, hz], .inr ⟨w.heap.size, m, _, rfl, heap_alloc_new w _, hnm, by simp only [maxLen]; omega, size_madeCells _ _, ?_, by simp⟩⟩, Le.alloc _ _, rfl⟩
  rw [made_take z.cells n m te.size hzs h0 hnm, hc]

theorem run_buildSlice {t e : TypeId} {te : Ty} (ht : P.underlying t = some (.slice e)) (he : TyOk P e te) (h0 : 0 < te.size) (hz : te.zero.length = te.size) (n : Nat) (hn : n * te.size ≤ 16777216)
    (ps : Array (Nat × Value)) (k : List Value → Prop) (hk : putParts (repl n te.zero) (rowPl te.size n 0) ps.toList k) (w : World) :
    ∃ l v w', (Instr.buildSlice t n ps).run P w = .ok v w' ∧ RowOk w' e te.size n l true v ∧ Le w w' ∧ blk v = some w.heap.size ∧ k l := by
  obtain ⟨z, hzc, hzr⟩ := run_zeroValue he
  have hzs : z.cells.size = te.size := by rw [← hz, ← hzc]; simp
  have hcells : (madeCells z.cells (n * te.size)).toList = repl n te.zero := by
    have := made_take z.cells n n te.size hzs h0 (Nat.le_refl _)
    rwa [List.take_of_length_le (by simp [size_madeCells]), hzc] at this
  rw [← hcells] at hk
  obtain ⟨l, hl, hf, hk⟩ := fill_of_putParts (fun i => some (i * te.size, te.size)) (rowPl te.size n 0) (by
      intro i p hp
      obtain ⟨_, h2⟩ := rowPl_get te.size n 0 i p hp
      simp [h2]) ps.toList (madeCells z.cells (n * te.size)) k hk
  rw [size_madeCells] at hl
  have hmax : n ≤ maxLen := by
    have : n ≤ n * te.size := Nat.le_mul_of_pos_right n h0
    simp only [maxLen]; omega
  refine ⟨l, .slice (some ⟨w.heap.size, 0, none⟩) n n, w.alloc (.cells l.toArray e), ?_, ⟨hl, .inr ⟨w.heap.size, n, l.toArray, rfl, heap_alloc_new w _, Nat.le_refl _, hmax, by simp [hl], by simp [← hl], fun _ => rfl⟩⟩, Le.alloc _ _, rfl, hk⟩
  have hng : ¬ (n * te.size > 16777216) := by omega
  by_cases hn0 : n * te.size = 0
  · have hnn : n = 0 := by
      rcases Nat.mul_eq_zero.1 hn0 with h | h
      · exact h
      · omega
    subst hnn
    have e1 : madeCells z.cells (0 * te.size) = #[] := by simp [madeCells]
    rw [e1] at hf
    simp only [Instr.buildSlice, Sem.run_bind, run_underlying ht, Result.andThen_ok, run_sizeOf he, Nat.zero_mul]
    simp [newRow]
    have e2 : (Array.map (fun _ => (default : Value)) (Array.range 0)) = #[] := by simp
    rw [e2, hf]
    simp
  · simp only [Instr.buildSlice, Sem.run_bind, run_underlying ht, Result.andThen_ok, run_sizeOf he]
    have hf' : Instr.fill (fun i => some (i * te.size, te.size)) ((Array.range (n * te.size)).map (fun x => z.cells[x % z.cells.size]!)) ps.toList = some l.toArray := hf
    simp [hng, hn0, hzr, hf', newRow]

theorem Ch_of_Le {g : Nat} {w w' : World} (h : Le w w') : Ch g w w' := ⟨Below.os h, Below.tape h, Below.output h, Below.size h, fun k hk _ => Below.block h k hk⟩

/-- append: into the row as it is, or into a new block. -/
theorem run_append_row {t e : TypeId} {te : Ty} (ty : TypeId) (ht : P.underlying t = some (.slice e)) (he : TyOk P e te) (hz : te.zero.length = te.size) (w : World) (s : Value) (n : Nat) (cs : List Value) (ex : Bool)
    (hrow : RowOk w e te.size n cs ex s) (a : Option Addr) (m c : Nat) (l : List Value) (hl : l.length = m * te.size) (h1 : oneCells l = true) (hsrc : m = 0 ∨ Cells w a 0 l)
    (hnm : n + m ≤ 1099511627776) (hb : (n + m) * te.bytes ≤ 140737488355328) :
    ∃ v' w', (Builtin.append_ #[t, t] ty #[s, .slice a m c]).run P w = .ok v' w' ∧ RowOk w' e te.size (n + m) (cs ++ l) false v' ∧
      ((Le w w' ∧ (blk v' = none ∨ blk v' = some w.heap.size)) ∨ ((ex = true → m = 0) ∧ ∃ g, blk s = some g ∧ blk v' = some g ∧ Ch g w w')) := by
  obtain ⟨i, z, hi, hs, hby, hzz, hzc⟩ := he.info
  have hzs : z.cells.size = te.size := by rw [← hz, ← hzc]; simp
  rw [oneCells_iff] at h1
  obtain ⟨hcl, hv⟩ := hrow
  have hlen : (cs ++ l).length = (n + m) * te.size := by rw [List.length_append, hcl, hl, Nat.add_mul]
  have hmax : n + m ≤ maxLen := by simp only [maxLen]; omega
  -- what a new block holds
  have grown : ∀ (old : Nat), old < n + m →
      RowOk (w.drew.alloc (.cells (cs.toArray ++ l.toArray ++ Builtin.zeroCells z.cells (grownCap w (n + m) old e - (n + m))) e)) e te.size (n + m) (cs ++ l) false
        (.slice (some ⟨w.heap.size, 0, none⟩) (n + m) (grownCap w (n + m) old e)) := by
    intro old ho
    have hge := grownCap_ge w (n + m) old e
    have hcm : grownCap w (n + m) old e ≤ maxLen := grownCap_le_maxLen w (n + m) old e hmax
    refine ⟨hlen, .inr ⟨w.heap.size, _, _, rfl, heap_alloc_new w.drew _, hge, hcm, ?_, ?_, by simp⟩⟩
    · simp only [Array.size_append, List.size_toArray, size_zeroCells, hzs, hcl, hl, ← Nat.add_mul]
      congr 1
      omega
    · simp only [Array.toList_append, List.append_assoc]
      rw [← List.append_assoc, ← hlen]
      exact List.take_left
  have hle : ∀ o, Le w (w.drew.alloc o) := fun o => (Le.drew w).trans (Le.alloc _ _)
  -- a source without an address has no elements
  cases a with
  | none =>
    have hm0 : m = 0 := by
      rcases hsrc with h | ⟨ad, h, _⟩
      · exact h
      · cases h
    subst hm0
    have hl0 : l = [] := List.eq_nil_of_length_eq_zero (by simpa using hl)
    subst hl0
    rcases hv with ⟨rfl, rfl⟩ | ⟨g, cap, cur, rfl, hg, hnc, hcm, hcs, htake, hex⟩
    · refine ⟨.slice none 0 0, w, ?_, ⟨by simpa using hcl, .inl ⟨rfl, rfl⟩⟩, .inl ⟨Le.refl _, .inl rfl⟩⟩
      simp [Builtin.append_, run_underlying ht, sizeOf, typeInfo, hi, Builtin.lenOf, Builtin.firstCells]
    · refine ⟨.slice (some ⟨g, 0, none⟩) n cap, w, ?_, ⟨by simpa using hcl, .inr ⟨g, cap, cur, rfl, hg, hnc, hcm, hcs, by simpa using htake, by simp⟩⟩, .inr ⟨fun _ => rfl, g, rfl, rfl, ⟨rfl, rfl, rfl, Nat.le_refl _, fun _ _ _ => rfl⟩⟩⟩
      simp [Builtin.append_, run_underlying ht, sizeOf, typeInfo, hi, Builtin.lenOf, Builtin.firstCells, hnc, storeCells]
  | some ad =>
    have hnews : ∀ j u, l[j]? = some u → w.cell? (ad.add j) = some u := by
      rcases hsrc with h | ⟨ad', h, hh⟩
      · subst h
        have hl0 : l = [] := List.eq_nil_of_length_eq_zero (by simpa using hl)
        subst hl0
        intro j u hj
        simp at hj
      · cases h
        intro j u hj
        have := hh j u hj
        rwa [Nat.zero_add] at this
    rcases hv with ⟨rfl, rfl⟩ | ⟨g, cap, cur, rfl, hg, hnc, hcm, hcs, htake, hex⟩
    · have hx : cs = [] := List.eq_nil_of_length_eq_zero (by simpa using hcl)
      subst hx
      by_cases hm : m = 0
      · subst hm
        have hn : l = [] := List.eq_nil_of_length_eq_zero (by simpa using hl)
        subst hn
        refine ⟨.slice none 0 0, w, ?_, ⟨by simp, .inl ⟨rfl, rfl⟩⟩, .inl ⟨Le.refl _, .inl rfl⟩⟩
        simp [Builtin.append_, run_underlying ht, sizeOf, typeInfo, hi, Builtin.lenOf, Builtin.firstCells, loadCells, loadCellsFrom]
      · have hr := run_append_nil (P := P) w t ty e i z ht hi hzz ad m c l (by rw [hs]; exact hl) hnews (by omega) (by omega) (by rw [hby]; simp only [Nat.zero_add] at hb; omega)
        have hgr := grown 0 (by omega)
        simp only [Nat.zero_add, List.nil_append, Array.empty_append] at hgr ⊢
        exact ⟨_, _, hr, hgr, .inl ⟨hle _, .inr rfl⟩⟩
    · by_cases hroom : n + m ≤ cap
      · have hfit : n * i.size + l.length ≤ cur.size := by rw [hl, hs, hcs, ← Nat.add_mul]; exact Nat.mul_le_mul_right _ hroom
        have hr := run_append_room (P := P) w t ty e i ht hi g n cap cur hg ad m c l (by rw [hs]; exact hl) hnews h1 hroom hfit
        refine ⟨_, _, hr, ⟨hlen, .inr ⟨g, cap, _, rfl, setRow_heap w g cur _ e _ hg, hroom, hcm, ?_, ?_, by simp⟩⟩, .inr ⟨?_, g, rfl, rfl, Ch_setRow _ _ _⟩⟩
        · simp only [List.size_toArray, List.length_append, List.length_take, List.length_drop, Array.length_toList]
          omega
        · rw [hs, htake, ← hlen]
          exact List.take_left
        · intro he
          have := hex he
          omega
      · have holds : ∀ j u, cs[j]? = some u → w.cell? ((⟨g, 0, none⟩ : Addr).add j) = some u := by
          intro j u hu
          rw [Addr.add0, Nat.zero_add, cell_of_row w g j cur e (0, 0) hg]
          rw [← htake, List.getElem?_take] at hu
          split at hu
          · simpa using hu
          · cases hu
        have hr := run_append_grow (P := P) w t ty e i z ht hi hzz ⟨g, 0, none⟩ n cap cs (by rw [hs]; exact hcl) holds ad m c l (by rw [hs]; exact hl) hnews (by omega) (by omega) (growslice_fits (by omega) (by rw [hby]; exact hb))
        exact ⟨_, _, hr, grown cap (by omega), .inl ⟨hle _, .inr rfl⟩⟩

end
end Go.Vc
