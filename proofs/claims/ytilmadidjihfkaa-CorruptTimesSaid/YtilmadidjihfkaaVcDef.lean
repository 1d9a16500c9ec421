/- The definitions of a verification condition generator over Go code as the model has it. Nothing is proved here. -/
import Derived.WalkKit
namespace Go.Vc
open Go.RowKit (Below)

/-- What the VC generator knows of a type. -/
inductive Kd where
  | int (k : IntKind)
  | bool
  | struct (fs : List (Nat × Nat × Nat)) (flat : Bool)   -- of each field: its offset, its type, its cells
  | arr (n : Nat) (e : TypeId) (esz : Nat) (flat : Bool)
  | slice (e : TypeId)
  | other

structure Ty where
  size : Nat
  bytes : Nat
  zero : List Value
  kd : Kd

abbrev Tab := List (Nat × Ty)

def Tab.find (T : Tab) (t : Nat) (k : Ty → Prop) : Prop :=
  match T with
  | [] => False
  | (n, ty) :: r => bif Nat.beq n t then k ty else Tab.find r t k

/-- A symbolic value. -/
inductive SV where
  | v (x : Value)
  | kb (b : Bool)
  | any
  | ob (i : Nat)
  | pt (i : Nat) (off : Nat)
  | ex (a : Option Addr) (off : Nat)

/-- An object of the call's own: a variable in memory (row = none), or a row of n elements of sz cells. -/
structure Ob where
  ty : TypeId
  cs : List Value
  lit : Bool
  row : Option (Nat × Nat × Bool)   -- sz, n, exact (the capacity is n)
  live : Bool

abbrev Slots := List (Nat × SV)
abbrev Obs := List Ob
abbrev Us := List (World × Nat)
abbrev K := Slots → Obs → Us → Prop

def Le (u w : World) : Prop := Below u.heap.size u w

def LeAll : Us → World → Prop
  | [], _ => True
  | (u, _) :: r, w => Le u w ∧ LeAll r w

def Slots.get : Slots → Nat → SV
  | [], _ => .any
  | (k, x) :: r, t => bif Nat.beq k t then x else Slots.get r t

def fV (y : Value) (k : Value → Prop) : Prop :=
  match y with
  | .bool b => k (.bool b)
  | .int a n => k (.int a n)
  | .float a n => k (.float a n)
  | .complex a n m => k (.complex a n m)
  | .string s => k (.string s)
  | .pointer a => k (.pointer a)
  | .slice a l c => k (.slice a l c)
  | .map r => k (.map r)
  | .chan r => k (.chan r)
  | .func f a b => k (.func f a b)
  | .nilFunc => k .nilFunc
  | .iface t v => k (.iface t v)
  | .nilIface => k .nilIface
  | .agg cs => k (.agg cs)
  | .tuple vs => k (.tuple vs)

def fSV (x : SV) (k : SV → Prop) : Prop :=
  match x with
  | .v y => fV y fun y => k (.v y)
  | .kb b => k (.kb b)
  | .any => k .any
  | .ob i => k (.ob i)
  | .pt i o => k (.pt i o)
  | .ex a o => k (.ex a o)

/-- A list written out (its elements as they stand). -/
def fL {α : Type} (l : List α) (k : List α → Prop) : Prop :=
  match l with
  | [] => k []
  | x :: r => fL r fun r => k (x :: r)

def ofConst (y : Value) (k : SV → Prop) : Prop :=
  match y with
  | .bool b => k (.kb b)
  | y => k (.v y)

def ev (sl : Slots) (x : Operand) (k : SV → Prop) : Prop :=
  match x with
  | .tmp t => fSV (sl.get t) k
  | .const v => ofConst v k
  | .func f => k (.v (.func (.func f) #[] #[]))
  | .global _ => False

/-- Operands that are plain values. -/
def evV (sl : Slots) (x : Operand) (k : Value → Prop) : Prop :=
  ev sl x fun x => match x with
  | .v y => k y
  | .kb b => k (.bool b)
  | _ => False

def evVs (sl : Slots) : List Operand → (List Value → Prop) → Prop
  | [], k => k []
  | x :: r, k => evV sl x fun y => evVs sl r fun ys => k (y :: ys)

def eqV : Value → Value → Bool
  | .int _ a, .int _ b => a == b
  | .bool a, .bool b => a == b
  | _, _ => false

def eqL : List Value → List Value → Bool
  | [], [] => true
  | a :: r, b :: s => eqV a b && eqL r s
  | _, _ => false

def intBin (k : IntKind) (op : BinOp) (a b : Int) (kk : SV → Prop) : Prop :=
  match op with
  | .add => kk (.v (.int k (k.wrap (a + b))))
  | .sub => kk (.v (.int k (k.wrap (a - b))))
  | .mul => kk (.v (.int k (k.wrap (a * b))))
  | .quo => b ≠ 0 ∧ kk (.v (.int k (k.wrap (a.tdiv b))))
  | .rem => b ≠ 0 ∧ kk (.v (.int k (a.tmod b)))
  | .eql => kk (.v (.bool (a == b)))
  | .neq => kk (.v (.bool (a != b)))
  | .lss => kk (.v (.bool (decide (a < b))))
  | .leq => kk (.v (.bool (decide (a ≤ b))))
  | .gtr => kk (.v (.bool (decide (a > b))))
  | .geq => kk (.v (.bool (decide (a ≥ b))))
  | _ => False

def boolBin (op : BinOp) (a b : Bool) (kk : SV → Prop) : Prop :=
  match op with
  | .eql => kk (.v (.bool (a == b)))
  | .neq => kk (.v (.bool (!(a == b))))
  | _ => False

def aggBin (op : BinOp) (a b : List Value) (kk : SV → Prop) : Prop :=
  match op with
  | .eql => kk (.v (.bool (eqL a b)))
  | .neq => kk (.v (.bool (!(eqL a b))))
  | _ => False

def len {α : Type} (l : List α) : Nat :=
  match l with
  | [] => 0
  | _ :: r => Nat.succ (len r)

def allI64 : List Value → Bool
  | [] => true
  | .int .i64 _ :: r => allI64 r
  | _ => false

def isFlat : Kd → Bool
  | .struct _ f => f
  | .arr _ _ _ f => f
  | _ => false

def vcBin (T : Tab) (op : BinOp) (t : Nat) (x y : Value) (kk : SV → Prop) : Prop :=
  match x, y with
  | .int .i64 a, .int .i64 b => intBin .i64 op a b kk
  | .int .u8 a, .int .u8 b => intBin .u8 op a b kk
  | .bool a, .bool b => T.find t fun ty => match ty.kd with | .bool => boolBin op a b kk | _ => False
  | .agg a, .agg b => T.find t fun ty => bif isFlat ty.kd && allI64 a.toList && allI64 b.toList && Nat.beq (len a.toList) ty.size && Nat.beq (len b.toList) ty.size then aggBin op a.toList b.toList kk else False
  | _, _ => False

def vcUn (op : UnOp) (x : SV) (kk : SV → Prop) : Prop :=
  match op, x with
  | .neg, .v (.int k n) => kk (.v (.int k (k.wrap (0 - n))))
  | .not, .v (.bool b) => kk (.v (.bool (!b)))
  | .not, .kb true => kk (.kb false)
  | .not, .kb false => kk (.kb true)
  | _, _ => False

/-- The cells of a value that is stored. -/
def cellsOf (y : Value) (k : List Value → Prop) : Prop :=
  match y with
  | .agg cs => fL cs.toList k
  | .tuple _ => False
  | y => k [y]

def splice (cs : List Value) (o : Nat) (xs : List Value) : List Value := cs.take o ++ xs ++ cs.drop (o + xs.length)

/-- The value of n cells: a struct or an array (agg), or a single cell. -/
def ofCells (agg : Bool) (l : List Value) (k : SV → Prop) : Prop :=
  match agg with
  | true => fL l fun l => k (.v (.agg l.toArray))
  | false => match l with
    | [x] => fV x fun x => k (.v x)
    | _ => False

def isAggK : Kd → Bool
  | .struct _ _ => true
  | .arr _ _ _ _ => true
  | _ => false

def Obs.at (obs : Obs) (i : Nat) (k : Ob → Prop) : Prop :=
  match obs, i with
  | [], _ => False
  | o :: _, 0 => k o
  | _ :: r, i + 1 => Obs.at r i k

/-- Object i is a variable of the call's own. -/
def Obs.box (obs : Obs) (i : Nat) (k : Prop) : Prop := obs.at i fun ob => match ob.live, ob.row with
  | true, none => k
  | _, _ => False

def Obs.upd (obs : Obs) (i : Nat) (o : Ob) (k : Obs → Prop) : Prop :=
  match obs, i with
  | [], _ => False
  | _ :: r, 0 => k (o :: r)
  | x :: r, i + 1 => Obs.upd r i o fun r => k (x :: r)

def Obs.snoc (obs : Obs) (o : Ob) (k : Obs → Prop) : Prop :=
  match obs with
  | [] => k [o]
  | x :: r => Obs.snoc r o fun r => k (x :: r)

/-- What remains sure of the named worlds when object i is written. -/
def trunc (us : Us) (i : Nat) (k : Us → Prop) : Prop :=
  match us with
  | [] => k []
  | (u, n) :: r => bif Nat.ble n i then trunc r i fun r => k ((u, n) :: r) else trunc r i k

def Cells (w : World) (a : Option Addr) (off : Nat) (cs : List Value) : Prop :=
  ∃ ad, a = some ad ∧ ∀ j c, cs[j]? = some c → w.cell? (ad.add (off + j)) = some c

/-- A pointer's object and offset. -/
def vcLoad (T : Tab) (t : Nat) (x : SV) (obs : Obs) (us : Us) (kk : SV → Prop) : Prop :=
  T.find t fun ty =>
    let go (i o : Nat) : Prop := obs.at i fun ob =>
      match ob.live with
      | true => match ob.lit with
        | true => fL ((ob.cs.drop o).take ty.size) fun l => bif Nat.beq (len l) ty.size then ofCells (isAggK ty.kd) l kk else False
        | false => ∃ l, (ob.cs.drop o).take ty.size = l ∧ l.length = ty.size ∧ ofCells (isAggK ty.kd) l kk
      | false => False
    match x with
    | .ob i => obs.box i (go i 0)
    | .pt i o => go i o
    | .ex a o => ∃ l, (∀ w, LeAll us w → Cells w a o l) ∧ l.length = ty.size ∧ ofCells (isAggK ty.kd) l kk
    | _ => False

/-- Of the blocks that were there, g alone may have changed. -/
structure Ch (g : Nat) (w w' : World) : Prop where
  os : w'.os = w.os
  tape : w'.tape = w.tape
  output : w'.output = w.output
  size : w.heap.size ≤ w'.heap.size
  block : ∀ k, k < w.heap.size → k ≠ g → w'.heap[k]? = w.heap[k]?

/-- The row behind a slice value: its cells, in a block of its own. -/
def RowOk (w : World) (e : TypeId) (sz n : Nat) (cs : List Value) (exact : Bool) (x : Value) : Prop :=
  cs.length = n * sz ∧
  ((x = .slice none 0 0 ∧ n = 0) ∨
   ∃ g cap cur, x = .slice (some ⟨g, 0, none⟩) n cap ∧ w.heap[g]? = some (.cells cur e (0, 0)) ∧ n ≤ cap ∧ cap ≤ maxLen ∧ cur.size = cap * sz ∧ cur.toList.take (n * sz) = cs ∧ (exact = true → cap = n))

/-- The block is none that these worlds have. -/
def Stale : Us → Option Addr → Prop
  | [], _ => True
  | (u, _) :: r, a => (∀ ad, a = some ad → u.heap.size ≤ ad.block) ∧ Stale r a

def deadRange (n1 n2 : Nat) : Nat → Obs → Bool
  | _, [] => true
  | i, o :: r => (Nat.blt i n1 || Nat.ble n2 i || !o.live) && deadRange n1 n2 (Nat.succ i) r

def nthU (us : Us) (q : Nat) (k : World → Nat → Prop) : Prop :=
  match us, q with
  | [], _ => False
  | (u, n) :: _, 0 => k u n
  | _ :: r, q + 1 => nthU r q k

/-- No object of the call's own lies in this block. -/
def Apart (obs : Obs) (us kept : Us) (q : Nat) (a : Option Addr) : Prop :=
  match kept with
  | [] => False
  | (_, n1) :: _ => nthU us q fun u n2 => (∀ ad, a = some ad → ad.block < u.heap.size) ∧ deadRange n1 n2 0 obs = true

/-- A store through an outer slice, whose row lies in a block of its own. -/
def vcStoreEx (obs : Obs) (us : Us) (a : Option Addr) (o size : Nat) (l : List Value) (kk : Obs → Us → Prop) : Prop :=
  ∃ (e sz n : Nat) (cs : List Value) (ex : Bool) (cap d q : Nat), (∀ w, LeAll us w → RowOk w e sz n cs ex (.slice a n cap)) ∧ o + size ≤ n * sz ∧
    fL (us.drop d) fun kept => Stale kept a ∧ Apart obs us kept q a ∧
    ∀ w w1, LeAll us w → (∀ ad, a = some ad → Ch ad.block w w1) → RowOk w1 e sz n (splice cs o l) ex (.slice a n cap) → kk obs ((w1, len obs) :: kept)

def oneCells : List Value → Bool
  | [] => true
  | .agg _ :: _ => false
  | .tuple _ :: _ => false
  | _ :: r => oneCells r

def vcStore (T : Tab) (t : Nat) (x : SV) (y : Value) (obs : Obs) (us : Us) (kk : Obs → Us → Prop) : Prop :=
  T.find t fun ty => cellsOf y fun cs => bif Nat.beq (len cs) ty.size && oneCells cs then
    let go (i o : Nat) : Prop := obs.at i fun ob =>
      match ob.live with
      | true => match ob.lit with
        | true => bif Nat.ble (o + ty.size) (len ob.cs) then fL (splice ob.cs o cs) fun l => obs.upd i { ob with cs := l } fun obs => trunc us i fun us => kk obs us else False
        | false => o + ty.size ≤ ob.cs.length ∧ obs.upd i { ob with cs := splice ob.cs o cs } fun obs => trunc us i fun us => kk obs us
      | false => False
    match x with
    | .ob i => obs.box i (go i 0)
    | .pt i o => go i o
    | .ex a o => vcStoreEx obs us a o ty.size cs kk
    | _ => False
    else False

def vcFieldAddr (T : Tab) (s : Nat) (x : SV) (f : Nat) (obs : Obs) (kk : SV → Prop) : Prop :=
  T.find s fun ty => match ty.kd with
  | .struct fs _ =>
    match fs.drop f with
    | (o, _, _) :: _ => match x with
      | .ob i => obs.box i (kk (.pt i o))
      | .pt i p => kk (.pt i (p + o))
      | .ex a p => kk (.ex a (p + o))
      | _ => False
    | [] => False
  | _ => False

def vcIndexAddr (T : Tab) (t : Nat) (x : SV) (j : Int) (obs : Obs) (kk : SV → Prop) : Prop :=
  T.find t fun ty => match ty.kd with
  | .arr n _ esz _ => match x with
    | .ob i => obs.box i (∃ m : Nat, j = m ∧ m < n ∧ kk (.pt i (m * esz)))
    | .pt i p => ∃ m : Nat, j = m ∧ m < n ∧ kk (.pt i (p + m * esz))
    | .ex a p => ∃ m : Nat, j = m ∧ m < n ∧ kk (.ex a (p + m * esz))
    | _ => False
  | .slice e => T.find e fun te => match x with
    | .v (.slice a l _) => ∃ m : Nat, j = m ∧ m < l ∧ a ≠ none ∧ kk (.ex a (m * te.size))
    | .ob i => obs.at i fun ob => match ob.live, ob.row with
      | true, some (sz, n, _) => bif Nat.beq sz te.size then ∃ m : Nat, j = m ∧ m < n ∧ kk (.pt i (m * sz)) else False
      | _, _ => False
    | _ => False
  | _ => False

/-- A call returns v, nothing that was there has changed, and Φ v w' holds. -/
def Ret (P : Program) (f : FuncId) (args : Array Value) (w : World) (Φ : Value → World → Prop) : Prop :=
  Calls P f args w fun e w' => ∃ v, e = .returned v ∧ Le w w' ∧ Φ v w'

def vcCall (P : Program) (f : FuncId) (args : List Value) (n : Nat) (us : Us) (kk : SV → Us → Prop) : Prop :=
  ∀ w, LeAll us w → ∃ Φ : Value → World → Prop, Ret P f args.toArray w Φ ∧ ∀ v w', LeAll ((w, n) :: us) w' → Φ v w' → kk (.v v) ((w', n) :: (w, n) :: us)

/-- Parts put in place: a part's offset and size by its number. -/
def putParts (cs : List Value) (pl : List (Nat × Nat)) : List (Nat × Value) → (List Value → Prop) → Prop
  | [], k => k cs
  | (i, y) :: r, k => match pl.drop i with
    | (o, n) :: _ => cellsOf y fun xs => bif Nat.beq (len xs) n && Nat.ble (o + len xs) (len cs) then fL (splice cs o xs) fun l => putParts l pl r k else False
    | [] => False

def evParts (sl : Slots) : List (Nat × Operand) → (List (Nat × Value) → Prop) → Prop
  | [], k => k []
  | (i, x) :: r, k => evV sl x fun y => evParts sl r fun ys => k ((i, y) :: ys)

def rowPl (esz : Nat) : Nat → Nat → List (Nat × Nat)
  | 0, _ => []
  | n + 1, o => (o, esz) :: rowPl esz n (o + esz)

def plOf : Kd → List (Nat × Nat)
  | .struct fs _ => fs.map fun f => (f.1, f.2.2)
  | .arr n _ esz _ => rowPl esz n 0
  | _ => []

def repl (n : Nat) (z : List Value) : List Value := (List.replicate n z).flatten

/-- The source of an append: an external slice, or a row of the call's own. -/
def vcSrc (x : SV) (sz : Nat) (obs : Obs) (us : Us) (kk : Nat → List Value → Prop) : Prop :=
  match x with
  | .v (.slice a m _) => ∃ l : List Value, (∀ w, LeAll us w → m = 0 ∨ Cells w a 0 l) ∧ l.length = m * sz ∧ oneCells l = true ∧ kk m l
  | .ob i => obs.at i fun ob => match ob.live, ob.row with
    | true, some (sz', m, _) => bif Nat.beq sz' sz then oneCells ob.cs = true ∧ kk m ob.cs else False
    | _, _ => False
  | _ => False

def vcAppend (T : Tab) (t : Nat) (s x : SV) (obs : Obs) (us : Us) (kk : SV → Obs → Us → Prop) : Prop :=
  T.find t fun ty => match ty.kd with
  | .slice e => T.find e fun te => bif Nat.ble 1 te.size && Nat.beq (len te.zero) te.size then
    vcSrc x te.size obs us fun m l =>
      match s with
      | .v (.slice a n cap) => ∃ cs, (∀ w, LeAll us w → RowOk w e te.size n cs true (.slice a n cap)) ∧ (a = none ∨ 1 ≤ m) ∧ (n + m ≤ 1099511627776 ∧ (n + m) * te.bytes ≤ 140737488355328) ∧
          obs.snoc ⟨e, cs ++ l, false, some (te.size, n + m, false), true⟩ fun obs' => kk (.ob (len obs)) obs' us
      | .ob i => obs.at i fun ob => match ob.live, ob.row with
        | true, some (sz, n, exact) => bif Nat.beq sz te.size && Nat.beq ob.ty e then (n + m ≤ 1099511627776 ∧ (n + m) * te.bytes ≤ 140737488355328) ∧
            (let general : Prop := obs.upd i { ob with live := false } fun obs1 => obs1.snoc ⟨e, ob.cs ++ l, false, some (te.size, n + m, false), true⟩ fun obs' => trunc us i fun us => kk (.ob (len obs)) obs' us
            match exact with
            | true => (1 ≤ m ∧ obs.snoc ⟨e, ob.cs ++ l, false, some (te.size, n + m, false), true⟩ fun obs' => kk (.ob (len obs)) obs' us) ∨ general
            | false => general)
            else False
        | _, _ => False
      | _ => False
    else False
  | _ => False

def vcMake (T : Tab) (t : Nat) (l c : Int) (kk : Ob → Prop) : Prop :=
  T.find t fun ty => match ty.kd with
  | .slice e => T.find e fun te => bif Nat.ble 1 te.size && Nat.beq (len te.zero) te.size then
      ∃ n m : Nat, l = n ∧ c = m ∧ n ≤ m ∧ m ≤ 1099511627776 ∧ m * te.bytes ≤ 140737488355328 ∧
      kk ⟨e, repl n te.zero, false, some (te.size, n, false), true⟩
    else False
  | _ => False

def vcBuildSlice (T : Tab) (t n : Nat) (ps : List (Nat × Value)) (kk : Ob → Prop) : Prop :=
  T.find t fun ty => match ty.kd with
  | .slice e => T.find e fun te => bif Nat.ble 1 te.size && Nat.beq (len te.zero) te.size then
      bif Nat.ble (n * te.size) 16777216 then
      fL (repl n te.zero) fun z => fL (rowPl te.size n 0) fun pl => putParts z pl ps fun l =>
        kk ⟨e, l, false, some (te.size, n, true), true⟩
      else False
    else False
  | _ => False

def vcLen (T : Tab) (t : Nat) (x : SV) (obs : Obs) (kk : SV → Prop) : Prop :=
  T.find t fun ty => match ty.kd, x with
  | .slice _, .v (.slice _ n _) => kk (.v (.int .i64 n))
  | .slice _, .ob i => obs.at i fun ob => match ob.live, ob.row with
    | true, some (_, n, _) => kk (.v (.int .i64 n))
    | _, _ => False
  | .arr n _ _ _, _ => kk (.v (.int .i64 n))
  | _, _ => False

def maxL (k : IntKind) (a : Int) : List Value → (Int → Prop) → Prop
  | [], kk => kk a
  | .int k' b :: r, kk => match k, k' with
    | .i64, .i64 => maxL k (if b > a then b else a) r kk
    | _, _ => False
  | _, _ => False

def vcMax (l : List Value) (kk : SV → Prop) : Prop :=
  match l with
  | .int .i64 a :: r => maxL .i64 a r fun a => kk (.v (.int .i64 a))
  | _ => False

def optInt (sl : Slots) (x : Option Operand) (d : Nat) (k : Nat → Prop) : Prop :=
  match x with
  | none => k d
  | some x => evV sl x fun y => match y with
    | .int .i64 j => ∃ m : Nat, j = m ∧ k m
    | _ => False

/-- A slice of an external slice. -/
def vcSlice (T : Tab) (sl : Slots) (t : Nat) (x : SV) (lo hi mx : Option Operand) (kk : SV → Prop) : Prop :=
  T.find t fun ty => match ty.kd with
  | .slice e => T.find e fun te => match x with
    | .v (.slice a n c) =>
      optInt sl mx c fun m => optInt sl hi n fun h => optInt sl lo 0 fun l =>
        m ≤ c ∧ h ≤ m ∧ l ≤ h ∧ kk (.v (.slice (if m = l then a else a.map (·.add (l * te.size))) (h - l) (m - l)))
    | _ => False
  | _ => False

def nth (l : List Value) (i : Nat) (k : Value → Prop) : Prop :=
  match l, i with
  | [], _ => False
  | x :: _, 0 => k x
  | _ :: r, i + 1 => nth r i k

/-- A part of an aggregate: size cells from off on. -/
def vcPart (ty : Ty) (l : List Value) (off : Nat) (kk : SV → Prop) : Prop :=
  fL ((l.drop off).take ty.size) fun l => bif Nat.beq (len l) ty.size then ofCells (isAggK ty.kd) l kk else False

/-- Operations that only compute and read. -/
def vcPure (T : Tab) (o : Op) (sl : Slots) (obs : Obs) (us : Us) (k : SV → Prop) : Prop :=
  match o with
  | .move x => ev sl x k
  | .assign x => ev sl x k
  | .pick c a b => ev sl c fun c => match c with
    | .kb true => ev sl a k
    | .kb false => ev sl b k
    | .v (.bool q) => (q = true → ev sl a k) ∧ (q = false → ev sl b k)
    | _ => False
  | .binOp op t x y _ => evV sl x fun x => evV sl y fun y => vcBin T op t x y k
  | .unOp op _ x => ev sl x fun x => vcUn op x k
  | .convert src dst x => evV sl x fun x => match x with
    | .int _ n => T.find src fun _ => T.find dst fun ty => match ty.kd with
      | .int kd => k (.v (.int kd (kd.wrap n)))
      | _ => False
    | _ => False
  | .extract x i => evV sl x fun x => match x with
    | .tuple vs => nth vs.toList i fun y => fV y fun y => k (.v y)
    | _ => False
  | .build t ps => T.find t fun ty => bif Nat.beq (len ty.zero) ty.size && isAggK ty.kd then evParts sl ps.toList fun ps => putParts ty.zero (plOf ty.kd) ps fun l => k (.v (.agg l.toArray)) else False
  | .load t x => ev sl x fun x => vcLoad T t x obs us k
  | .fieldAddr s x f => ev sl x fun x => vcFieldAddr T s x f obs k
  | .indexAddr t x j => ev sl x fun x => evV sl j fun j => match j with
    | .int _ j => vcIndexAddr T t x j obs k
    | _ => False
  | .field t x f => evV sl x fun x => match x with
    | .agg cs => T.find t fun ty => match ty.kd with
      | .struct fs _ => match fs.drop f with
        | (o, e, _) :: _ => T.find e fun te => vcPart te cs.toList o k
        | [] => False
      | _ => False
    | _ => False
  | .index t x j => evV sl x fun x => evV sl j fun j => match x, j with
    | .agg cs, .int _ j => T.find t fun ty => match ty.kd with
      | .arr n e esz _ => T.find e fun te => ∃ m : Nat, j = m ∧ m < n ∧ ∃ l, (cs.toList.drop (m * esz)).take te.size = l ∧ l.length = te.size ∧ ofCells (isAggK te.kd) l k
      | _ => False
    | _, _ => False
  | .slice t x lo hi mx => match hi, mx with
    | none, some _ => False
    | hi, mx => ev sl x fun x => vcSlice T sl t x lo hi mx k
  | .makeFunc f first cap => evVs sl first.toList fun a => evVs sl cap.toList fun b => k (.v (.func f a.toArray b.toArray))
  | .call c => match c.callee with
    | .builtin .len => match c.args.toList, c.argTypes.toList with
      | [x], [t] => ev sl x fun x => vcLen T t x obs k
      | _, _ => False
    | .builtin .max => evVs sl c.args.toList fun l => vcMax l k
    | _ => False
  | _ => False

def isLit (ty : Ty) : Bool := match ty.kd with | .arr _ _ _ _ => false | _ => true

/-- Operations that make an object. -/
def vcNew (T : Tab) (o : Op) (sl : Slots) (k : Ob → Prop) : Prop :=
  match o with
  | .alloc t => T.find t fun ty => bif Nat.beq (len ty.zero) ty.size then k ⟨t, ty.zero, isLit ty, none, true⟩ else False
  | .box t x => evV sl x fun x => T.find t fun ty => cellsOf x fun cs => bif Nat.beq (len cs) ty.size then k ⟨t, cs, isLit ty, none, true⟩ else False
  | .makeSlice t l c => evV sl l fun l => evV sl c fun c => match l, c with
    | .int _ l, .int _ c => vcMake T t l c k
    | _, _ => False
  | .buildSlice t n ps => evParts sl ps.toList fun ps => vcBuildSlice T t n ps k
  | _ => False

/-- A call of a Go function: which one, with which arguments. -/
def vcFn (F : Nat) (f : Operand) (args : List Operand) (sl : Slots) (k : FuncId → List Value → Prop) : Prop :=
  evV sl f fun f => match f with
    | .func (.func f) a b => bif Nat.blt 2 f && Nat.blt f F then evVs sl args fun l => fL (a.toList ++ l ++ b.toList) fun l => k f l else False
    | _ => False

inductive OpK where
  | pure | new | store | append | call

def opK : Op → OpK
  | .alloc _ => .new
  | .box _ _ => .new
  | .makeSlice _ _ _ => .new
  | .buildSlice _ _ _ => .new
  | .store _ _ _ => .store
  | .call c => match c.callee with
    | .value _ => .call
    | .builtin .append => .append
    | _ => .pure
  | _ => .pure

def vcOp (P : Program) (F : Nat) (T : Tab) (o : Op) (sl : Slots) (obs : Obs) (us : Us) (k : SV → Obs → Us → Prop) : Prop :=
  match opK o with
  | .pure => vcPure T o sl obs us fun x => k x obs us
  | .new => vcNew T o sl fun ob => obs.snoc ob fun obs' => k (.ob (len obs)) obs' us
  | .store => match o with
    | .store t x y => ev sl x fun x => evV sl y fun y => vcStore T t x y obs us fun obs us => k (.v undef) obs us
    | _ => False
  | .append => match o with
    | .call c => match c.args.toList, c.argTypes.toList with
      | [s, x], [t, t'] => bif Nat.beq t t' then ev sl s fun s => ev sl x fun x => vcAppend T t s x obs us k else False
      | _, _ => False
    | _ => False
  | .call => match o with
    | .call c => match c.callee with
      | .value f => vcFn F f c.args.toList sl fun f l => vcCall P f l (len obs) us fun r us => k r obs us
      | _ => False
    | _ => False

def Fresh : Us → Nat → Option Addr → Prop
  | [], _, _ => True
  | (u, n) :: r, i, a => (bif Nat.ble n i then (∀ ad, a = some ad → u.heap.size ≤ ad.block) else True) ∧ Fresh r i a

def subS (i : Nat) (y : Value) : Slots → (Slots → Prop) → Prop
  | [], k => k []
  | (t, x) :: r, k => match x with
    | .ob j => bif Nat.beq j i then subS i y r fun r => k ((t, .v y) :: r) else subS i y r fun r => k ((t, .ob j) :: r)
    | x => subS i y r fun r => k ((t, x) :: r)

/-- Rows of the call's own among these operands are taken for plain slices from here on. -/
def vcFreeze : List Operand → Slots → Obs → Us → K → Prop
  | [], sl, obs, us, k => k sl obs us
  | x :: r, sl, obs, us, k => match x with
    | .tmp t => match sl.get t with
      | .ob i => obs.at i fun ob => match ob.live, ob.row with
        | true, some (sz, n, ex) => ∀ a cap w, LeAll us w → RowOk w ob.ty sz n ob.cs ex (.slice a n cap) → Fresh us i a →
            subS i (.slice a n cap) sl fun sl => obs.upd i { ob with live := false } fun obs => vcFreeze r sl obs ((w, len obs) :: us) k
        | _, _ => vcFreeze r sl obs us k
      | _ => vcFreeze r sl obs us k
    | _ => vcFreeze r sl obs us k

def frz : Op → List Operand
  | .call c => match c.callee with
    | .value _ => c.args.toList
    | _ => []
  | .build _ ps => ps.toList.map (·.2)
  | .buildSlice _ _ ps => ps.toList.map (·.2)
  | .makeFunc _ a b => a.toList ++ b.toList
  | .store _ _ y => [y]
  | .slice _ x _ _ _ => [x]
  | _ => []

def dstOf (all : List Oper) (j : Nat) : Option Nat :=
  match all, j with
  | [], _ => none
  | o :: _, 0 => o.dst
  | _ :: r, j + 1 => dstOf r j

def putS (N : Nat) (d : Option Nat) (x : SV) (sl : Slots) (k : Slots → Prop) : Prop :=
  match d with
  | none => k sl
  | some d => bif Nat.blt d N then k ((d, x) :: sl) else False

def vcGuard (all : List Oper) (gd : Option (Nat × Bool)) (sl : Slots) (run skip : Slots → Prop) : Prop :=
  match gd with
  | none => run sl
  | some (j, want) => match dstOf all j with
    | none => False
    | some t => fSV (sl.get t) fun g => match g with
      | .kb b => match b, want with
        | true, true => run sl
        | false, false => run sl
        | _, _ => skip sl
      | .v (.bool q) => match want with
        | true => (q = true → run ((t, .kb true) :: sl)) ∧ (q = false → skip ((t, .kb false) :: sl))
        | false => (q = false → run ((t, .kb false) :: sl)) ∧ (q = true → skip ((t, .kb true) :: sl))
      | .v (.tuple _) => skip sl
      | _ => False

/-- One operation; the continuation stands here once (the kernel compares it once). -/
def stepO (P : Program) (F : Nat) (T : Tab) (N : Nat) (all : List Oper) (o : Oper) (k : K) : K := fun sl obs us => vcGuard all o.guard sl
      (fun sl => vcFreeze (frz o.op) sl obs us fun sl obs us => vcOp P F T o.op sl obs us fun x obs us => putS N o.dst x sl fun sl => k sl obs us)
      (fun sl => putS N o.dst (.v undef) sl fun sl => k sl obs us)

def vcOps (P : Program) (F : Nat) (T : Tab) (N : Nat) (all : List Oper) : List Oper → K → K
  | [], k => k
  | o :: r, k => stepO P F T N all o (vcOps P F T N all r k)

/-! A region that draws its order: what only reads or makes new objects, in any order; then the rest, one behind the other. -/

def okRef (n : Nat) : SV → Bool
  | .ob i => Nat.blt i n
  | .pt i _ => Nat.blt i n
  | _ => true

def vcOpD (P : Program) (F : Nat) (T : Tab) (o : Op) (sl : Slots) (obs : Obs) (us : Us) (kv : SV → Prop) (kn : Ob → Prop) : Prop :=
  match opK o with
  | .pure => vcPure T o sl obs us kv
  | .new => vcNew T o sl kn
  | .call => match o with
    | .call c => match c.callee with
      | .value f => vcFn F f c.args.toList sl fun f l => ∃ v, (∀ w, LeAll us w → Ret P f l.toArray w fun v' _ => v' = v) ∧ kv (.v v)
      | _ => False
    | _ => False
  | _ => False

def stepD (P : Program) (F : Nat) (T : Tab) (N : Nat) (all : List Oper) (obs : Obs) (us : Us) (o : Oper) (k : Obs → Slots → Prop) (cr : Obs) (sl : Slots) : Prop := vcGuard all o.guard sl
      (fun sl => vcOpD P F T o.op sl obs us
        (fun x => bif okRef (len obs) x then putS N o.dst x sl fun sl => k cr sl else False)
        (fun ob => cr.snoc ob fun cr' => putS N o.dst (.ob (len obs + len cr)) sl fun sl => k cr' sl))
      (fun sl => putS N o.dst (.v undef) sl fun sl => k cr sl)

def vcHead (P : Program) (F : Nat) (T : Tab) (N : Nat) (all : List Oper) (obs : Obs) (us : Us) (k : Slots → Obs → Prop) : List Oper → Obs → Slots → Prop
  | [] => fun cr sl => k sl cr
  | o :: r => stepD P F T N all obs us o (vcHead P F T N all obs us k r)

/-- The first operation that writes. -/
def cutAt : List Oper → Nat
  | [] => 0
  | o :: r => match opK o.op with
    | .store => 0
    | .append => 0
    | _ => Nat.succ (cutAt r)

def takeN {α : Type} : Nat → List α → List α
  | 0, _ => []
  | _, [] => []
  | n + 1, x :: r => x :: takeN n r

def dropN {α : Type} : Nat → List α → List α
  | 0, l => l
  | _, [] => []
  | n + 1, _ :: r => dropN n r

def vcDraw (P : Program) (F : Nat) (T : Tab) (N : Nat) (all : List Oper) (k : K) : K := fun sl obs us =>
  fL (takeN (cutAt all) all) fun hd => fL (dropN (cutAt all) all) fun tl =>
  vcHead P F T N all obs us (fun sl cr => fL (obs ++ cr) fun obs' => vcOps P F T N all tl k sl obs' us) hd [] sl

/-- The slots that code writes. -/
def wr : Code → List Nat
  | .region _ ops _ => ops.toList.filterMap (·.dst)
  | .seq a b => wr a ++ wr b
  | .cond _ a b => wr a ++ wr b
  | .block _ b => wr b
  | .loop b => wr b
  | .scope b => wr b
  | .rangeFunc _ ps a b => ps.toList ++ wr a ++ wr b
  | _ => []

def memN (t : Nat) : List Nat → Bool
  | [] => false
  | x :: r => bif Nat.beq x t then true else memN t r

/-- What is left of the slots at a loop's head. -/
def clear (W : List Nat) : Slots → (Slots → Prop) → Prop
  | [], k => k []
  | (t, x) :: r, k => bif memN t W then clear W r k else clear W r fun r => k ((t, x) :: r)

/-- A loop's invariant: what it carries (slots, contents of objects, rows of the call's own) as functions of x. -/
structure LSpec (X : Type) where
  inv : X → World → Prop
  slots : List (Nat × (X → Value))
  boxes : List (Nat × (X → List Value))
  rows : List (Nat × TypeId × Nat × (X → Nat) × (X → List Value))     -- slot, element type, its cells, number of elements, cells
  mu : X → Nat
  drop : Nat

def keysOf {α : Type} : List (Nat × α) → List Nat
  | [] => []
  | (t, _) :: r => t :: keysOf r

def putAll {X : Type} (N : Nat) (x : X) : List (Nat × (X → Value)) → Slots → (Slots → Prop) → Prop
  | [], sl, k => k sl
  | (t, y) :: r, sl, k => bif Nat.blt t N then putAll N x r ((t, .v (y x)) :: sl) k else False

/-- The slots hold these values. -/
def hasAll {X : Type} (sl : Slots) (x : X) : List (Nat × (X → Value)) → Prop
  | [] => True
  | (t, y) :: r => (match sl.get t with | .v z => z = y x | .kb b => .bool b = y x | _ => False) ∧ hasAll sl x r

def over {X : Type} (x : X) (bx : List (Nat × (X → List Value))) (i : Nat) (cs : List Value) : List Value :=
  match bx with
  | [] => cs
  | (j, l) :: r => bif Nat.beq j i then l x else over x r i cs

def hasKey {α : Type} (i : Nat) : List (Nat × α) → Bool
  | [] => false
  | (j, _) :: r => bif Nat.beq j i then true else hasKey i r

/-- The objects' contents that a loop changes, put in place. -/
def setBoxes {X : Type} (x : X) (bx : List (Nat × (X → List Value))) : Nat → Obs → (Obs → Prop) → Prop
  | _, [], k => k []
  | i, o :: r, k => bif hasKey i bx then setBoxes x bx (i + 1) r fun r => k ({ o with cs := over x bx i o.cs } :: r) else setBoxes x bx (i + 1) r fun r => k (o :: r)

/-- The rows that a loop carries have a new number at its head. -/
def killRows {X : Type} (sl : Slots) : List (Nat × TypeId × Nat × (X → Nat) × (X → List Value)) → Obs → (Obs → Prop) → Prop
  | [], obs, k => k obs
  | (t, _) :: r, obs, k => match sl.get t with
    | .ob j => obs.at j fun ob => obs.upd j { ob with live := false } fun obs => killRows sl r obs k
    | _ => killRows sl r obs k

def deadAt (obs : Obs) (j : Nat) : Bool :=
  match obs, j with
  | [], _ => true
  | o :: _, 0 => !o.live
  | _ :: r, j + 1 => deadAt r j

def keptOk (j : Nat) : Us → Bool
  | [] => true
  | (_, n) :: r => Nat.ble n j && keptOk j r

def hasRows {X : Type} (sl : Slots) (obs obsE : Obs) (kept : Us) (x : X) : List (Nat × TypeId × Nat × (X → Nat) × (X → List Value)) → List Nat → Prop
  | [], _ => True
  | (t, e, sz, n, cs) :: r, seen => match sl.get t with
    | .v (.slice none 0 0) => n x = 0 ∧ cs x = [] ∧ hasRows sl obs obsE kept x r seen
    | .ob j => bif deadAt obsE j && !memN j seen && keptOk j kept then
        (obs.at j fun ob => match ob.live, ob.row with
          | true, some (sz', n', _) => bif Nat.beq sz' sz && Nat.beq ob.ty e then n' = n x ∧ ob.cs = cs x else False
          | _, _ => False) ∧ hasRows sl obs obsE kept x r (j :: seen) else False
    | _ => False

def setRows {X : Type} (N : Nat) (x : X) : List (Nat × TypeId × Nat × (X → Nat) × (X → List Value)) → Slots → Obs → (Slots → Obs → Prop) → Prop
  | [], sl, obs, k => k sl obs
  | (t, e, sz, n, cs) :: r, sl, obs, k => bif Nat.blt t N then obs.snoc ⟨e, cs x, false, some (sz, n x, false), true⟩ fun obs' => setRows N x r ((t, .ob (len obs)) :: sl) obs' k else False

def sameRow : Option (Nat × Nat × Bool) → Option (Nat × Nat × Bool) → Prop
  | none, none => True
  | a, b => a = b

/-- The objects that were there at the head are there, with what the invariant says of them. -/
def sameObs {X : Type} (x : X) (bx : List (Nat × (X → List Value))) : Nat → Obs → Obs → Prop
  | _, [], _ => True
  | i, o :: r, c :: s => (match o.live with
    | true => match c.live with
      | true => bif Nat.beq c.ty o.ty then sameRow c.row o.row ∧ c.cs = over x bx i o.cs else False
      | false => False
    | false => True) ∧ sameObs x bx (i + 1) r s
  | _, _ :: _, [] => False

def nonE : Us → Bool
  | [] => false
  | _ :: _ => true

def allIn (W : List Nat) : Slots → Bool
  | [] => true
  | (t, _) :: r => memN t W && allIn W r

def vcLoop (N : Nat) (W : List Nat) (body : K → K) (sl : Slots) (obs : Obs) (us : Us) : Prop :=
  ∃ (X : Type) (L : LSpec X) (x0 : X),
    killRows sl L.rows obs fun obsE => fL (us.drop L.drop) fun kept => fL (W ++ (keysOf L.slots ++ keysOf L.rows)) fun W => clear W sl fun sl1 =>
    bif nonE kept then hasAll sl x0 L.slots ∧ hasRows sl obs obsE kept x0 L.rows [] ∧ sameObs x0 L.boxes 0 obsE obs ∧ (∀ w, LeAll us w → L.inv x0 w) ∧
    ∀ x w, LeAll kept w → L.inv x w →
      setBoxes x L.boxes 0 obsE fun obs1 => putAll N x L.slots sl1 fun sl2 => setRows N x L.rows sl2 obs1 fun sl3 obs3 =>
        body (fun sl' obs' us' => ∃ x', L.mu x' < L.mu x ∧ hasAll sl' x' L.slots ∧ hasRows sl' obs' obsE kept x' L.rows [] ∧ sameObs x' L.boxes 0 obsE obs' ∧
          (sl'.drop (len sl' - len sl1) = sl1 ∧ allIn W (takeN (len sl' - len sl1) sl') = true) ∧ us'.drop (len us' - len kept) = kept ∧ ∀ w', LeAll us' w' → L.inv x' w') sl3 obs3 ((w, len obs3) :: kept)
    else False

def vcCode (P : Program) (F : Nat) (T : Tab) (N : Nat) : Code → K → K → (Nat → K) → K
  | .skip, kn, _, _ => kn
  | .seq a b, kn, kr, kx => vcCode P F T N a (vcCode P F T N b kn kr kx) kr kx
  | .cond c a b, kn, kr, kx => fun sl obs us => ev sl c fun c => match c with
    | .kb true => vcCode P F T N a kn kr kx sl obs us
    | .kb false => vcCode P F T N b kn kr kx sl obs us
    | .v (.bool q) => (q = true → vcCode P F T N a kn kr kx sl obs us) ∧ (q = false → vcCode P F T N b kn kr kx sl obs us)
    | _ => False
  | .block id body, kn, kr, kx => vcCode P F T N body kn kr fun i => bif Nat.beq i id then kn else kx i
  | .exit id, _, _, kx => kx id
  | .ret, _, kr, _ => kr
  | .loop body, _, kr, kx => vcLoop N (wr body) fun kn => vcCode P F T N body kn kr kx
  | .region _ ops false, kn, _, _ => vcOps P F T N ops.toList ops.toList kn
  | .region _ ops true, kn, _, _ => vcDraw P F T N ops.toList kn
  | _, _, _, _ => fun _ _ _ => False

def vcRets (T : Tab) (sl : Slots) (obs : Obs) (us : Us) : List ResultVar → (List Value → Prop) → Prop
  | [], k => k []
  | .tmp t :: r, k => fSV (sl.get t) fun x => match x with
    | .v y => vcRets T sl obs us r fun ys => k (y :: ys)
    | .kb b => vcRets T sl obs us r fun ys => k (.bool b :: ys)
    | _ => False
  | .cell t ty :: r, k => fSV (sl.get t) fun x => vcLoad T ty x obs us fun y => match y with
    | .v y => vcRets T sl obs us r fun ys => k (y :: ys)
    | _ => False

def retOps : List ResultVar → List Operand
  | [] => []
  | .tmp t :: r => .tmp t :: retOps r
  | .cell t _ :: r => .tmp t :: retOps r

def retK (T : Tab) (rs : List ResultVar) (Φ : Value → World → Prop) : K := fun sl obs us =>
  vcFreeze (retOps rs) sl obs us fun sl obs us => ∀ w, LeAll us w → vcRets T sl obs us rs fun vs => match vs with
    | [x] => Φ x w
    | vs => Φ (.tuple vs.toArray) w

def initS (i : Nat) : List Value → Slots
  | [] => []
  | x :: r => (i, .v x) :: initS (i + 1) r

def vcFun (P : Program) (F : Nat) (T : Tab) (fn : Func) (args : List Value) (w : World) (Φ : Value → World → Prop) : Prop :=
  match fn.body with
  | some c => vcCode P F T fn.ntmps c (retK T fn.results.toList Φ) (retK T fn.results.toList Φ) (fun _ _ _ _ => False) (initS 0 args) [] [(w, 0)]
  | none => False

end Go.Vc
