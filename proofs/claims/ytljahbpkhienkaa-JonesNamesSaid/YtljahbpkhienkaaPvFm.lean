/- The definitions of the VC generator: regions that draw their order, loops, code, functions. Nothing is proved here. -/
import Derived.Test.YtljahbpkhienkaaPvE
namespace Go.Pv
open Go.Vc

/-! A region that draws its order: what only reads or makes new objects, in any order; then the rest, one behind the other. -/

def noRefs (l : List SV) : Bool := match pures l with
  | some _ => true
  | none => false

def isTmp (t : Nat) : Operand → Bool
  | .tmp u => Nat.beq u t
  | _ => false

def anyTmp (t : Nat) : List Operand → Bool
  | [] => false
  | x :: r => bif isTmp t x then true else anyTmp t r

/-- A slot that is handed to a Go function, or is part of a slice. -/
def argUse (t : Nat) : List Oper → Bool
  | [] => false
  | o :: r => match o.op with
    | .call c => match c.callee with
      | .value _ => bif anyTmp t c.args.toList then true else argUse t r
      | .builtin .append => match c.args.toList with
        | x :: _ => bif isTmp t x then true else argUse t r
        | [] => argUse t r
      | _ => argUse t r
    | .buildSlice _ _ ps => bif anyTmp t (ps.toList.map (·.2)) then true else argUse t r
    | _ => argUse t r

/-- A slot whose elements an append takes. -/
def srcUse (t : Nat) : List Oper → Bool
  | [] => false
  | o :: r => match o.op with
    | .call c => match c.callee with
      | .builtin .append => match c.args.toList with
        | [_, x] => bif isTmp t x then true else srcUse t r
        | _ => srcUse t r
      | _ => srcUse t r
    | _ => srcUse t r

/-- The slot holds a slice that is built here. -/
def builtT (t : Nat) : List Oper → Bool
  | [] => false
  | o :: r => match o.op, o.dst with
    | .buildSlice _ _ _, some d => bif Nat.beq d t then true else builtT t r
    | _, _ => builtT t r

/-- An append to a slice that is built here. -/
def litApp (all : List Oper) (o : Oper) : Bool := match o.op with
  | .call c => match c.callee with
    | .builtin .append => match c.args.toList with
      | .tmp t :: _ => builtT t all
      | _ => false
    | _ => false
  | _ => false

def ownApps (all : List Oper) : List Oper → Nat
  | [] => 0
  | o :: r => match opK o.op with
    | .append => bif litApp all o then ownApps all r else Nat.succ (ownApps all r)
    | _ => ownApps all r

/-- The slot holds what a load yields. -/
def loadT (t : Nat) : List Oper → Bool
  | [] => false
  | o :: r => match o.op, o.dst with
    | .load _ _, some d => bif Nat.beq d t then true else loadT t r
    | _, _ => loadT t r

def storeT (t : Nat) : List Oper → Bool
  | [] => false
  | o :: r => match o.op with
    | .store _ x _ => bif isTmp t x then true else storeT t r
    | _ => storeT t r

/-- A store into an element of a row that is loaded here. -/
def farStore (all : List Oper) : List Oper → Bool
  | [] => false
  | o :: r => match o.op, o.dst with
    | .indexAddr _ (.tmp s) _, some d => bif loadT s all && storeT d all then true else farStore all r
    | _, _ => farStore all r

/-- Appends to rows of the call's own may come anywhere in the head. -/
def hdApp (all : List Oper) : Bool := Nat.ble 2 (ownApps all all) || (Nat.ble 1 (ownApps all all) && farStore all all)

/-- A part of a structure that is handed on. -/
def bldArg (t : Nat) (all : List Oper) : List Oper → Bool
  | [] => false
  | o :: r => match o.op, o.dst with
    | .build _ ps, some d => bif anyTmp t (ps.toList.map (·.2)) && argUse d all then true else bldArg t all r
    | _, _ => bldArg t all r

def fzOf (all : List Oper) (d : Option Nat) : Bool := match d with
  | none => false
  | some t => argUse t all || ((hdApp all && srcUse t all) || bldArg t all all)

/-- The slot holds what a call returns that has the type of one of the call's arguments. -/
def callT (t : Nat) : List Oper → Bool
  | [] => false
  | o :: r => match o.op, o.dst with
    | .call c, some d => match c.callee with
      | .value _ => bif Nat.beq d t then memN o.type c.argTypes.toList else callT t r
      | _ => callT t r
    | _, _ => callT t r

def callParts (all : List Oper) : List (Nat × Operand) → Bool
  | [] => false
  | (_, .tmp t) :: r => bif callT t all then true else callParts all r
  | _ :: r => callParts all r

/-- The slot holds an aggregate that is built of such results. -/
def bldT (all : List Oper) (t : Nat) : List Oper → Bool
  | [] => false
  | o :: r => match o.op, o.dst with
    | .build _ ps, some d => bif Nat.beq d t then callParts all ps.toList else bldT all t r
    | _, _ => bldT all t r

/-- A slice of one element, in which such a result lies. -/
def ownB (all : List Oper) (o : Oper) : Bool := match o.op with
  | .buildSlice _ n ps => match n, ps.toList with
    | 1, [(0, .tmp t)] => bldT all t all
    | _, _ => false
  | _ => false

def anyOwnB (all : List Oper) : List Oper → Bool
  | [] => false
  | o :: r => bif ownB all o then true else anyOwnB all r

def partUse (t : Nat) : List Oper → Bool
  | [] => false
  | o :: r => match o.op with
    | .build _ ps => bif anyTmp t (ps.toList.map (·.2)) then true else partUse t r
    | _ => partUse t r

/-- A call whose result is the caller's own. -/
def ownC (all : List Oper) (o : Oper) : Bool := match o.op, o.dst with
  | .call c, some d => match c.callee with
    | .value _ => bif anyOwnB all all && callT d all then partUse d all else false
    | _ => false
  | _, _ => false

/-- An append to a slice that is full: its elements and the others go to a new row, or there are no others. -/
def vcAppD (T : Tab) (t : Nat) (s x : PV) (kv : SV → Prop) (kn : Ob → Prop) : Prop :=
  T.find t fun ty => match ty.kd with
  | .slice e => T.find e fun te => bif Nat.ble 1 te.size && Nat.beq (len te.zero) te.size then
    (match s with
    | .sl true n l0 => match x with
      | .sl _ m l => l.length = m * te.size ∧ room n m te.bytes ∧ l0.length = n * te.size ∧ ∃ z : Bool, (z = true → m = 0) ∧ (z = false → 1 ≤ m) ∧
          (match z with
          | true => kv (.p (.sl true n l0))
          | false => kn (.row e te.size (n + m) false (l0 ++ l)))
      | _ => False
    | _ => False)
    else False
  | _ => False

/-- fz: a row that is made is not changed any more; oc: the call returns a row that is the caller's own. -/
def vcOpD (P : Program) (F : Nat) (T : Tab) (fz oc : Bool) (o : Op) (sl : Slots) (obs : Obs) (kv : SV → Prop) (kn : Ob → Prop) : Prop :=
  match opK o with
  | .pure => vcPure T o sl obs kv
  | .new => match fz with
    | true => vcNew T o sl fun ob => match ob with
      | .row _ _ n ex cs => kv (.p (.sl ex n cs))
      | ob => kn ob
    | false => vcNew T o sl kn
  | .append => match o with
    | .call c => match c.args.toList, c.argTypes.toList with
      | [s, x], [t, t'] => bif Nat.beq t t' then evP sl s fun s => evP sl x fun x => vcAppD T t s x kv kn else False
      | _, _ => False
    | _ => False
  | .call => match o with
    | .call c => match c.callee with
      | .value f => vcFn F f c.args.toList sl fun f svs => (match peekFL obs svs with
        | some l => fun k : List PV → Prop => fWs l k
        | none => fun _ => False) fun l => (match oc with
        | false => fun kv _ => ∃ r, Ret P f l [] r ∧ (plainS r || noRefs svs) = true ∧ fSV r kv
        | true => fun (_ : SV → Prop) (kn : Ob → Prop) => ∃ (e : TypeId) (sz n : Nat) (cs : List PV), Ret P f l [.row e sz n false cs] (.ob 0) ∧ 1 ≤ n ∧ noRefs svs = true ∧ kn (.row e sz n false cs)) kv kn
      | _ => False
    | _ => False
  | _ => False

def memS (i : Nat) : List (Nat × Ob) → Bool
  | [] => false
  | (j, _) :: r => bif Nat.beq j i then true else memS i r

/-- A store into a variable that nothing else of the head looks at. -/
def vcStD (T : Tab) (sl : Slots) (obs0 : Obs) (cr : Obs) (tg : List Nat) (ss : List (Nat × Ob)) (t : Nat) (x y : Operand) (k : Nat → Ob → Prop) : Prop :=
  ev sl x fun x => match x with
  | .ob i => bif (memN i tg || Nat.ble (len obs0) i) && !memS i ss then evP sl y fun y => Obs.at (obs0 ++ cr) i fun ob => match ob with
    | .box tb cs => T.find t fun ty => cellsS (.p y) fun l => bif noRefs cs && Nat.beq (len l) ty.size && Nat.beq (len l) (len cs) then k i (.box tb l) else False
    | .arr ta cs => T.find t fun ty => cellsP y fun l => bif Nat.beq (len l) ty.size && Nat.beq (len l) (len cs) then k i (.arr ta l) else False
    | _ => False
    else False
  | _ => False

/-- An append to a row of the call's own: the row. -/
def ownApp (sl : Slots) (o : Oper) : Option Nat := match o.op with
  | .call c => match c.callee with
    | .builtin .append => match c.args.toList with
      | .tmp s :: _ => match sl.get s with
        | .ob i => some i
        | _ => none
      | _ => none
    | _ => none
  | _ => none

/-- An append to a row that nothing else of the head looks at. -/
def vcAppH (T : Tab) (sl : Slots) (obs0 : Obs) (tg : List Nat) (ss : List (Nat × Ob)) (i : Nat) (o : Op) (k : Ob → Prop) : Prop :=
  match o with
  | .call c => match c.args.toList, c.argTypes.toList with
    | [_, x], [t, t'] => bif Nat.beq t t' && (memN i tg && Nat.blt i (len obs0)) && !memS i ss then evP sl x fun x => Obs.at obs0 i fun ob => T.find t fun ty => match ty.kd with
      | .slice e => T.find e fun te => (match ob with
        | .row e' sz n ex cs => match x with
          | .sl _ m l => fun k : Ob → Prop => bif Nat.beq sz te.size && Nat.beq e' e && Nat.ble 1 te.size && Nat.beq (len te.zero) te.size then l.length = m * te.size ∧ 1 ≤ m ∧ room n m te.bytes ∧ k (.row e te.size (n + m) false (cs ++ l)) else False
          | _ => fun _ => False
        | _ => fun _ => False) k
      | _ => False else False
    | _, _ => False
  | _ => False

def stepD (P : Program) (F : Nat) (T : Tab) (N : Nat) (all : List Oper) (obs0 obs : Obs) (tg : List Nat) (o : Oper) (k : Obs → List (Nat × Ob) → Slots → Prop) (cr : Obs) (ss : List (Nat × Ob)) (sl : Slots) : Prop :=
  match o.op with
  | .store t x y => match o.guard, o.dst with
    | none, none => vcStD T sl obs0 cr tg ss t x y fun i ob => k cr ((i, ob) :: ss) sl
    | _, _ => False
  | _ => match ownApp sl o with
    | some i => (match o.guard, o.dst with
      | none, some _ => vcAppH T sl obs0 tg ss i o.op fun ob => cr.snoc ob fun cr' => fN (len obs + len cr) fun q => put N o.dst (.ob q) sl fun sl => k cr' ((i, .dead) :: ss) sl
      | _, _ => False)
    | none => vcGuard all o.guard sl
      (fun sl => vcOpD P F T (fzOf all o.dst) (ownC all o) o.op sl obs
        (fun x => put N o.dst x sl fun sl => k cr ss sl)
        (fun ob => cr.snoc ob fun cr' => fN (len obs + len cr) fun q => put N o.dst (.ob q) sl fun sl => k cr' ss sl))
      (fun sl => put N o.dst (.p (.v undef)) sl fun sl => k cr ss sl)

def vcHead (P : Program) (F : Nat) (T : Tab) (N : Nat) (all : List Oper) (obs0 obs : Obs) (tg : List Nat) (k : Slots → Obs → List (Nat × Ob) → Prop) (l : List Oper) : Obs → List (Nat × Ob) → Slots → Prop :=
  List.rec (motive := fun _ => Obs → List (Nat × Ob) → Slots → Prop) (fun cr ss sl => k sl cr ss) (fun o _ ih => stepD P F T N all obs0 obs tg o ih) l

/-- A closure that is handed to a Go function in the same region: what it holds is not changed any more. -/
def capOps (all : List Oper) (o : Oper) : List Operand := match o.op with
  | .makeFunc _ _ cs => match o.dst with
    | some d => bif argUse d all then cs.toList else []
    | none => []
  | _ => []

/-- From where a slot is loaded. -/
def ldOf (y : Nat) : List Oper → List Operand
  | [] => []
  | o :: r => match o.op, o.dst with
    | .load _ x, some d => bif Nat.beq d y then [x] else ldOf y r
    | _, _ => ldOf y r

/-- A variable that holds rows, and whose value the head stores elsewhere: it is not changed any more. -/
def heldOps (all : List Oper) (sl : Slots) (obs : Obs) (o : Oper) : List Operand := match o.op with
  | .store _ _ (.tmp y) => match ldOf y all with
    | .tmp t :: _ => match sl.get t with
      | .ob i => match inner obs [i] with
        | [] => []
        | _ => [.tmp t]
      | _ => []
    | _ => []
  | _ => []

def hdOps (all : List Oper) (sl : Slots) (obs : Obs) : List Oper → List Operand
  | [] => []
  | o :: r => capOps all o ++ (frzOps o.op sl obs ++ (heldOps all sl obs o ++ hdOps all sl obs r))

def tgOps (sl : Slots) : List Oper → List Nat
  | [] => []
  | o :: r => match o.op with
    | .store _ (.tmp t) _ => match sl.get t with
      | .ob i => i :: tgOps sl r
      | _ => tgOps sl r
    | _ => tgOps sl r

def rowIx : Nat → Obs → List Nat
  | _, [] => []
  | i, .row _ _ _ _ _ :: r => i :: rowIx (i + 1) r
  | i, _ :: r => rowIx (i + 1) r

/-- What the head changes: the variables into which it stores, and all rows if it appends to them. -/
def tgOf (all : List Oper) (sl : Slots) (hd : List Oper) (obs : Obs) : List Nat := tgOps sl hd ++ (bif hdApp all then rowIx 0 obs else [])

def killAll : List Nat → Obs → Obs
  | [], obs => obs
  | i :: r, obs => killAll r (obs.set i .dead)

def applyS : List (Nat × Ob) → Obs → Obs
  | [], obs => obs
  | (i, ob) :: r, obs => applyS r (obs.set i ob)

def isText (e : Edge) : Bool := match e.ground with
  | .textOnly _ => true
  | _ => false

def anyText : List Edge → Bool
  | [] => false
  | e :: r => bif isText e then true else anyText r

def lateAt : List Oper → Nat → Bool
  | [], _ => false
  | o :: _, 0 => anyText o.after.toList
  | _ :: r, n + 1 => lateAt r n

/-- The slot holds the address of an element. -/
def isElem (t : Nat) : List Oper → Bool
  | [] => false
  | o :: r => match o.op, o.dst with
    | .indexAddr _ _ _, some d => bif Nat.beq d t then true else isElem t r
    | _, _ => isElem t r

/-- The operation stores into an element of a row. -/
def elemAt (all : List Oper) : List Oper → Nat → Bool
  | [], _ => false
  | o :: _, 0 => match o.op with
    | .store _ (.tmp t) _ => isElem t all
    | _ => false
  | _ :: r, n + 1 => elemAt all r n

def loadsT (t : Nat) : List Oper → Bool
  | [] => false
  | o :: r => match o.op with
    | .load _ x => bif isTmp t x then true else loadsT t r
    | _ => loadsT t r

/-- The operation stores into a variable that the region reads. -/
def readAt (all : List Oper) : List Oper → Nat → Bool
  | [], _ => false
  | o :: _, 0 => match o.op with
    | .store _ (.tmp t) _ => loadsT t all
    | _ => false
  | _ :: r, n + 1 => readAt all r n

/-- The first operation that writes. -/
def cutL (all : List Oper) : List Oper → Nat
  | [] => 0
  | o :: r => match opK o.op with
    | .store => 0
    | .append => bif litApp all o || hdApp all then Nat.succ (cutL all r) else 0
    | .new => bif ownB all o then 0 else Nat.succ (cutL all r)
    | _ => Nat.succ (cutL all r)

/-- How many operations are in whatever order. -/
def cut2 (all : List Oper) : Nat := match lateAt all (cutL all all) with
  | true => bif elemAt all all (cutL all all) || readAt all all (cutL all all) then cutL all all else len all
  | false => cutL all all

def vcDraw (P : Program) (F : Nat) (T : Tab) (N : Nat) (all : List Oper) (k : K) : K := fun sl obs =>
  fL (takeN (cut2 all) all) fun hd => fL (dropN (cut2 all) all) fun tl =>
  vcFreeze (hdOps hd sl obs hd) (fun sl obs => fL (tgOf all sl hd obs) fun tg => fL (killAll tg obs) fun obsD => vcHead P F T N all obs obsD tg (fun sl cr ss => fL (applyS ss (obs ++ cr)) fun obs' => vcOps P F T N all tl k sl obs') hd [] [] sl) sl obs

/-! A region that draws its order, written in another order: what waits for no append comes first. -/

def isApp (all : List Oper) (o : Oper) : Bool := match opK o.op with
  | .append => !litApp all o
  | .store => true
  | _ => false

def apps : List Oper → Nat
  | [] => 0
  | o :: r => match opK o.op with
    | .append => Nat.succ (apps r)
    | _ => apps r

/-- Which operations neither append nor store nor wait for one that does. -/
def early (all : List Oper) : List Oper → List Bool → List Bool
  | [], l => l
  | o :: r, l => early all r (l ++ [!isApp all o && o.after.toList.all fun e => !Region.binds .any e || l.getD e.on false])

def pick1 (l : List Bool) (b : Bool) : Nat → List Nat
  | 0 => []
  | n + 1 => pick1 l b n ++ (bif l.getD n false == b then [n] else [])

def idx1 (x : Nat) : List Nat → Nat
  | [] => 0
  | y :: r => bif Nat.beq x y then 0 else Nat.succ (idx1 x r)

def permOf (all : List Oper) : List Nat := pick1 (early all all []) true all.length ++ pick1 (early all all []) false all.length
def invOf (π : List Nat) (n : Nat) : List Nat := (List.range n).map fun i => idx1 i π

def renO (inv : List Nat) (o : Oper) : Oper := { o with after := (o.after.toList.map fun e => { e with on := inv.getD e.on 0 }).toArray, guard := o.guard.map fun g => (inv.getD g.1 0, g.2) }
def permOps (π inv : List Nat) (all : List Oper) : List Oper := π.map fun i => renO inv (all.getD i default)

def permOk (π inv : List Nat) (all : List Oper) : Bool :=
  (π.length == all.length && inv.length == all.length) && ((List.range all.length).all fun i => inv.getD (π.getD i 0) 0 == i && (π.getD (inv.getD i 0) 0 == i && (decide (π.getD i 0 < all.length) && decide (inv.getD i 0 < all.length)))) &&
  all.all fun o => (o.after.toList.all fun e => decide (e.on < all.length)) && (match o.guard with | some (j, _) => decide (j < all.length) | none => true)

/-- Regions that are written in another order. -/
def perms (all : List Oper) : Bool := Nat.ble 2 (apps all) && !hdApp all

/-- The operations of a region, as the VC generator takes them. -/
def drawn (all : List Oper) : List Oper := bif perms all then permOps (permOf all) (invOf (permOf all) all.length) all else all

/-! ### Loops -/

/-- What is left of the slots at a loop's head. -/
def clear (W : List Nat) : Slots → (Slots → Prop) → Prop
  | [], k => k []
  | (t, x) :: r, k => bif memN t W then clear W r k else clear W r fun r => k ((t, x) :: r)

/-- A row that a loop carries in a slot: the slot, the element's type, its cells, the number of elements, the cells. -/
abbrev RowSpec (X : Type) := Nat × TypeId × Nat × (X → Nat) × (X → List PV)

/-- A row that a loop carries in a variable's cell: the variable, the cell, and so on. -/
abbrev CellSpec (X : Type) := Nat × Nat × TypeId × Nat × (X → Nat) × (X → List PV)

/-- The same of rows of rows, in a slot. -/
abbrev NRowSpec (X : Type) := Nat × TypeId × Nat × (X → Nat) × (X → List NC)

/-- A loop's invariant: what it carries (slots, contents of variables, rows of the call's own) as functions of x. -/
structure LSpec (X : Type) where
  inv : X → Prop
  slots : List (Nat × (X → PV))
  boxes : List (Nat × (X → List PV)) := []
  rows : List (RowSpec X) := []
  cells : List (CellSpec X) := []
  mu : X → Nat
  frz : List Nat := []
  nboxes : List (Nat × (X → List NC)) := []
  nrows : List (NRowSpec X) := []
  inn : Bool := false

def putAll {X : Type} (N : Nat) (x : X) : List (Nat × (X → PV)) → Slots → (Slots → Prop) → Prop
  | [], sl, k => k sl
  | (t, y) :: r, sl, k => bif Nat.blt t N then putAll N x r ((t, .p (y x)) :: sl) k else False

/-- The slots hold these values. -/
def hasAll {X : Type} (sl : Slots) (x : X) : List (Nat × (X → PV)) → Prop
  | [] => True
  | (t, y) :: r => (match sl.get t with | .p z => z = y x | .kb b => .v (.bool b) = y x | .nil => .sl true 0 [] = y x | _ => False) ∧ hasAll sl x r

def overB {X : Type} (x : X) (bx : List (Nat × (X → List PV))) (i : Nat) (o : Ob) : Ob :=
  match bx with
  | [] => o
  | (j, l) :: r => bif Nat.beq j i then (match o with
    | .box t _ => .box t (mapP (l x))
    | .arr t _ => .arr t (l x)
    | .row e sz n ex _ => .row e sz n ex (l x)
    | .nest e sz n cs h => .nest e sz n cs h
    | .dead => .dead) else overB x r i o

/-- The variables' contents that a loop changes, put in place. -/
def setBoxes {X : Type} (x : X) (bx : List (Nat × (X → List PV))) : Nat → Obs → Obs
  | _, [] => []
  | i, o :: r => overB x bx i o :: setBoxes x bx (i + 1) r

def overN {X : Type} (x : X) (bx : List (Nat × (X → List NC))) (i : Nat) (o : Ob) : Ob :=
  match bx with
  | [] => o
  | (j, l) :: r => bif Nat.beq j i then (match o with
    | .nest e sz n _ h => .nest e sz n (l x) h
    | o => o) else overN x r i o

/-- The contents of rows of rows that a loop changes, put in place. -/
def setNs {X : Type} (x : X) (bx : List (Nat × (X → List NC))) : Nat → Obs → Obs
  | _, [] => []
  | i, o :: r => overN x bx i o :: setNs x bx (i + 1) r

/-- A variable with a cell changed. -/
def setCell (o : Nat) (y : SV) : Ob → Ob
  | .box t cs => .box t (cs.set o y)
  | x => x

def setAt (i o : Nat) (y : SV) : Obs → Obs
  | [] => []
  | x :: r => match i with
    | 0 => setCell o y x :: r
    | i + 1 => x :: setAt i o y r

/-- The cells that hold rows, without them. -/
def mask {X : Type} : List (CellSpec X) → Obs → Obs
  | [], obs => obs
  | (i, o, _) :: r, obs => mask r (setAt i o .any obs)

def cellAt (obs : Obs) (i o : Nat) : SV :=
  match obs[i]? with
  | some (.box _ cs) => cs.getD o .any
  | _ => .any

def killS (y : SV) (obs : Obs) : Obs :=
  match y with
  | .ob j => obs.set j .dead
  | _ => obs

/-- The rows that a loop carries have a new number at its head. -/
def killRows {X : Type} (sl : Slots) : List (RowSpec X) → Obs → Obs
  | [], obs => obs
  | (t, _) :: r, obs => killRows sl r (killS (sl.get t) obs)

def killNRows {X : Type} (sl : Slots) : List (NRowSpec X) → Obs → Obs
  | [], obs => obs
  | (t, _) :: r, obs => killNRows sl r (killS (sl.get t) obs)

def killCells {X : Type} (obs0 : Obs) : List (CellSpec X) → Obs → Obs
  | [], obs => obs
  | (i, o, _) :: r, obs => killCells obs0 r (killS (cellAt obs0 i o) obs)

def deadAt (obs : Obs) (j : Nat) : Bool :=
  match obs[j]? with
  | some o => !o.live
  | none => true

/-- A value that is a row of the call's own with these elements. -/
def hasRow (y : SV) (obs obsE : Obs) (e : TypeId) (sz n : Nat) (cs : List PV) (seen : List Nat) (k : List Nat → Prop) : Prop :=
  match y with
  | .nil => (n = 0 ∧ cs = []) ∧ k seen
  | .ob j => bif deadAt obsE j && !memN j seen then
      (obs.at j fun ob => match ob with
        | .row e' sz' n' _ cs' => bif Nat.beq sz' sz && Nat.beq e' e then n' = n ∧ cs' = cs else False
        | _ => False) ∧ k (j :: seen) else False
  | _ => False

def hasRows {X : Type} (sl : Slots) (obs obsE : Obs) (x : X) : List (RowSpec X) → List Nat → (List Nat → Prop) → Prop
  | [], seen, k => k seen
  | (t, e, sz, n, cs) :: r, seen, k => hasRow (sl.get t) obs obsE e sz (n x) (cs x) seen fun seen => hasRows sl obs obsE x r seen k

/-- A value that is a row of rows of the call's own with these elements. -/
def hasNRow (y : SV) (obs obsE : Obs) (e : TypeId) (sz n : Nat) (cs : List NC) (seen : List Nat) (k : List Nat → Prop) : Prop :=
  match y with
  | .nil => (n = 0 ∧ cs = []) ∧ k seen
  | .ob j => bif deadAt obsE j && !memN j seen then
      (obs.at j fun ob => match ob with
        | .nest e' sz' n' cs' none => bif Nat.beq sz' sz && Nat.beq e' e then n' = n ∧ cs' = cs else False
        | .row e' sz' n' _ cs' => bif Nat.beq sz' sz && Nat.beq e' e then n' = n ∧ cs'.map NC.pu = cs else False
        | _ => False) ∧ k (j :: seen) else False
  | _ => False

def hasNRows {X : Type} (sl : Slots) (obs obsE : Obs) (x : X) : List (NRowSpec X) → List Nat → (List Nat → Prop) → Prop
  | [], seen, k => k seen
  | (t, e, sz, n, cs) :: r, seen, k => hasNRow (sl.get t) obs obsE e sz (n x) (cs x) seen fun seen => hasNRows sl obs obsE x r seen k

def hasCells {X : Type} (obs obsE : Obs) (x : X) : List (CellSpec X) → List Nat → Prop
  | [], _ => True
  | (i, o, e, sz, n, cs) :: r, seen => hasRow (cellAt obs i o) obs obsE e sz (n x) (cs x) seen fun seen => hasCells obs obsE x r seen

def setRows {X : Type} (N : Nat) (x : X) : List (RowSpec X) → Slots → Obs → (Slots → Obs → Prop) → Prop
  | [], sl, obs, k => k sl obs
  | (t, e, sz, n, cs) :: r, sl, obs, k => bif Nat.blt t N then obs.snoc (.row e sz (n x) false (cs x)) fun obs' => fN (len obs) fun q => setRows N x r ((t, .ob q) :: sl) obs' k else False

def setNRows {X : Type} (N : Nat) (x : X) : List (NRowSpec X) → Slots → Obs → (Slots → Obs → Prop) → Prop
  | [], sl, obs, k => k sl obs
  | (t, e, sz, n, cs) :: r, sl, obs, k => bif Nat.blt t N then obs.snoc (.nest e sz (n x) (cs x) none) fun obs' => fN (len obs) fun q => setNRows N x r ((t, .ob q) :: sl) obs' k else False

def setCells {X : Type} (x : X) : List (CellSpec X) → Obs → (Obs → Prop) → Prop
  | [], obs, k => fL obs k
  | (i, o, e, sz, n, cs) :: r, obs, k => obs.snoc (.row e sz (n x) false (cs x)) fun obs' => fN (len obs) fun q => setCells x r (setAt i o (.ob q) obs') k

/-- An object is as the other one says. -/
def sameOb (o c : Ob) : Prop :=
  match o with
  | .dead => True
  | .box t cs => match c with
    | .box t' cs' => bif Nat.beq t' t then cs' = cs else False
    | _ => False
  | .arr t cs => match c with
    | .arr t' cs' => bif Nat.beq t' t then cs' = cs else False
    | _ => False
  | .row e sz n ex cs => match c with
    | .row e' sz' n' ex' cs' => bif Nat.beq e' e && Nat.beq sz' sz && (ex' == ex) then n' = n ∧ cs' = cs else False
    | _ => False
  | .nest e sz n cs h => match c with
    | .nest e' sz' n' cs' h' => bif Nat.beq e' e && Nat.beq sz' sz then n' = n ∧ cs' = cs ∧ h' = h else False
    | _ => False

def sameObs : Obs → Obs → Prop
  | [], _ => True
  | o :: r, c :: s => sameOb o c ∧ sameObs r s
  | _ :: _, [] => False

def allIn (W : List Nat) : Slots → Bool
  | [] => true
  | (t, _) :: r => memN t W && allIn W r

def headObs {X : Type} (L : LSpec X) (x : X) (obsE : Obs) : Obs := mask L.cells (setNs x L.nboxes 0 (setBoxes x L.boxes 0 obsE))

/-- The state is that of the invariant at x. -/
def isAt {X : Type} (L : LSpec X) (obsE : Obs) (x : X) (sl : Slots) (obs : Obs) : Prop :=
  hasAll sl x L.slots ∧ hasRows sl obs obsE x L.rows [] (fun seen => hasNRows sl obs obsE x L.nrows seen fun seen => hasCells obs obsE x L.cells seen) ∧ sameObs (headObs L x obsE) (mask L.cells obs) ∧ L.inv x

def inIf (b : Bool) (k : K) : K := match b with
  | true => vcIn k
  | false => k

def noHole (obs : Obs) : Bool := match holeIx 0 obs with
  | none => true
  | some _ => false

def vcLoop (N : Nat) (W : List Nat) (body : K → K) (sl : Slots) (obs : Obs) : Prop :=
  ∃ (X : Type) (L : LSpec X) (x0 : X), frzL L.frz (inIf L.inn fun sl obs =>
    fL (killCells obs L.cells (killNRows sl L.nrows (killRows sl L.rows obs))) fun obsE => fL (W ++ (keysOf L.slots ++ (keysOf L.rows ++ keysOf L.nrows))) fun W => clear W sl fun sl1 =>
    isAt L obsE x0 sl obs ∧
    ∀ x, L.inv x → fL (headObs L x obsE) fun obs1 => putAll N x L.slots sl1 fun sl2 => setRows N x L.rows sl2 obs1 fun sl3 obs2 => setNRows N x L.nrows sl3 obs2 fun sl4 obs3 => setCells x L.cells obs3 fun obs4 =>
        body (inIf (noHole obsE) fun sl' obs' => ∃ x', L.mu x' < L.mu x ∧ (sl'.drop (len sl' - len sl1) = sl1 ∧ allIn W (takeN (len sl' - len sl1) sl') = true) ∧ isAt L obsE x' sl' obs') sl4 obs4) sl obs

/-! ### Code and functions -/

/-! ### Regions whose orders are told one by one -/

def appDst (t : Nat) : List Oper → Bool
  | [] => false
  | o :: r => match opK o.op, o.dst with
    | .append, some d => bif Nat.beq d t then true else appDst t r
    | _, _ => appDst t r

/-- An append to what another append of the region makes. -/
def expl (all : List Oper) : List Oper → Bool
  | [] => false
  | o :: r => match o.op with
    | .call c => match c.callee with
      | .builtin .append => match c.args.toList with
        | .tmp t :: _ => bif appDst t all then true else expl all r
        | _ => expl all r
      | _ => expl all r
    | _ => expl all r

/-- The operations that are ready. -/
def readyN (all : List Oper) (l : List Bool) : List Nat := (List.range all.length).filter fun i => !l.getD i true && (match all[i]? with | some o => o.after.toList.all fun e => !Region.binds .any e || l.getD e.on false | none => false)

/-- An operation that looks at no memory. -/
def flX (o : Oper) : Bool := match o.op with
  | .extract _ _ => match o.guard, o.dst with
    | none, some _ => true
    | _, _ => false
  | .move _ => match o.guard, o.dst with
    | none, some _ => true
    | _, _ => false
  | .slice _ _ _ _ _ => match o.guard, o.dst with
    | none, some _ => true
    | _, _ => false
  | _ => false

def freeN (all : List Oper) (l : List Bool) (i : Nat) : Bool := match all[i]? with
  | none => false
  | some oi => flX oi && (List.range all.length).all fun j => j == i || l.getD j true || (match all[j]? with
    | some oj => (oj.after.toList.any fun e => Region.binds .any e && e.on == i) || oi.apart all.toArray oj
    | none => true)

/-- A plan of the orders: which operation may be taken first, or all that are ready. -/
inductive XP
  | done
  | take (j : Nat) (p : XP)
  | alt (j : Nat) (p q : XP)
  | nil

def XP.alts : XP → List Nat
  | .alt j _ q => j :: q.alts
  | _ => []

def XP.depth : XP → Nat
  | .done => 0
  | .take _ p => p.depth + 1
  | .alt _ p q => Nat.max (p.depth + 1) q.depth
  | .nil => 0

/-- The plan tells every order; m: in the midst of what is ready. -/
def XP.ok (all : List Oper) : XP → Bool → List Bool → Bool
  | .done, m, l => !m && readyN all l == []
  | .take j p, m, l => !m && ((readyN all l).contains j && freeN all l j) && p.ok all false (l.set j true)
  | .alt j p q, m, l => (m || readyN all l == (XP.alt j p q).alts) && (p.ok all false (l.set j true) && q.ok all true l)
  | .nil, m, _ => m

def atX (all : List Oper) (j : Nat) (k : Oper → Prop) : Prop := match all[j]? with
  | some o => k o
  | none => False

def slX (T : Tab) (o : Oper) (k : Prop) : Prop := match o.op with
  | .slice t _ _ _ _ => T.find t fun ty => match ty.kd with
    | .slice e => T.find e fun _ => k
    | _ => False
  | _ => k

def isNil : XP → Bool
  | .nil => true
  | _ => false

def vcX (P : Program) (F : Nat) (T : Tab) (N : Nat) (all : List Oper) (kn : K) (p : XP) : K :=
  XP.rec (motive := fun _ => K) kn
    (fun j _ ih sl obs => atX all j fun o => slX T o (stepO P F T N all o ih sl obs))
    (fun j _ q ih iq sl obs => match isNil q with
      | true => atX all j fun o => stepO P F T N all o ih sl obs
      | false => (atX all j fun o => stepO P F T N all o ih sl obs) ∧ iq sl obs)
    (fun _ _ => True) p

def cRegion (P : Program) (F : Nat) (T : Tab) (N : Nat) (ops : Array Oper) (d : Bool) (kn : K) : K :=
  match d with
  | false => vcGh ops.toList (vcOps P F T N ops.toList ops.toList kn)
  | true => bif expl ops.toList ops.toList then vcGh ops.toList (fun sl obs => ∃ p : XP, (p.ok ops.toList false (List.replicate ops.toList.length false) && Nat.ble p.depth ops.toList.length) = true ∧ vcX P F T N ops.toList kn p sl obs)
    else vcGh ops.toList (fun sl obs => fL (drawn ops.toList) fun l => vcDraw P F T N l kn sl obs)

def cCond (c : Operand) (va vb : K → K → (Nat → K) → K) (kn kr : K) (kx : Nat → K) : K := fun sl obs => ev sl c fun c => match c with
    | .kb true => va kn kr kx sl obs
    | .kb false => vb kn kr kx sl obs
    | .p (.v (.bool q)) => (q = true → va kn kr kx sl obs) ∧ (q = false → vb kn kr kx sl obs)
    | _ => False

def cNo : K := fun _ _ => False

/-- The recursor stands here itself: the kernel and the elaborator then have the same terms. -/
def vcCode (P : Program) (F : Nat) (T : Tab) (N : Nat) (c : Code) : K → K → (Nat → K) → K :=
  Code.rec (motive := fun _ => K → K → (Nat → K) → K)
    (fun kn _ _ => kn)
    (fun _ ops d kn _ _ => cRegion P F T N ops d kn)
    (fun _ _ va vb kn kr kx => va (vb kn kr kx) kr kx)
    (fun c _ _ va vb kn kr kx => cCond c va vb kn kr kx)
    (fun id _ vb kn kr kx => vb kn kr fun i => bif Nat.beq i id then kn else kx i)
    (fun body vb _ kr kx => vcLoop N (wr body) fun kn => vb kn kr kx)
    (fun _ _ _ _ _ _ _ _ _ => cNo)
    (fun id _ _ kx => kx id)
    (fun _ _ _ _ _ => cNo)
    (fun _ _ _ _ => cNo)
    (fun _ _ _ _ => cNo)
    (fun _ kr _ => kr)
    (fun _ _ _ _ => cNo)
    c

def vcRets (T : Tab) (sl : Slots) (obs : Obs) : List ResultVar → (List SV → Prop) → Prop
  | [], k => k []
  | .tmp t :: r, k => fSV (sl.get t) fun x => vcRets T sl obs r fun ys => k (x :: ys)
  | .cell t ty :: r, k => fSV (sl.get t) fun x => vcLoad T ty x obs fun y => vcRets T sl obs r fun ys => k (y :: ys)

def retOps : List ResultVar → List Operand
  | [] => []
  | .tmp t :: r => .tmp t :: retOps r
  | .cell t _ :: r => .tmp t :: retOps r

def retS : List SV → SV
  | [x] => x
  | l => .tup l

/-- Results in rows of the call's own. -/
def isOwn (obs obsR : Obs) : List SV → List SV → Nat → List Nat → Prop
  | [], [], c, _ => c = obsR.length
  | r :: rs, y :: ys, c, seen => match r with
    | .ob i => bif Nat.beq i c then (obsR.at c fun ob => match ob with
        | .row e sz n false cs => match y with
          | .nil => (n = 0 ∧ cs = []) ∧ isOwn obs obsR rs ys (c + 1) seen
          | .ob j => bif !memN j seen then (obs.at j fun o => match o with
            | .row e' sz' n' _ cs' => bif Nat.beq sz' sz && Nat.beq e' e then n' = n ∧ cs' = cs else False
            | _ => False) ∧ isOwn obs obsR rs ys (c + 1) (j :: seen) else False
          | _ => False
        | .nest e sz n cs none => match y with
          | .nil => (n = 0 ∧ cs = []) ∧ isOwn obs obsR rs ys (c + 1) seen
          | .ob j => bif !memN j seen then (obs.at j fun o => match o with
            | .nest e' sz' n' cs' none => bif Nat.beq sz' sz && Nat.beq e' e then n' = n ∧ cs' = cs else False
            | .row e' sz' n' _ cs' => bif Nat.beq sz' sz && Nat.beq e' e then n' = n ∧ cs'.map NC.pu = cs else False
            | _ => False) ∧ isOwn obs obsR rs ys (c + 1) (j :: seen) else False
          | _ => False
        | _ => False) else False
    | .p x => (toP y fun y => weakA y = x) ∧ isOwn obs obsR rs ys c seen
    | _ => False
  | _, _, _, _ => False

def notOne : SV → Bool
  | .tup [_] => false
  | _ => true

def ofS : SV → List SV
  | .tup l => l
  | x => [x]

def retK0 (T : Tab) (rs : List ResultVar) (obsR : Obs) (r : SV) : K :=
  match obsR with
  | [] => vcFreeze (retOps rs) fun sl obs => vcRets T sl obs rs fun vs => (match pures vs with
    | some l => fun k : List PV → Prop => fWs l k
    | none => fun _ => False) fun l => retS (mapP l) = r
  | obsR => fun sl obs => vcRets T sl obs rs fun vs => bif notOne r then isOwn obs obsR (ofS r) vs 0 [] else False

def retK (T : Tab) (rs : List ResultVar) (obsR : Obs) (r : SV) : K := vcIn (retK0 T rs obsR r)

def initS (i : Nat) : List PV → Slots
  | [] => []
  | x :: r => (i, .p x) :: initS (i + 1) r

def vcFun (P : Program) (F : Nat) (T : Tab) (fn : Func) (args : List PV) (obsR : Obs) (r : SV) : Prop :=
  match fn.body with
  | some c => vcCode P F T fn.ntmps c (retK T fn.results.toList obsR r) (retK T fn.results.toList obsR r) (fun _ _ _ => False) (initS 0 args) []
  | none => False

end Go.Pv

/- An operation's VC: it settles on one result, and looks at its operands alone. -/
namespace Go.Pv
open Go.Vc

/-- A function that hands on just one thing. -/
def SL {α : Type} (f : (α → Prop) → Prop) : Prop := ∀ k, f k → ∃ s, k s ∧ ∀ k' : α → Prop, k' s → f k'

theorem SL.ret {α : Type} (s : α) : SL (fun k : α → Prop => k s) := fun _ h => ⟨s, h, fun _ h => h⟩
theorem SL.eta {α : Type} {f : (α → Prop) → Prop} (h : SL (fun k => f k)) : SL f := h
theorem SL.no {α : Type} : SL (fun _ : α → Prop => False) := fun _ h => h.elim
theorem SL.bind {α β : Type} {g : (β → Prop) → Prop} {h : β → (α → Prop) → Prop} (hg : SL g) (hh : ∀ x, SL (h x)) : SL (fun k => g fun x => h x k) := by
  intro k hk
  obtain ⟨x, hx, hg'⟩ := hg _ hk
  obtain ⟨s, hs, hh'⟩ := hh x k hx
  exact ⟨s, hs, fun k' hk' => hg' _ (hh' k' hk')⟩
theorem SL.and {α : Type} {f : (α → Prop) → Prop} {p : Prop} (hf : SL f) : SL (fun k => p ∧ f k) := by
  rintro k ⟨hp, hk⟩
  obtain ⟨s, hs, h⟩ := hf k hk
  exact ⟨s, hs, fun k' hk' => ⟨hp, h k' hk'⟩⟩
theorem SL.ex {α β : Type} {f : β → (α → Prop) → Prop} (hf : ∀ m, SL (f m)) : SL (fun k => ∃ m, f m k) := by
  rintro k ⟨m, hk⟩
  obtain ⟨s, hs, h⟩ := hf m k hk
  exact ⟨s, hs, fun k' hk' => ⟨m, h k' hk'⟩⟩
theorem SL.cond {α : Type} {f : (α → Prop) → Prop} {b : Bool} (hf : SL f) : SL (fun k => bif b then f k else False) := by
  cases b
  · exact SL.no
  · exact hf
theorem SL.iff {α : Type} {f g : (α → Prop) → Prop} (h : ∀ k, f k ↔ g k) (hg : SL g) : SL f := by
  intro k hk
  obtain ⟨s, hs, h'⟩ := hg k ((h k).1 hk)
  exact ⟨s, hs, fun k' hk' => (h k').2 (h' k' hk')⟩

theorem SL.fPV (y : PV) : SL (fPV y) := SL.iff (fun k => fPV_iff y k) (SL.ret y)
theorem SL.fSV (y : SV) : SL (fSV y) := SL.iff (fun k => fSV_iff y k) (SL.ret y)
theorem SL.fL {α : Type} (l : List α) : SL (Vc.fL l) := SL.iff (fun k => fL_iff l k) (SL.ret l)
theorem SL.fWL (l : List PV) : SL (fWL l) := SL.iff (fun k => fWL_iff l k) (SL.ret _)
theorem SL.fWs (l : List PV) : SL (fWs l) := SL.iff (fun k => fWs_iff l k) (SL.ret _)
theorem SL.find (T : Tab) (t : Nat) : SL (T.find t) := SL.iff (fun k => find_iff T t k) (SL.ex fun ty => SL.and (SL.ret ty))
theorem SL.at_ (obs : Obs) (i : Nat) : SL (obs.at i) := SL.iff (fun k => at_iff obs i k) (SL.ex fun ty => SL.and (SL.ret ty))
theorem SL.nth (l : List SV) (i : Nat) : SL (nth l i) := SL.iff (fun k => nth_iff l i k) (SL.ex fun ty => SL.and (SL.ret ty))

theorem SL.ev (sl : Slots) (x : Operand) : SL (ev sl x) := by
  cases x with
  | tmp t => exact SL.fSV _
  | const v => exact SL.fSV _
  | global g => exact SL.no
  | func f => exact SL.ret _

theorem SL.toP (x : SV) : SL (toP x) := by
  cases x with
  | ag l =>
    refine SL.eta ?_
    simp only [Pv.toP]
    cases pures l with
    | none => exact SL.no
    | some lp => exact SL.ret _
  | _ => first | exact SL.ret _ | exact SL.no

theorem SL.evP (sl : Slots) (x : Operand) : SL (evP sl x) := by
  unfold Pv.evP
  exact SL.bind (SL.ev sl x) fun s => SL.toP s

theorem SL.evs (sl : Slots) : ∀ xs, SL (evs sl xs)
  | [] => SL.ret []
  | x :: r => by
    refine SL.eta ?_
    unfold Pv.evs
    exact SL.bind (SL.ev sl x) fun y => SL.bind (SL.evs sl r) fun ys => SL.ret (y :: ys)

theorem SL.evParts (sl : Slots) : ∀ xs, SL (evParts sl xs)
  | [] => SL.ret []
  | (i, x) :: r => by
    refine SL.eta ?_
    unfold Pv.evParts
    exact SL.bind (SL.ev sl x) fun y => SL.bind (SL.evParts sl r) fun ys => SL.ret ((i, y) :: ys)

theorem SL.cellsS (x : SV) : SL (cellsS x) := by
  cases x with
  | p y => cases y <;> first | exact SL.fL _ | exact SL.cond (SL.ret _) | exact SL.ret _
  | _ => first | exact SL.ret _ | exact SL.no

theorem SL.cellsP (y : PV) : SL (cellsP y) := by
  cases y <;> first | exact SL.fWL _ | exact SL.cond (SL.ret _) | exact SL.ret _

theorem SL.ofCellsP (agg : Bool) (l : List PV) : SL (ofCellsP agg l) := by
  cases agg with
  | true =>
    unfold Pv.ofCellsP
    exact SL.bind (SL.fL l) fun l => SL.ret _
  | false =>
    unfold Pv.ofCellsP
    simp only
    split
    · exact SL.bind (SL.fPV _) fun x => SL.ret _
    · exact SL.no

theorem SL.ofCellsS (agg : Bool) (l : List SV) : SL (ofCellsS agg l) := by
  cases agg with
  | true =>
    unfold Pv.ofCellsS
    exact SL.bind (SL.fL l) fun l => SL.fSV _
  | false =>
    unfold Pv.ofCellsS
    simp only
    split
    · exact SL.fSV _
    · exact SL.no

theorem SL.intBin (k : IntKind) (op : BinOp) (a b : Int) : SL (intBin k op a b) := by
  unfold Pv.intBin
  cases op <;> first | exact SL.ret _ | exact SL.and (SL.ret _) | exact SL.no

theorem SL.boolBin (op : BinOp) (a b : Bool) : SL (boolBin op a b) := by
  unfold Pv.boolBin
  cases op <;> first | exact SL.ret _ | exact SL.no

theorem SL.aggBin (op : BinOp) (a b : List PV) : SL (aggBin op a b) := by
  unfold Pv.aggBin
  cases op <;> first | exact SL.ret _ | exact SL.no

theorem SL.vcBin (T : Tab) (op : BinOp) (t : Nat) (x y : PV) : SL (vcBin T op t x y) := by
  unfold Pv.vcBin
  split
  · exact SL.intBin _ _ _ _
  · exact SL.intBin _ _ _ _
  · refine SL.bind (SL.find T t) fun ty => ?_
    split
    · exact SL.boolBin _ _ _
    · exact SL.no
  · exact SL.bind (SL.find T t) fun ty => SL.cond (SL.aggBin _ _ _)
  · exact SL.no

theorem SL.vcUn (op : UnOp) (x : SV) : SL (vcUn op x) := by
  unfold Pv.vcUn
  split <;> first | exact SL.ret _ | exact SL.no

theorem SL.loadS (cs : List SV) (o : Nat) (ty : Ty) : SL (loadS cs o ty) := by
  unfold Pv.loadS
  exact SL.bind (SL.fL _) fun _ => SL.cond (SL.ofCellsS _ _)
theorem SL.loadR (cs : List PV) (o : Nat) (ty : Ty) : SL (loadR cs o ty) := by
  unfold Pv.loadR
  exact SL.ex fun _ => SL.and (SL.and (SL.ofCellsP _ _))
theorem SL.loadF (cs : List PV) (ty : Ty) : SL (loadF cs ty) := by
  unfold Pv.loadF
  exact SL.bind (SL.fL _) fun _ => SL.cond (SL.ofCellsP _ _)
theorem SL.loadN (cs : List NC) (h : Option (Nat × SV)) (o : Nat) (ty : Ty) : SL (loadN cs h o ty) := by
  unfold Pv.loadN
  exact SL.ex fun _ => SL.and (SL.and (SL.and (SL.ofCellsS _ _)))
theorem SL.loadOb (ob : Ob) (o : Nat) (ty : Ty) : SL (loadOb ob o ty) := by
  cases ob
  · exact SL.loadS _ _ _
  · exact SL.loadR _ _ _
  · exact SL.loadR _ _ _
  · exact SL.loadN _ _ _ _
  · exact SL.no

theorem SL.vcLoad (T : Tab) (t : Nat) (x : SV) (obs : Obs) : SL (vcLoad T t x obs) := by
  unfold Pv.vcLoad
  refine SL.bind (SL.find T t) fun ty => ?_
  split
  · exact SL.bind (SL.at_ _ _) fun _ => SL.cond (SL.loadOb _ _ _)
  · exact SL.bind (SL.at_ _ _) fun _ => SL.loadOb _ _ _
  · exact SL.loadF _ _
  · exact SL.loadR _ _ _
  · exact SL.no

theorem SL.fDrop (lit : Bool) (o : Nat) (l : List PV) : SL (fDrop lit o l) := SL.iff (fun k => fDrop_iff lit o l k) (SL.ret _)

theorem SL.vcFieldAddr (T : Tab) (s : Nat) (x : SV) (f : Nat) (obs : Obs) : SL (vcFieldAddr T s x f obs) := by
  unfold Pv.vcFieldAddr
  refine SL.bind (SL.find T s) fun ty => ?_
  split
  · split
    · split
      · exact SL.bind (SL.at_ _ _) fun _ => SL.cond (SL.ret _)
      · exact SL.ret _
      · exact SL.bind (SL.fDrop _ _ _) fun _ => SL.ret _
      · exact SL.no
    · exact SL.no
  · exact SL.no

theorem SL.elemP (l : List PV) (o sz : Nat) : SL (elemP l o sz) := by
  unfold Pv.elemP
  exact SL.ex fun _ => SL.and (SL.and (SL.ret _))

theorem SL.vcIndexAddr (T : Tab) (t : Nat) (x : SV) (j : Int) (obs : Obs) : SL (vcIndexAddr T t x j obs) := by
  unfold Pv.vcIndexAddr
  refine SL.bind (SL.find T t) fun ty => ?_
  split
  · split
    · exact SL.bind (SL.at_ _ _) fun _ => SL.cond (SL.ex fun _ => SL.and (SL.and (SL.ret _)))
    · exact SL.ex fun _ => SL.and (SL.and (SL.ret _))
    · exact SL.ex fun _ => SL.and (SL.and (SL.elemP _ _ _))
    · exact SL.no
  · refine SL.bind (SL.find T _) fun te => ?_
    split
    · exact SL.ex fun _ => SL.and (SL.and (SL.and (SL.elemP _ _ _)))
    · refine SL.bind (SL.at_ _ _) fun ob => ?_
      split
      · exact SL.cond (SL.ex fun _ => SL.and (SL.and (SL.ret _)))
      · exact SL.cond (SL.ex fun _ => SL.and (SL.and (SL.ret _)))
      · exact SL.no
    · exact SL.no
  · exact SL.no

theorem SL.putS : ∀ (ps : List (Nat × SV)) (cs : List SV) (pl : List (Nat × Nat)), SL (putS cs pl ps)
  | [], cs, pl => SL.ret cs
  | (i, y) :: r, cs, pl => by
    refine SL.eta ?_
    unfold Pv.putS
    split
    · exact SL.bind (SL.cellsS y) fun xs => SL.cond (SL.bind (SL.fL _) fun l => SL.putS r l pl)
    · exact SL.no

theorem SL.rowParts : ∀ (ps : List (Nat × SV)) (cs : List PV) (pl : List (Nat × Nat)), SL (rowParts cs pl ps)
  | [], cs, pl => SL.ret cs
  | (i, y) :: r, cs, pl => by
    refine SL.eta ?_
    unfold Pv.rowParts
    split
    · exact SL.bind (SL.toP y) fun y => SL.bind (SL.cellsP y) fun xs => SL.cond (SL.bind (SL.fL _) fun l => SL.rowParts r l pl)
    · exact SL.no

theorem SL.vcLen (T : Tab) (t : Nat) (x : SV) (obs : Obs) : SL (vcLen T t x obs) := by
  unfold Pv.vcLen
  refine SL.bind (SL.find T t) fun ty => ?_
  split
  · split
    · exact SL.ret _
    · exact SL.ret _
    · refine SL.bind (SL.at_ _ _) fun ob => ?_
      split
      · exact SL.ret _
      · exact SL.ret _
      · exact SL.no
    · exact SL.no
  · exact SL.ret _
  · exact SL.no

theorem SL.maxL : ∀ (l : List SV) (a : Int), SL (maxL a l)
  | [], a => SL.ret a
  | x :: r, a => by
    refine SL.eta ?_
    unfold Pv.maxL
    split
    · exact SL.maxL r _
    · exact SL.no

theorem SL.vcMax (l : List SV) : SL (vcMax l) := by
  unfold Pv.vcMax
  split
  · exact SL.bind (SL.maxL _ _) fun _ => SL.ret _
  · exact SL.no

theorem SL.optInt (sl : Slots) (x : Option Operand) (d : Nat) : SL (optInt sl x d) := by
  cases x with
  | none => exact SL.ret d
  | some x =>
    unfold Pv.optInt
    refine SL.bind (SL.evP sl x) fun y => ?_
    split
    · exact SL.ex fun _ => SL.and (SL.ret _)
    · exact SL.no

theorem SL.sliceP (sl : Slots) (n sz : Nat) (ex : Bool) (l : List PV) (lo hi mx : Option Operand) : SL (sliceP sl n sz ex l lo hi mx) := by
  unfold Pv.sliceP
  refine SL.bind (SL.optInt _ _ _) fun a => SL.bind (SL.optInt _ _ _) fun b => SL.and (SL.and ?_)
  cases mx with
  | none => cases hi <;> exact SL.ret _
  | some x => exact SL.bind (g := fun k : Bool → Prop => Pv.optInt sl (some x) 0 fun m => m = b ∧ k true) (SL.bind (SL.optInt _ _ _) fun m => SL.and (SL.ret true)) fun _ => SL.ret _

theorem SL.vcSlice (T : Tab) (sl : Slots) (t : Nat) (x : SV) (lo hi mx : Option Operand) : SL (vcSlice T sl t x lo hi mx) := by
  unfold Pv.vcSlice
  refine SL.bind (SL.find T t) fun ty => ?_
  split
  · refine SL.bind (SL.find T _) fun te => ?_
    split
    · exact SL.and (SL.sliceP _ _ _ _ _ _ _ _)
    · exact SL.no
  · split
    · exact SL.and (SL.sliceP _ _ _ _ _ _ _ _)
    · exact SL.no
  · exact SL.no

theorem SL.vcField (T : Tab) (t f : Nat) (x : SV) : SL (vcField T t f x) := by
  unfold Pv.vcField
  refine SL.bind (SL.find T t) fun ty => ?_
  split
  · split
    · refine SL.bind (SL.find T _) fun te => ?_
      split
      · exact SL.bind (SL.fL _) fun _ => SL.cond (SL.ofCellsP _ _)
      · exact SL.bind (SL.fL _) fun _ => SL.cond (SL.ofCellsS _ _)
      · exact SL.no
    · exact SL.no
  · exact SL.no

theorem SL.vcIndex (T : Tab) (t : Nat) (x : PV) (j : Int) : SL (vcIndex T t x j) := by
  unfold Pv.vcIndex
  split
  · refine SL.bind (SL.find T t) fun ty => ?_
    split
    · exact SL.bind (SL.find T _) fun te => SL.ex fun _ => SL.and (SL.and (SL.ex fun _ => SL.and (SL.and (SL.ofCellsP _ _))))
    · exact SL.no
  · exact SL.no

theorem SL.vcNilCmp (T : Tab) (op : BinOp) (t : Nat) (x : PV) : SL (vcNilCmp T op t x) := by
  unfold Pv.vcNilCmp
  refine SL.bind (SL.find T t) fun ty => ?_
  split
  · split
    · refine SL.and ?_
      cases op <;> first | exact SL.ret _ | exact SL.no
    · exact SL.no
  · exact SL.no

theorem SL.pure (T : Tab) (o : Op) (sl : Slots) (obs : Obs) : SL (vcPure T o sl obs) := by
  refine SL.eta ?_
  cases o <;> simp only [vcPure] <;> try exact SL.no
  case move x => exact SL.ev sl x
  case assign x => exact SL.ev sl x
  case pick c a b =>
    refine SL.bind (SL.ev sl c) fun c => ?_
    split
    · exact SL.ev sl a
    · exact SL.ev sl b
    · rename_i q
      cases q with
      | true => exact SL.iff (fun k => ⟨fun h => h.1 rfl, fun h => ⟨fun _ => h, fun h => by cases h⟩⟩) (SL.ev sl a)
      | false => exact SL.iff (fun k => ⟨fun h => h.2 rfl, fun h => ⟨fun h => (by cases h), fun _ => h⟩⟩) (SL.ev sl b)
    · exact SL.no
  case binOp op t x y t' =>
    split
    · exact SL.bind (SL.evP sl x) fun x => SL.vcNilCmp _ _ _ _
    · exact SL.bind (SL.evP sl x) fun x => SL.bind (SL.evP sl y) fun y => SL.vcBin _ _ _ _ _
  case unOp op t x => exact SL.bind (SL.ev sl x) fun x => SL.vcUn _ _
  case convert src dst x =>
    refine SL.bind (SL.ev sl x) fun x => SL.bind (SL.find T src) fun _ => SL.bind (SL.find T dst) fun ty => ?_
    split
    · split
      · exact SL.ret _
      · exact SL.no
    · exact SL.no
  case extract x i =>
    refine SL.bind (SL.ev sl x) fun x => ?_
    split
    · exact SL.nth _ _
    · exact SL.no
  case build t ps => exact SL.bind (SL.find T t) fun ty => SL.cond (SL.bind (SL.evParts sl _) fun ps => SL.bind (SL.fL _) fun z => SL.bind (SL.putS _ _ _) fun l => SL.fSV _)
  case load t x => exact SL.bind (SL.ev sl x) fun x => SL.vcLoad _ _ _ _
  case fieldAddr s x f => exact SL.bind (SL.ev sl x) fun x => SL.vcFieldAddr _ _ _ _ _
  case indexAddr t x j =>
    refine SL.bind (SL.ev sl x) fun x => SL.bind (SL.evP sl j) fun j => ?_
    split
    · exact SL.vcIndexAddr _ _ _ _ _
    · exact SL.no
  case field t x f => exact SL.bind (SL.ev sl x) fun x => SL.vcField _ _ _ _
  case index t x j =>
    refine SL.bind (SL.evP sl x) fun x => SL.bind (SL.evP sl j) fun j => ?_
    split
    · exact SL.vcIndex _ _ _ _
    · exact SL.no
  case slice t x lo hi mx =>
    split
    · exact SL.no
    · exact SL.bind (SL.ev sl x) fun x => SL.vcSlice _ _ _ _ _ _ _
  case makeFunc f first cap => exact SL.bind (SL.evs sl _) fun a => SL.bind (SL.evs sl _) fun b => SL.fSV _
  case call c =>
    split
    · split
      · exact SL.bind (SL.ev sl _) fun x => SL.vcLen _ _ _ _
      · exact SL.no
    · exact SL.bind (SL.evs sl _) fun l => SL.vcMax _
    · exact SL.no

theorem SL.mkVar (ty : Ty) (t : Nat) (cs : List SV) : SL (mkVar ty t cs) := by
  unfold Pv.mkVar
  cases isArr ty with
  | true =>
    cases pures cs with
    | none => exact SL.no
    | some l => exact (SL.bind (SL.fWL l) fun l => SL.ret (Ob.arr t l) : SL fun k : Ob → Prop => Pv.fWL l fun l => k (Ob.arr t l))
  | false => exact SL.ret _

theorem SL.new (T : Tab) (o : Op) (sl : Slots) : SL (vcNew T o sl) := by
  refine SL.eta ?_
  cases o <;> simp only [vcNew] <;> try exact SL.no
  case alloc t => exact SL.bind (SL.find T t) fun ty => SL.cond (SL.bind (SL.fL _) fun z => SL.mkVar _ _ _)
  case box t x => exact SL.bind (SL.ev sl x) fun x => SL.bind (SL.find T t) fun ty => SL.bind (SL.cellsS x) fun cs => SL.cond (SL.mkVar _ _ _)
  case makeSlice t l c =>
    refine SL.bind (SL.evP sl l) fun l => SL.bind (SL.evP sl c) fun c => ?_
    split
    · unfold vcMake
      refine SL.bind (SL.find T t) fun ty => ?_
      split
      · exact SL.bind (SL.find T _) fun te => SL.cond (SL.ex fun _ => SL.ex fun _ => SL.and (SL.and (SL.and (SL.and (SL.bind (SL.fWL _) fun z => SL.ret _)))))
      · exact SL.no
    · exact SL.no
  case buildSlice t n ps =>
    refine SL.bind (SL.evParts sl _) fun ps => ?_
    unfold vcBuildSlice
    refine SL.bind (SL.find T t) fun ty => ?_
    split
    · exact SL.bind (SL.find T _) fun te => SL.cond (SL.bind (SL.fWL _) fun z => SL.bind (SL.fL _) fun z => SL.bind (SL.fL _) fun pl => SL.bind (SL.rowParts _ _ _) fun l => SL.ret _)
    · exact SL.no

theorem SL.fn (F : Nat) (f : Operand) (args : List Operand) (sl : Slots) : SL (fun k : FuncId × List SV → Prop => vcFn F f args sl fun f l => k (f, l)) := by
  unfold vcFn
  refine SL.bind (SL.ev sl f) fun f => ?_
  split
  · rename_i fi a b
    exact SL.cond (SL.bind (SL.evs sl args) fun l => SL.bind (SL.fL _) fun l => SL.ret (fi, l))
  · rename_i fi a b
    exact SL.cond (SL.bind (SL.evs sl args) fun l => SL.bind (SL.fL _) fun l => SL.ret (fi, l))
  · exact SL.no

/-! ### Operands -/

section
variable {sl sl' : Slots} {T : Tab} {obs : Obs}

theorem ev_congr {x : Operand} (h : ∀ t, x = .tmp t → sl.get t = sl'.get t) : ev sl x = ev sl' x := by
  cases x with
  | tmp t => funext k; simp only [ev, h t rfl]
  | _ => rfl

theorem evP_congr {x : Operand} (h : ∀ t, x = .tmp t → sl.get t = sl'.get t) : evP sl x = evP sl' x := by
  funext k
  simp only [evP, ev_congr h]

theorem evs_congr : ∀ (xs : List Operand), (∀ x ∈ xs, ∀ t, x = .tmp t → sl.get t = sl'.get t) → evs sl xs = evs sl' xs
  | [], _ => rfl
  | x :: r, h => by
    funext k
    simp only [evs, ev_congr (h x (by simp)), evs_congr r fun y hy => h y (by simp [hy])]

theorem evParts_congr : ∀ (xs : List (Nat × Operand)), (∀ x ∈ xs, ∀ t, x.2 = .tmp t → sl.get t = sl'.get t) → evParts sl xs = evParts sl' xs
  | [], _ => rfl
  | (i, x) :: r, h => by
    funext k
    simp only [evParts, ev_congr (h (i, x) (by simp)), evParts_congr r fun y hy => h y (by simp [hy])]

theorem optInt_congr {x : Option Operand} {d : Nat} (h : ∀ y, x = some y → ∀ t, y = .tmp t → sl.get t = sl'.get t) : optInt sl x d = optInt sl' x d := by
  cases x with
  | none => rfl
  | some y => funext k; simp only [optInt, evP_congr (h y rfl)]

theorem vcSlice_congr {t : Nat} {x : SV} {lo hi mx : Option Operand} (h1 : ∀ y, lo = some y → ∀ t, y = .tmp t → sl.get t = sl'.get t) (h2 : ∀ y, hi = some y → ∀ t, y = .tmp t → sl.get t = sl'.get t) (h3 : ∀ y, mx = some y → ∀ t, y = .tmp t → sl.get t = sl'.get t) :
    vcSlice T sl t x lo hi mx = vcSlice T sl' t x lo hi mx := by
  funext k
  unfold vcSlice sliceP
  rw [optInt_congr h1]
  have e2 : ∀ d, optInt sl hi d = optInt sl' hi d := fun d => optInt_congr h2
  cases mx with
  | none => simp only [e2]
  | some y =>
    have e3 : ∀ d, optInt sl (some y) d = optInt sl' (some y) d := fun d => optInt_congr h3
    simp only [e2, e3]

theorem vcPure_congr {o : Op} (h : ∀ x ∈ o.operands, ∀ t, x = .tmp t → sl.get t = sl'.get t) : vcPure T o sl obs = vcPure T o sl' obs := by
  funext k
  cases o <;> simp only [vcPure]
  case move x => rw [ev_congr (h x (by simp [Op.operands]))]
  case assign x => rw [ev_congr (h x (by simp [Op.operands]))]
  case pick c a b => rw [ev_congr (h c (by simp [Op.operands])), ev_congr (h a (by simp [Op.operands])), ev_congr (h b (by simp [Op.operands]))]
  case binOp op t x y t' => rw [evP_congr (h x (by simp [Op.operands])), evP_congr (h y (by simp [Op.operands]))]
  case unOp op t x => rw [ev_congr (h x (by simp [Op.operands]))]
  case convert src dst x => rw [ev_congr (h x (by simp [Op.operands]))]
  case extract x i => rw [ev_congr (h x (by simp [Op.operands]))]
  case build t ps => rw [evParts_congr ps.toList fun x hx => h x.2 (by simp [Op.operands]; exact ⟨x.1, by simpa using hx⟩)]
  case load t x => rw [ev_congr (h x (by simp [Op.operands]))]
  case fieldAddr s x f => rw [ev_congr (h x (by simp [Op.operands]))]
  case indexAddr t x j => rw [ev_congr (h x (by simp [Op.operands])), evP_congr (h j (by simp [Op.operands]))]
  case field t x f => rw [ev_congr (h x (by simp [Op.operands]))]
  case index t x j => rw [evP_congr (h x (by simp [Op.operands])), evP_congr (h j (by simp [Op.operands]))]
  case slice t x lo hi mx =>
    have e1 : ∀ y, lo = some y → ∀ t, y = .tmp t → sl.get t = sl'.get t := fun y hy => h y (by simp [Op.operands, hy])
    have e2 : ∀ y, hi = some y → ∀ t, y = .tmp t → sl.get t = sl'.get t := fun y hy => h y (by simp [Op.operands, hy])
    have e3 : ∀ y, mx = some y → ∀ t, y = .tmp t → sl.get t = sl'.get t := fun y hy => h y (by simp [Op.operands, hy])
    have e4 := ev_congr (h x (by simp [Op.operands]))
    have e5 : ∀ x, vcSlice T sl t x lo hi mx = vcSlice T sl' t x lo hi mx := fun x => vcSlice_congr e1 e2 e3
    cases hi <;> cases mx <;> first | rfl | simp only [e4, e5]
  case makeFunc f first cap => rw [evs_congr first.toList fun x hx => h x (by simp [Op.operands]; exact .inl (by simpa using hx)), evs_congr cap.toList fun x hx => h x (by simp [Op.operands]; exact .inr (by simpa using hx))]
  case call c =>
    obtain ⟨callee, args, argTypes⟩ := c
    have ha : ∀ x ∈ args.toList, ∀ t, x = .tmp t → sl.get t = sl'.get t := fun x hx => h x (by simp only [Op.operands, Call.operands, Array.mem_append]; exact .inr (by simpa using hx))
    simp only
    split
    · split
      · rename_i x t hargs _
        rw [ev_congr (ha x (by rw [hargs]; simp))]
      · rfl
    · rw [evs_congr _ ha]
    · rfl

theorem vcNew_congr {o : Op} (h : ∀ x ∈ o.operands, ∀ t, x = .tmp t → sl.get t = sl'.get t) : vcNew T o sl = vcNew T o sl' := by
  funext k
  cases o <;> simp only [vcNew]
  case box t x => rw [ev_congr (h x (by simp [Op.operands]))]
  case makeSlice t l c => rw [evP_congr (h l (by simp [Op.operands])), evP_congr (h c (by simp [Op.operands]))]
  case buildSlice t n ps => rw [evParts_congr ps.toList fun x hx => h x.2 (by simp [Op.operands]; exact ⟨x.1, by simpa using hx⟩)]

theorem vcFn_congr {F : Nat} {f : Operand} {args : List Operand} (hf : ∀ t, f = .tmp t → sl.get t = sl'.get t) (h : ∀ x ∈ args, ∀ t, x = .tmp t → sl.get t = sl'.get t) : vcFn F f args sl = vcFn F f args sl' := by
  funext k
  unfold vcFn
  rw [ev_congr hf, evs_congr args h]

def keep (S : List Nat) (sl : Slots) : Slots := S.map fun t => (t, sl.get t)

theorem get_keep : ∀ (S : List Nat) (sl : Slots) (t : Nat), (keep S sl).get t = if t ∈ S then sl.get t else .any
  | [], sl, t => by simp [keep, Slots.get]
  | x :: r, sl, t => by
    have : keep (x :: r) sl = (x, sl.get x) :: keep r sl := rfl
    rw [this, get_cons, get_keep r sl t]
    by_cases h : x = t
    · subst h; simp
    · simp [h, Ne.symm h]
end
end Go.Pv

/- Which objects a value speaks of; some of the objects. -/
namespace Go.Pv
open Go.Vc
open Go.RowKit (Below)

theorem memN_iff (t : Nat) (l : List Nat) : memN t l = true ↔ t ∈ l := by
  induction l with
  | nil => simp [memN]
  | cons x r ih =>
    by_cases h : x = t
    · subst h; simp [memN]
    · have : Nat.beq x t = false := by rw [Bool.eq_false_iff]; intro h'; exact h (Nat.eq_of_beq_eq_true h')
      have h' : t ≠ x := fun e => h e.symm
      simp [memN, this, ih, h']

/-- The objects of which a value speaks. -/
inductive RefsIn (B : Nat → Prop) : SV → Prop
  | p (x : PV) : RefsIn B (.p x)
  | kb (b : Bool) : RefsIn B (.kb b)
  | any : RefsIn B .any
  | nil : RefsIn B .nil
  | ob {i : Nat} (h : B i) : RefsIn B (.ob i)
  | pt {i o : Nat} (h : B i) : RefsIn B (.pt i o)
  | ag {l : List SV} (h : ∀ (j : Nat) (p : SV), l[j]? = some p → RefsIn B p) : RefsIn B (.ag l)
  | tup {l : List SV} (h : ∀ (j : Nat) (p : SV), l[j]? = some p → RefsIn B p) : RefsIn B (.tup l)
  | cl {f : Fn} {a b : List SV} (h1 : ∀ (j : Nat) (p : SV), a[j]? = some p → RefsIn B p) (h2 : ∀ (j : Nat) (p : SV), b[j]? = some p → RefsIn B p) : RefsIn B (.cl f a b)

theorem get_len {α β : Type} {l : List α} {xs : List β} (h : l.length = xs.length) {j : Nat} {p : α} (hp : l[j]? = some p) : ∃ x, xs[j]? = some x := by
  have := (List.getElem?_eq_some_iff.1 hp).1
  exact ⟨xs[j]'(by omega), List.getElem?_eq_getElem (by omega)⟩

section
variable {ρ : Nat → Value} {B B' : Nat → Prop} {w : World} {S : Nat → Prop}

theorem Den.refs {x : SV} {v : Value} (h : Den ρ B w S x v) : RefsIn B x := by
  induction h with
  | p h => exact .p _
  | kb b => exact .kb b
  | any v => exact .any
  | nil => exact .nil
  | ob hi => exact .ob hi
  | pt hi hb => exact .pt hi
  | ag hl h1 _ ih => exact .ag fun j p hp => by obtain ⟨x, hx⟩ := get_len hl hp; exact ih j p x hp hx
  | tup hl _ ih => exact .tup fun j p hp => by obtain ⟨x, hx⟩ := get_len hl hp; exact ih j p x hp hx
  | cl ha hb _ _ ih1 ih2 => exact .cl (fun j p hp => by obtain ⟨x, hx⟩ := get_len ha hp; exact ih1 j p x hp hx) (fun j p hp => by obtain ⟨x, hx⟩ := get_len hb hp; exact ih2 j p x hp hx)

theorem Den.restrict {x : SV} {v : Value} (h : Den ρ B w S x v) (hr : RefsIn B' x) : Den ρ B' w S x v := by
  induction h with
  | p h => exact .p h
  | kb b => exact .kb b
  | any v => exact .any v
  | nil => exact .nil
  | ob hi => cases hr with | ob h => exact .ob h
  | pt hi hb => cases hr with | pt h => exact .pt h hb
  | ag hl h1 _ ih => cases hr with | ag h => exact .ag hl h1 fun j p x hp hx => ih j p x hp hx (h j p hp)
  | tup hl _ ih => cases hr with | tup h => exact .tup hl fun j p x hp hx => ih j p x hp hx (h j p hp)
  | cl ha hb _ _ ih1 ih2 => cases hr with | cl h1 h2 => exact .cl ha hb (fun j p x hp hx => ih1 j p x hp hx (h1 j p hp)) (fun j p x hp hx => ih2 j p x hp hx (h2 j p hp))

end

def RefsOb (B : Nat → Prop) : Ob → Prop
  | .box _ cs => ∀ (j : Nat) (p : SV), cs[j]? = some p → RefsIn B p
  | .nest _ _ _ _ h => ∀ (p : Nat) (y : SV), h = some (p, y) → RefsIn B y
  | _ => True

theorem ObOk.refs {ρ : Nat → Value} {B : Nat → Prop} {w : World} {S : Nat → Prop} {ob : Ob} {x : Value} (h : ObOk ρ B w S ob x) : RefsOb B ob := by
  cases ob with
  | box t cs =>
    obtain ⟨b, xs, _, _, hd, _⟩ := h
    intro j p hp
    obtain ⟨y, hy⟩ := get_len hd.1 hp
    exact (hd.2 j p y hp hy).refs
  | nest e sz m cs hole =>
    obtain ⟨xs, _, hl, _, _, h5, _, _⟩ := h
    intro p y hp
    obtain ⟨v, _, hd⟩ := h5 p y hp
    exact hd.refs
  | _ => trivial

theorem ObOk.restrict {ρ : Nat → Value} {B B' : Nat → Prop} {w : World} {S : Nat → Prop} {ob : Ob} {x : Value} (h : ObOk ρ B w S ob x) (hr : RefsOb B' ob) : ObOk ρ B' w S ob x := by
  cases ob with
  | box t cs =>
    obtain ⟨b, xs, hx, hb, hd, h1⟩ := h
    exact ⟨b, xs, hx, hb, ⟨hd.1, fun j p y hp hy => (hd.2 j p y hp hy).restrict (hr j p hp)⟩, h1⟩
  | nest e sz m cs hole =>
    obtain ⟨xs, h1, h2, h3, h4, h5, h6, h7⟩ := h
    exact ⟨xs, h1, h2, h3, h4, fun p y hp => by obtain ⟨v, hv, hd⟩ := h5 p y hp; exact ⟨v, hv, hd.restrict (hr p y hp)⟩, h6, h7⟩
  | _ => exact h

section
variable {w0 : World} {S0 : Fr} {obs obs' : Obs} {ρ : Nat → Value} {S : Nat → Prop} {w w' : World}

/-- Some of the objects, no others. -/
theorem SatW.shrink (h : SatW w0 S0 obs ρ S w) (hl : obs'.length ≤ obs.length) (hs : ∀ (i : Nat) (o : Ob), obs'[i]? = some o → o.live = true → obs[i]? = some o) (hr : ∀ (i : Nat) (o : Ob), obs'[i]? = some o → RefsOb (Lt obs'.length) o) (hp : ∀ i v, S0.pin i = some v → i < obs'.length) : SatW w0 S0 obs' ρ S w := by
  refine ⟨fun i o hi => ?_, fun i j oi oj b hi hj li lj bi bj => h.dist i j oi oj b (hs i oi hi li) (hs j oj hj lj) li lj bi bj, fun i o b hi hl hb => h.own i o b (hs i o hi hl) hl hb, h.sub, h.lt, h.new, h.le, fun i hi => h.plain i (by omega), fun i v hi => ⟨(h.pins i v hi).1, hp i v hi⟩⟩
  cases hl' : o.live with
  | false => cases o <;> first | (cases hl'; done) | trivial
  | true => exact (h.objs i o (hs i o hi hl')).restrict (hr i o hi)

/-- More blocks that nobody changes, in a later world. -/
theorem SatW.grow (h : SatW w0 S0 obs ρ S w) (hl : Le w w') {S' : Nat → Prop} (hs : ∀ b, S b → S' b) (hsn : ∀ b, S' b → S b ∨ w.heap.size ≤ b) (hlt : ∀ b, S' b → b < w'.heap.size) : SatW w0 S0 obs ρ S' w' := by
  refine (h.mono hl).more hs hlt fun b hb => ?_
  rcases hsn b hb with h1 | h1
  · exact .inl h1
  · refine .inr ⟨.inl (Nat.le_trans h.le.size h1), fun i ob hi hlv hown => ?_⟩
    have := h.owned hi hlv (h.same hi hlv (fun g hg => Below.block hl g (h.owned hi hlv hg)) hown)
    omega

end
end Go.Pv
