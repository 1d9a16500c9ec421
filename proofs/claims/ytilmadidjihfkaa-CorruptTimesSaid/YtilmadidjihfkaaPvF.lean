/- The definitions of the VC generator: regions that draw their order, loops, code, functions. Nothing is proved here. -/
import Derived.Test.YtilmadidjihfkaaPvE
namespace Go.Pv
open Go.Vc

/-! A region that draws its order: what only reads or makes new objects, in any order; then the rest, one behind the other. -/

def noRefs (l : List SV) : Bool := match pures l with
  | some _ => true
  | none => false

def isTmp (t : Nat) : Operand → Bool
  | .tmp u => Nat.beq u t
  | _ => false

def anyTmp (t : Nat) : List Operand → Bool
  | [] => false
  | x :: r => bif isTmp t x then true else anyTmp t r

/-- A slot that is handed to a Go function. -/
def argUse (t : Nat) : List Oper → Bool
  | [] => false
  | o :: r => match o.op with
    | .call c => match c.callee with
      | .value _ => bif anyTmp t c.args.toList then true else argUse t r
      | _ => argUse t r
    | _ => argUse t r

def fzOf (all : List Oper) (d : Option Nat) : Bool := match d with
  | none => false
  | some t => argUse t all

/-- fz: a row that is made is not changed any more. -/
def vcOpD (P : Program) (F : Nat) (T : Tab) (fz : Bool) (o : Op) (sl : Slots) (obs : Obs) (kv : SV → Prop) (kn : Ob → Prop) : Prop :=
  match opK o with
  | .pure => vcPure T o sl obs kv
  | .new => match fz with
    | true => vcNew T o sl fun ob => match ob with
      | .row _ _ n ex cs => kv (.p (.sl ex n cs))
      | ob => kn ob
    | false => vcNew T o sl kn
  | .call => match o with
    | .call c => match c.callee with
      | .value f => vcFn F f c.args.toList sl fun f svs => (match peekFL obs svs with
        | some l => fun k : List PV → Prop => fWs l k
        | none => fun _ => False) fun l => ∃ r, Ret P f l [] r ∧ (plainS r || noRefs svs) = true ∧ fSV r kv
      | _ => False
    | _ => False
  | _ => False

def memS (i : Nat) : List (Nat × Ob) → Bool
  | [] => false
  | (j, _) :: r => bif Nat.beq j i then true else memS i r

/-- A store into a variable that nothing else of the head looks at. -/
def vcStD (T : Tab) (sl : Slots) (obs0 : Obs) (cr : Obs) (tg : List Nat) (ss : List (Nat × Ob)) (t : Nat) (x y : Operand) (k : Nat → Ob → Prop) : Prop :=
  ev sl x fun x => match x with
  | .ob i => bif (memN i tg || Nat.ble (len obs0) i) && !memS i ss then evP sl y fun y => Obs.at (obs0 ++ cr) i fun ob => match ob with
    | .box tb cs => T.find t fun ty => cellsS (.p y) fun l => bif noRefs cs && Nat.beq (len l) ty.size && Nat.beq (len l) (len cs) then k i (.box tb l) else False
    | _ => False
    else False
  | _ => False

def stepD (P : Program) (F : Nat) (T : Tab) (N : Nat) (all : List Oper) (obs0 obs : Obs) (tg : List Nat) (o : Oper) (k : Obs → List (Nat × Ob) → Slots → Prop) (cr : Obs) (ss : List (Nat × Ob)) (sl : Slots) : Prop :=
  match o.op with
  | .store t x y => match o.guard, o.dst with
    | none, none => vcStD T sl obs0 cr tg ss t x y fun i ob => k cr ((i, ob) :: ss) sl
    | _, _ => False
  | _ => vcGuard all o.guard sl
      (fun sl => vcOpD P F T (fzOf all o.dst) o.op sl obs
        (fun x => put N o.dst x sl fun sl => k cr ss sl)
        (fun ob => cr.snoc ob fun cr' => fN (len obs + len cr) fun q => put N o.dst (.ob q) sl fun sl => k cr' ss sl))
      (fun sl => put N o.dst (.p (.v undef)) sl fun sl => k cr ss sl)

def vcHead (P : Program) (F : Nat) (T : Tab) (N : Nat) (all : List Oper) (obs0 obs : Obs) (tg : List Nat) (k : Slots → Obs → List (Nat × Ob) → Prop) (l : List Oper) : Obs → List (Nat × Ob) → Slots → Prop :=
  List.rec (motive := fun _ => Obs → List (Nat × Ob) → Slots → Prop) (fun cr ss sl => k sl cr ss) (fun o _ ih => stepD P F T N all obs0 obs tg o ih) l

def hdOps (sl : Slots) (obs : Obs) : List Oper → List Operand
  | [] => []
  | o :: r => frzOps o.op sl obs ++ hdOps sl obs r

def tgOps (sl : Slots) : List Oper → List Nat
  | [] => []
  | o :: r => match o.op with
    | .store _ (.tmp t) _ => match sl.get t with
      | .ob i => i :: tgOps sl r
      | _ => tgOps sl r
    | _ => tgOps sl r

def killAll : List Nat → Obs → Obs
  | [], obs => obs
  | i :: r, obs => killAll r (obs.set i .dead)

def applyS : List (Nat × Ob) → Obs → Obs
  | [], obs => obs
  | (i, ob) :: r, obs => applyS r (obs.set i ob)

def isText (e : Edge) : Bool := match e.ground with
  | .textOnly _ => true
  | _ => false

def anyText : List Edge → Bool
  | [] => false
  | e :: r => bif isText e then true else anyText r

def lateAt : List Oper → Nat → Bool
  | [], _ => false
  | o :: _, 0 => anyText o.after.toList
  | _ :: r, n + 1 => lateAt r n

/-- The slot holds the address of an element. -/
def isElem (t : Nat) : List Oper → Bool
  | [] => false
  | o :: r => match o.op, o.dst with
    | .indexAddr _ _ _, some d => bif Nat.beq d t then true else isElem t r
    | _, _ => isElem t r

/-- The operation stores into an element of a row. -/
def elemAt (all : List Oper) : List Oper → Nat → Bool
  | [], _ => false
  | o :: _, 0 => match o.op with
    | .store _ (.tmp t) _ => isElem t all
    | _ => false
  | _ :: r, n + 1 => elemAt all r n

/-- How many operations are in whatever order. -/
def cut2 (all : List Oper) : Nat := match lateAt all (cutAt all) with
  | true => bif elemAt all all (cutAt all) then cutAt all else len all
  | false => cutAt all

def vcDraw (P : Program) (F : Nat) (T : Tab) (N : Nat) (all : List Oper) (k : K) : K := fun sl obs =>
  fL (takeN (cut2 all) all) fun hd => fL (dropN (cut2 all) all) fun tl =>
  vcFreeze (hdOps sl obs hd) (fun sl obs => fL (tgOps sl hd) fun tg => fL (killAll tg obs) fun obsD => vcHead P F T N all obs obsD tg (fun sl cr ss => fL (applyS ss (obs ++ cr)) fun obs' => vcOps P F T N all tl k sl obs') hd [] [] sl) sl obs

/-! ### Loops -/

/-- What is left of the slots at a loop's head. -/
def clear (W : List Nat) : Slots → (Slots → Prop) → Prop
  | [], k => k []
  | (t, x) :: r, k => bif memN t W then clear W r k else clear W r fun r => k ((t, x) :: r)

/-- A row that a loop carries in a slot: the slot, the element's type, its cells, the number of elements, the cells. -/
abbrev RowSpec (X : Type) := Nat × TypeId × Nat × (X → Nat) × (X → List PV)

/-- A row that a loop carries in a variable's cell: the variable, the cell, and so on. -/
abbrev CellSpec (X : Type) := Nat × Nat × TypeId × Nat × (X → Nat) × (X → List PV)

/-- The same of rows of rows, in a slot. -/
abbrev NRowSpec (X : Type) := Nat × TypeId × Nat × (X → Nat) × (X → List NC)

/-- A loop's invariant: what it carries (slots, contents of variables, rows of the call's own) as functions of x. -/
structure LSpec (X : Type) where
  inv : X → Prop
  slots : List (Nat × (X → PV))
  boxes : List (Nat × (X → List PV)) := []
  rows : List (RowSpec X) := []
  cells : List (CellSpec X) := []
  mu : X → Nat
  frz : List Nat := []
  nboxes : List (Nat × (X → List NC)) := []
  nrows : List (NRowSpec X) := []
  inn : Bool := false

def putAll {X : Type} (N : Nat) (x : X) : List (Nat × (X → PV)) → Slots → (Slots → Prop) → Prop
  | [], sl, k => k sl
  | (t, y) :: r, sl, k => bif Nat.blt t N then putAll N x r ((t, .p (y x)) :: sl) k else False

/-- The slots hold these values. -/
def hasAll {X : Type} (sl : Slots) (x : X) : List (Nat × (X → PV)) → Prop
  | [] => True
  | (t, y) :: r => (match sl.get t with | .p z => z = y x | .kb b => .v (.bool b) = y x | .nil => .sl true 0 [] = y x | _ => False) ∧ hasAll sl x r

def overB {X : Type} (x : X) (bx : List (Nat × (X → List PV))) (i : Nat) (o : Ob) : Ob :=
  match bx with
  | [] => o
  | (j, l) :: r => bif Nat.beq j i then (match o with
    | .box t _ => .box t (mapP (l x))
    | .arr t _ => .arr t (l x)
    | .row e sz n ex _ => .row e sz n ex (l x)
    | .nest e sz n cs h => .nest e sz n cs h
    | .dead => .dead) else overB x r i o

/-- The variables' contents that a loop changes, put in place. -/
def setBoxes {X : Type} (x : X) (bx : List (Nat × (X → List PV))) : Nat → Obs → Obs
  | _, [] => []
  | i, o :: r => overB x bx i o :: setBoxes x bx (i + 1) r

def overN {X : Type} (x : X) (bx : List (Nat × (X → List NC))) (i : Nat) (o : Ob) : Ob :=
  match bx with
  | [] => o
  | (j, l) :: r => bif Nat.beq j i then (match o with
    | .nest e sz n _ h => .nest e sz n (l x) h
    | o => o) else overN x r i o

/-- The contents of rows of rows that a loop changes, put in place. -/
def setNs {X : Type} (x : X) (bx : List (Nat × (X → List NC))) : Nat → Obs → Obs
  | _, [] => []
  | i, o :: r => overN x bx i o :: setNs x bx (i + 1) r

/-- A variable with a cell changed. -/
def setCell (o : Nat) (y : SV) : Ob → Ob
  | .box t cs => .box t (cs.set o y)
  | x => x

def setAt (i o : Nat) (y : SV) : Obs → Obs
  | [] => []
  | x :: r => match i with
    | 0 => setCell o y x :: r
    | i + 1 => x :: setAt i o y r

/-- The cells that hold rows, without them. -/
def mask {X : Type} : List (CellSpec X) → Obs → Obs
  | [], obs => obs
  | (i, o, _) :: r, obs => mask r (setAt i o .any obs)

def cellAt (obs : Obs) (i o : Nat) : SV :=
  match obs[i]? with
  | some (.box _ cs) => cs.getD o .any
  | _ => .any

def killS (y : SV) (obs : Obs) : Obs :=
  match y with
  | .ob j => obs.set j .dead
  | _ => obs

/-- The rows that a loop carries have a new number at its head. -/
def killRows {X : Type} (sl : Slots) : List (RowSpec X) → Obs → Obs
  | [], obs => obs
  | (t, _) :: r, obs => killRows sl r (killS (sl.get t) obs)

def killNRows {X : Type} (sl : Slots) : List (NRowSpec X) → Obs → Obs
  | [], obs => obs
  | (t, _) :: r, obs => killNRows sl r (killS (sl.get t) obs)

def killCells {X : Type} (obs0 : Obs) : List (CellSpec X) → Obs → Obs
  | [], obs => obs
  | (i, o, _) :: r, obs => killCells obs0 r (killS (cellAt obs0 i o) obs)

def deadAt (obs : Obs) (j : Nat) : Bool :=
  match obs[j]? with
  | some o => !o.live
  | none => true

/-- A value that is a row of the call's own with these elements. -/
def hasRow (y : SV) (obs obsE : Obs) (e : TypeId) (sz n : Nat) (cs : List PV) (seen : List Nat) (k : List Nat → Prop) : Prop :=
  match y with
  | .nil => (n = 0 ∧ cs = []) ∧ k seen
  | .ob j => bif deadAt obsE j && !memN j seen then
      (obs.at j fun ob => match ob with
        | .row e' sz' n' _ cs' => bif Nat.beq sz' sz && Nat.beq e' e then n' = n ∧ cs' = cs else False
        | _ => False) ∧ k (j :: seen) else False
  | _ => False

def hasRows {X : Type} (sl : Slots) (obs obsE : Obs) (x : X) : List (RowSpec X) → List Nat → (List Nat → Prop) → Prop
  | [], seen, k => k seen
  | (t, e, sz, n, cs) :: r, seen, k => hasRow (sl.get t) obs obsE e sz (n x) (cs x) seen fun seen => hasRows sl obs obsE x r seen k

/-- A value that is a row of rows of the call's own with these elements. -/
def hasNRow (y : SV) (obs obsE : Obs) (e : TypeId) (sz n : Nat) (cs : List NC) (seen : List Nat) (k : List Nat → Prop) : Prop :=
  match y with
  | .nil => (n = 0 ∧ cs = []) ∧ k seen
  | .ob j => bif deadAt obsE j && !memN j seen then
      (obs.at j fun ob => match ob with
        | .nest e' sz' n' cs' none => bif Nat.beq sz' sz && Nat.beq e' e then n' = n ∧ cs' = cs else False
        | .row e' sz' n' _ cs' => bif Nat.beq sz' sz && Nat.beq e' e then n' = n ∧ cs'.map NC.pu = cs else False
        | _ => False) ∧ k (j :: seen) else False
  | _ => False

def hasNRows {X : Type} (sl : Slots) (obs obsE : Obs) (x : X) : List (NRowSpec X) → List Nat → (List Nat → Prop) → Prop
  | [], seen, k => k seen
  | (t, e, sz, n, cs) :: r, seen, k => hasNRow (sl.get t) obs obsE e sz (n x) (cs x) seen fun seen => hasNRows sl obs obsE x r seen k

def hasCells {X : Type} (obs obsE : Obs) (x : X) : List (CellSpec X) → List Nat → Prop
  | [], _ => True
  | (i, o, e, sz, n, cs) :: r, seen => hasRow (cellAt obs i o) obs obsE e sz (n x) (cs x) seen fun seen => hasCells obs obsE x r seen

def setRows {X : Type} (N : Nat) (x : X) : List (RowSpec X) → Slots → Obs → (Slots → Obs → Prop) → Prop
  | [], sl, obs, k => k sl obs
  | (t, e, sz, n, cs) :: r, sl, obs, k => bif Nat.blt t N then obs.snoc (.row e sz (n x) false (cs x)) fun obs' => fN (len obs) fun q => setRows N x r ((t, .ob q) :: sl) obs' k else False

def setNRows {X : Type} (N : Nat) (x : X) : List (NRowSpec X) → Slots → Obs → (Slots → Obs → Prop) → Prop
  | [], sl, obs, k => k sl obs
  | (t, e, sz, n, cs) :: r, sl, obs, k => bif Nat.blt t N then obs.snoc (.nest e sz (n x) (cs x) none) fun obs' => fN (len obs) fun q => setNRows N x r ((t, .ob q) :: sl) obs' k else False

def setCells {X : Type} (x : X) : List (CellSpec X) → Obs → (Obs → Prop) → Prop
  | [], obs, k => fL obs k
  | (i, o, e, sz, n, cs) :: r, obs, k => obs.snoc (.row e sz (n x) false (cs x)) fun obs' => fN (len obs) fun q => setCells x r (setAt i o (.ob q) obs') k

/-- An object is as the other one says. -/
def sameOb (o c : Ob) : Prop :=
  match o with
  | .dead => True
  | .box t cs => match c with
    | .box t' cs' => bif Nat.beq t' t then cs' = cs else False
    | _ => False
  | .arr t cs => match c with
    | .arr t' cs' => bif Nat.beq t' t then cs' = cs else False
    | _ => False
  | .row e sz n ex cs => match c with
    | .row e' sz' n' ex' cs' => bif Nat.beq e' e && Nat.beq sz' sz && (ex' == ex) then n' = n ∧ cs' = cs else False
    | _ => False
  | .nest e sz n cs h => match c with
    | .nest e' sz' n' cs' h' => bif Nat.beq e' e && Nat.beq sz' sz then n' = n ∧ cs' = cs ∧ h' = h else False
    | _ => False

def sameObs : Obs → Obs → Prop
  | [], _ => True
  | o :: r, c :: s => sameOb o c ∧ sameObs r s
  | _ :: _, [] => False

def allIn (W : List Nat) : Slots → Bool
  | [] => true
  | (t, _) :: r => memN t W && allIn W r

def headObs {X : Type} (L : LSpec X) (x : X) (obsE : Obs) : Obs := mask L.cells (setNs x L.nboxes 0 (setBoxes x L.boxes 0 obsE))

/-- The state is that of the invariant at x. -/
def isAt {X : Type} (L : LSpec X) (obsE : Obs) (x : X) (sl : Slots) (obs : Obs) : Prop :=
  hasAll sl x L.slots ∧ hasRows sl obs obsE x L.rows [] (fun seen => hasNRows sl obs obsE x L.nrows seen fun seen => hasCells obs obsE x L.cells seen) ∧ sameObs (headObs L x obsE) (mask L.cells obs) ∧ L.inv x

def inIf (b : Bool) (k : K) : K := match b with
  | true => vcIn k
  | false => k

def noHole (obs : Obs) : Bool := match holeIx 0 obs with
  | none => true
  | some _ => false

def vcLoop (N : Nat) (W : List Nat) (body : K → K) (sl : Slots) (obs : Obs) : Prop :=
  ∃ (X : Type) (L : LSpec X) (x0 : X), frzL L.frz (inIf L.inn fun sl obs =>
    fL (killCells obs L.cells (killNRows sl L.nrows (killRows sl L.rows obs))) fun obsE => fL (W ++ (keysOf L.slots ++ (keysOf L.rows ++ keysOf L.nrows))) fun W => clear W sl fun sl1 =>
    isAt L obsE x0 sl obs ∧
    ∀ x, L.inv x → fL (headObs L x obsE) fun obs1 => putAll N x L.slots sl1 fun sl2 => setRows N x L.rows sl2 obs1 fun sl3 obs2 => setNRows N x L.nrows sl3 obs2 fun sl4 obs3 => setCells x L.cells obs3 fun obs4 =>
        body (inIf (noHole obsE) fun sl' obs' => ∃ x', L.mu x' < L.mu x ∧ (sl'.drop (len sl' - len sl1) = sl1 ∧ allIn W (takeN (len sl' - len sl1) sl') = true) ∧ isAt L obsE x' sl' obs') sl4 obs4) sl obs

/-! ### Code and functions -/

def cRegion (P : Program) (F : Nat) (T : Tab) (N : Nat) (ops : Array Oper) (d : Bool) (kn : K) : K :=
  match d with
  | false => vcOps P F T N ops.toList ops.toList kn
  | true => vcDraw P F T N ops.toList kn

def cCond (c : Operand) (va vb : K → K → (Nat → K) → K) (kn kr : K) (kx : Nat → K) : K := fun sl obs => ev sl c fun c => match c with
    | .kb true => va kn kr kx sl obs
    | .kb false => vb kn kr kx sl obs
    | .p (.v (.bool q)) => (q = true → va kn kr kx sl obs) ∧ (q = false → vb kn kr kx sl obs)
    | _ => False

def cNo : K := fun _ _ => False

/-- The recursor stands here itself: the kernel and the elaborator then have the same terms. -/
def vcCode (P : Program) (F : Nat) (T : Tab) (N : Nat) (c : Code) : K → K → (Nat → K) → K :=
  Code.rec (motive := fun _ => K → K → (Nat → K) → K)
    (fun kn _ _ => kn)
    (fun _ ops d kn _ _ => cRegion P F T N ops d kn)
    (fun _ _ va vb kn kr kx => va (vb kn kr kx) kr kx)
    (fun c _ _ va vb kn kr kx => cCond c va vb kn kr kx)
    (fun id _ vb kn kr kx => vb kn kr fun i => bif Nat.beq i id then kn else kx i)
    (fun body vb _ kr kx => vcLoop N (wr body) fun kn => vb kn kr kx)
    (fun _ _ _ _ _ _ _ _ _ => cNo)
    (fun id _ _ kx => kx id)
    (fun _ _ _ _ _ => cNo)
    (fun _ _ _ _ => cNo)
    (fun _ _ _ _ => cNo)
    (fun _ kr _ => kr)
    (fun _ _ _ _ => cNo)
    c

def vcRets (T : Tab) (sl : Slots) (obs : Obs) : List ResultVar → (List SV → Prop) → Prop
  | [], k => k []
  | .tmp t :: r, k => fSV (sl.get t) fun x => vcRets T sl obs r fun ys => k (x :: ys)
  | .cell t ty :: r, k => fSV (sl.get t) fun x => vcLoad T ty x obs fun y => vcRets T sl obs r fun ys => k (y :: ys)

def retOps : List ResultVar → List Operand
  | [] => []
  | .tmp t :: r => .tmp t :: retOps r
  | .cell t _ :: r => .tmp t :: retOps r

def retS : List SV → SV
  | [x] => x
  | l => .tup l

/-- Results in rows of the call's own. -/
def isOwn (obs obsR : Obs) : List SV → List SV → Nat → List Nat → Prop
  | [], [], c, _ => c = obsR.length
  | r :: rs, y :: ys, c, seen => match r with
    | .ob i => bif Nat.beq i c then (obsR.at c fun ob => match ob with
        | .row e sz n false cs => match y with
          | .nil => (n = 0 ∧ cs = []) ∧ isOwn obs obsR rs ys (c + 1) seen
          | .ob j => bif !memN j seen then (obs.at j fun o => match o with
            | .row e' sz' n' _ cs' => bif Nat.beq sz' sz && Nat.beq e' e then n' = n ∧ cs' = cs else False
            | _ => False) ∧ isOwn obs obsR rs ys (c + 1) (j :: seen) else False
          | _ => False
        | .nest e sz n cs none => match y with
          | .nil => (n = 0 ∧ cs = []) ∧ isOwn obs obsR rs ys (c + 1) seen
          | .ob j => bif !memN j seen then (obs.at j fun o => match o with
            | .nest e' sz' n' cs' none => bif Nat.beq sz' sz && Nat.beq e' e then n' = n ∧ cs' = cs else False
            | .row e' sz' n' _ cs' => bif Nat.beq sz' sz && Nat.beq e' e then n' = n ∧ cs'.map NC.pu = cs else False
            | _ => False) ∧ isOwn obs obsR rs ys (c + 1) (j :: seen) else False
          | _ => False
        | _ => False) else False
    | .p x => (toP y fun y => weakA y = x) ∧ isOwn obs obsR rs ys c seen
    | _ => False
  | _, _, _, _ => False

def notOne : SV → Bool
  | .tup [_] => false
  | _ => true

def ofS : SV → List SV
  | .tup l => l
  | x => [x]

def retK0 (T : Tab) (rs : List ResultVar) (obsR : Obs) (r : SV) : K :=
  match obsR with
  | [] => vcFreeze (retOps rs) fun sl obs => vcRets T sl obs rs fun vs => (match pures vs with
    | some l => fun k : List PV → Prop => fWs l k
    | none => fun _ => False) fun l => retS (mapP l) = r
  | obsR => fun sl obs => vcRets T sl obs rs fun vs => bif notOne r then isOwn obs obsR (ofS r) vs 0 [] else False

def retK (T : Tab) (rs : List ResultVar) (obsR : Obs) (r : SV) : K := vcIn (retK0 T rs obsR r)

def initS (i : Nat) : List PV → Slots
  | [] => []
  | x :: r => (i, .p x) :: initS (i + 1) r

def vcFun (P : Program) (F : Nat) (T : Tab) (fn : Func) (args : List PV) (obsR : Obs) (r : SV) : Prop :=
  match fn.body with
  | some c => vcCode P F T fn.ntmps c (retK T fn.results.toList obsR r) (retK T fn.results.toList obsR r) (fun _ _ _ => False) (initS 0 args) []
  | none => False

end Go.Pv
