/- When a region that draws its order may be run in the order of the text: what is asked of its text. -/
import Derived.Test.YtgcdilelbeobmaaGreatDoorTwinDefs
namespace Go.Twin
open Go

def edgesOf (o : Oper) : List Nat := (o.after.toList.filter (Region.binds .any)).map (·.on)
def ancGo : List Oper → List Nat → List Nat
  | [], M => M
  | o :: r, M => ancGo r (M ++ [(edgesOf o).foldl (fun s e => s ||| (2 ^ e ||| M.getD e 0)) 0])
def ancs (ops : List Oper) : List Nat := ancGo ops []

/-- leaves the memory as it is -/
def quietOp (P : Program) (op : Op) : Bool :=
  match op with
  | .move _ => true
  | .assign _ => true
  | .pick .. => true
  | .build .. => true
  | .load .. => true
  | .nilCheck _ => true
  | .binOp .. => true
  | .unOp .. => true
  | .makeInterface .. => true
  | .makeFunc .. => true
  | .slice .. => true
  | .fieldAddr .. => true
  | .field .. => true
  | .indexAddr .. => true
  | .index .. => true
  | .lookup .. => true
  | .entry _ => true
  | .typeAssert .. => true
  | .extract .. => true
  | .convert _ dst _ => match P.underlying dst with
    | some (.int _) => true
    | some .string => true
    | _ => false
  | .call c => match c.callee with
    | .builtin .len => true
    | .builtin .cap => true
    | .builtin .min => true
    | .builtin .max => true
    | _ => false
  | _ => false
def notMap (d : Option TypeDesc) : Bool :=
  match d with
  | some (.map _ _) => false
  | _ => true
/-- and does not look at it either -/
def pureOp (P : Program) (op : Op) : Bool :=
  match op with
  | .move _ => true
  | .assign _ => true
  | .pick .. => true
  | .build .. => true
  | .nilCheck _ => true
  | .binOp .. => true
  | .unOp .. => true
  | .makeInterface .. => true
  | .makeFunc .. => true
  | .slice .. => true
  | .fieldAddr .. => true
  | .field .. => true
  | .indexAddr .. => true
  | .index .. => true
  | .typeAssert .. => true
  | .extract .. => true
  | .convert _ dst _ => match P.underlying dst with
    | some (.int _) => true
    | _ => false
  | .call c => match c.callee with
    | .builtin .len => match c.argTypes.toList with
      | [t] => notMap (P.underlying t)
      | _ => false
    | .builtin .cap => true
    | .builtin .min => true
    | .builtin .max => true
    | _ => false
  | _ => false
/-- neither defers nor recovers -/
def mildOp (op : Op) : Bool :=
  match op with
  | .defer _ => false
  | .call c => match c.callee with
    | .builtin .recover => false
    | _ => true
  | _ => true
def isAlloc (op : Op) : Bool :=
  match op with
  | .alloc _ => true
  | .buildSlice .. => true
  | _ => false

def opTmps (o : Oper) : List Nat := o.op.operands.toList.filterMap fun x => match x with
  | .tmp t => some t
  | _ => none
def guardTmps (ops : List Oper) (o : Oper) : List Nat :=
  match o.guard with
  | none => []
  | some (j, _) => match ops[j]? with
    | some oj => oj.dst.toList
    | none => []
def looks (ops : List Oper) (o : Oper) : List Nat := opTmps o ++ guardTmps ops o

def testB (m i : Nat) : Bool := Nat.beq (Nat.mod (Nat.div m (Nat.pow 2 i)) 2) 1

/-- an operation, its place, what is before it -/
abbrev Row := Oper × Nat × Nat
def rows (ops : List Oper) : List Row := (ops.zipIdx.zip (ancs ops)).map fun x => (x.1.1, x.1.2, x.2)

def rowOK (P : Program) (ops : List Oper) (n : Nat) (R : List Row) (x : Row) : Bool :=
  (edgesOf x.1).all (fun e => Nat.blt e x.2.1) &&
  (match x.1.dst with | none => true | some t => Nat.blt t n && R.all fun y => Nat.beq y.2.1 x.2.1 || (match y.1.dst with | none => true | some u => !Nat.beq u t)) &&
  mildOp x.1.op &&
  (looks ops x.1).all (fun t => R.all fun y => (match y.1.dst with | none => true | some u => !Nat.beq u t) || testB x.2.2 y.2.1 || testB y.2.2 x.2.1)

/-- effects stand in the order of the text, but for one allocation -/
def effOK (P : Program) (R : List Row) (fl : Nat) (x : Row) : Bool :=
  quietOp P x.1.op || (R.all fun y => quietOp P y.1.op || !Nat.blt y.2.1 x.2.1 || testB x.2.2 y.2.1 || Nat.beq fl x.2.1)
def floatOK (P : Program) (R : List Row) (fl : Nat) : Bool :=
  R.all fun x => !Nat.beq x.2.1 fl || (isAlloc x.1.op && x.1.guard.isNone && x.1.dst.isSome &&
    R.all fun y => !testB y.2.2 fl || R.all fun z => quietOp P z.1.op || !Nat.blt z.2.1 fl || testB y.2.2 z.2.1)
def findFloat (P : Program) (R : List Row) : Nat :=
  match R.find? fun x => !effOK P R 1000000 x with
  | some x => x.2.1
  | none => 1000000
def effs (P : Program) (R : List Row) : List Row := R.filter fun x => !quietOp P x.1.op
/-- how many effects are before it, at least; and at most -/
def loOf (P : Program) (R : List Row) (x : Row) : Nat := ((effs P R).filter fun y => testB x.2.2 y.2.1).length
def hiOf (P : Program) (R : List Row) (x : Row) : Nat := ((effs P R).filter fun y => !testB y.2.2 x.2.1).length
/-- what is to be asked again: the operation, how many heaps are passed over, how many are asked -/
def asks (P : Program) (R : List Row) : List (Oper × Nat × Nat) :=
  (R.filter fun x => quietOp P x.1.op && !pureOp P x.1.op && !Nat.beq (loOf P R x) (hiOf P R x)).map fun x =>
    (x.1, Nat.sub (effs P R).length (hiOf P R x), Nat.succ (Nat.sub (hiOf P R x) (loOf P R x)))
def planOK (P : Program) (n : Nat) (ops : List Oper) : Bool :=
  let R := rows ops
  R.all (rowOK P ops n R) && R.all (effOK P R (findFloat P R)) && floatOK P R (findFloat P R) &&
    R.all fun x => !(quietOp P x.1.op && !pureOp P x.1.op) || Nat.beq (loOf P R x) (hiOf P R x) || (x.1.dst.isSome &&
      (looks ops x.1).all fun t => R.all fun y => (match y.1.dst with | none => true | some u => !Nat.beq u t) || testB x.2.2 y.2.1)
end Go.Twin
