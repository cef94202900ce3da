/- Operations that write or make memory; frames; the run. -/
import Derived.Test.YtgcdilelbeobmaaGreatDoorTwinDefs
namespace Go.Twin
open Go

noncomputable def newA (H : AH) (B : Blk) (mk : Nat → AV) : Option (AV × AH) :=
  sN H.next fun k => some (mk k, ⟨H.t.put k (some B), Nat.succ k⟩)

/-! ## What writes or makes memory -/
noncomputable def allocA (P : Program) (H : AH) (t : TypeId) : Option (AV × AH) :=
  ob (zeroB P t) fun v => newA H (newCells (cellsOf v)) fun k => .p k 0
noncomputable def listTr (l : List AV) : Tr AV → Nat → Tr AV :=
  List.rec (motive := fun _ => Tr AV → Nat → Tr AV) (fun t _ => t) (fun v _ ih t off => (t.put off (some v)).sk fun t => ih t (Nat.succ off)) l
theorem listTr_cons (a : AV) (l : List AV) (t : Tr AV) (off : Nat) : listTr (a :: l) t off = listTr l (t.put off (some a)) (off + 1) := by
  show (t.put off (some a)).sk (fun t => listTr l t (off + 1)) = _
  rw [Tr.sk_eq]
/-- cells out of a list: few by the list itself, many by a tree -/
noncomputable def boxCells (l : List AV) : Blk :=
  bc (Nat.blt (lenL l) 17) (newCells l) (.cells (listTr l .leaf 0) [] 0 (lenL l))
noncomputable def boxA (H : AH) (v : AV) : Option (AV × AH) := newA H (boxCells (cellsOf v)) fun k => .p k 0
noncomputable def storeA (P : Program) (H : AH) (t : TypeId) (a v : AV) : Option AH :=
  match a with
  | .p id off => ob (sizeB P t) fun n => bc (Nat.beq (cellsOf v).length n) (H.wrAt id off (cellsOf v)) none
  | _ => none
/-- parts laid over cells -/
noncomputable def fillA (place : Nat → Option (Nat × Nat)) (parts : List (Nat × AV)) : List AV → Option (List AV) :=
  List.rec (motive := fun _ => List AV → Option (List AV)) (fun l => some l)
    (fun p _ ih l => ob (place p.1) fun os => bc (Nat.beq (cellsOf p.2).length os.2) (bc (Nat.ble (Nat.add os.1 os.2) l.length)
      (ih (l.take os.1 ++ (cellsOf p.2 ++ l.drop (Nat.add os.1 os.2)))) none) none) parts
noncomputable def obs {α β : Type} (f : α → Option β) (l : List α) : Option (List β) :=
  List.rec (motive := fun _ => Option (List β)) (some []) (fun a _ ih => ob (f a) fun b => ob ih fun r => some (b :: r)) l
noncomputable def fieldPlaces (P : Program) (fs : List Field) : Option (List (Nat × Nat)) :=
  obs (fun f => ob (sizeB P f.type) fun n => some (f.offset, n)) fs
noncomputable def buildA (P : Program) (t : TypeId) (parts : List (Nat × AV)) : Option AV :=
  ob (zeroB P t) fun z => match P.underlying t with
    | some (.struct fs) => ob (fieldPlaces P fs.toList) fun ps => ob (fillA (fun i => lget ps i) parts (cellsOf z)) fun l => some (.ag l)
    | some (.array _ e) => ob (sizeB P e) fun s => ob (fillA (fun i => some (Nat.mul i s, s)) parts (cellsOf z)) fun l => some (.ag l)
    | _ => none
noncomputable def rep (l : List AV) (n : Nat) : List AV := Nat.rec (motive := fun _ => List AV) [] (fun _ ih => l ++ ih) n
noncomputable def buildSliceA (P : Program) (H : AH) (t : TypeId) (len : Nat) (parts : List (Nat × AV)) : Option (AV × AH) :=
  match P.underlying t with
  | some (.slice e) => ob (sizeB P e) fun s => ob (zeroB P e) fun z => bc (Nat.beq (cellsOf z).length s) (bc (Nat.ble (Nat.mul len s) 16777216)
      (ob (fillA (fun i => some (Nat.mul i s, s)) parts (rep (cellsOf z) len)) fun l => newA H (boxCells l) fun k => .sl k 0 len len 0) none) none
  | _ => none
noncomputable def makeSliceA (P : Program) (H : AH) (t : TypeId) (len cap : AV) : Option (AV × AH) :=
  match P.underlying t, len, cap with
  | some (.slice e), .i _ (.ofNat l), .i _ (.ofNat c) => ob (P.info? e) fun i => ob (zeroB P e) fun z =>
      bc (Nat.blt c 140737488355328) (bc (Nat.ble (Nat.mul i.bytes c) 140737488355328) (bc (Nat.ble l c) (bc (Nat.beq (cellsOf z).length i.size)
        (newA H (.cells .leaf (pat (cellsOf z)) (pat (cellsOf z)).length (Nat.mul c i.size)) fun k => .sl k 0 l c 0) none) none) none) none
  | _, _, _ => none

/-! maps -/
def keq (d : Option TypeDesc) (x y : AV) : Option Bool :=
  match d, x, y with
  | some (.int _), .i k a, .i k' b => bif decide (k = k') then some (ibeq a b) else none
  | some .string, .s a, .s b => some (neq a b)
  | _, _, _ => none
def keyKind (d : Option TypeDesc) : Bool :=
  match d with
  | some (.int _) => true
  | some .string => true
  | _ => false
noncomputable def findA (d : Option TypeDesc) (k : AV) (es : List (AV × AV × Nat)) : Nat → Option (Option (Nat × AV)) :=
  List.rec (motive := fun _ => Nat → Option (Option (Nat × AV))) (fun _ => some none)
    (fun e _ ih i => ob (keq d k e.1) fun b => bc b (some (some (i, e.2.1))) (ih (Nat.succ i))) es
noncomputable def lookupA (P : Program) (H : AH) (t : TypeId) (m k : AV) (ok : Bool) : Option AV :=
  match P.underlying t with
  | some (.map kt e) => bc (keyKind (P.underlying kt)) (
      ob (match m with
          | .nilm => some none
          | .m id => ob (H.t.get id) fun B => match B with
            | .map es _ => findA (P.underlying kt) k es 0
            | _ => none
          | _ => none) fun r => match r with
        | some (_, v) => some (bc ok (.tu [v, .b true]) v)
        | none => ob (zeroB P e) fun z => some (bc ok (.tu [z, .b false]) z)) none
  | _ => none
noncomputable def modAt {α : Type} (f : α → α) (l : List α) : Nat → List α :=
  List.rec (motive := fun _ => Nat → List α) (fun _ => []) (fun a l ih n => Nat.rec (motive := fun _ => List α) (f a :: l) (fun m _ => a :: ih m) n) l
noncomputable def mapUpdateA (P : Program) (H : AH) (t : TypeId) (m k v : AV) : Option AH :=
  match P.underlying t, m with
  | some (.map kt _), .m id => bc (keyKind (P.underlying kt)) (ob (H.t.get id) fun B => match B with
      | .map es clock => ob (findA (P.underlying kt) k es 0) fun r => match r with
        | some (i, _) => some (H.set id (.map (modAt (fun e => (k, v, e.2.2)) es i) clock))
        | none => some (H.set id (.map (es ++ [(k, v, clock)]) (Nat.succ clock)))
      | _ => none) none
  | _, _ => none
noncomputable def deleteA (P : Program) (H : AH) (t : TypeId) (m k : AV) : Option AH :=
  match P.underlying t, m with
  | some (.map kt _), .m id => bc (keyKind (P.underlying kt)) (ob (H.t.get id) fun B => match B with
      | .map es clock => ob (findA (P.underlying kt) k es 0) fun r => match r with
        | some (i, _) => some (H.set id (.map (es.eraseIdx i) clock))
        | none => some H
      | _ => none) none
  | _, _ => none
noncomputable def rangeA (P : Program) (H : AH) (t : TypeId) (x : AV) : Option (AV × AH) :=
  match P.underlying t, x with
  | some (.map _ _), .nilm => newA H (.mapIter none 0 [] 0) fun k => .p k 0
  | some (.map _ _), .m id => ob (H.t.get id) fun B => match B with
    | .map _ clock => newA H (.mapIter (some id) clock [] clock) fun k => .p k 0
    | _ => none
  | _, _ => none
def memN (n : Nat) : List Nat → Bool
  | [] => false
  | a :: l => bif Nat.beq n a then true else memN n l
noncomputable def nextA (H : AH) (x : AV) (isString : Bool) : Option (AV × AH) :=
  match x, isString with
  | .p r 0, false => ob (H.t.get r) fun B => match B with
    | .mapIter none _ _ _ => some (.tu [.b false], H)
    | .mapIter (some id) since seen last => ob (H.t.get id) fun M => match M with
      | .map es clock =>
        bif !seen.isEmpty && !es.isEmpty && es.all (fun e => Nat.ble last e.2.2) then none else
        let left := es.filter fun e => !memN e.2.2 seen
        let old := left.filter fun e => Nat.blt e.2.2 since
        let new := left.filter fun e => Nat.ble since e.2.2
        match old, new with
        | [], [] => some (.tu [.b false], H)
        | [e], [] => some (.tu [.b true, e.1, e.2.1], H.set r (.mapIter (some id) since (seen ++ [e.2.2]) clock))
        | _, _ => none
      | _ => none
    | _ => none
  | _, _ => none

/-- what the last step of an iterator found -/
noncomputable def entryA (H : AH) (x : AV) : Option AV :=
  match x with
  | .p r 0 => ob (H.t.get r) fun B => match B with
    | .mapIter (some id) _ seen st => ob seen.getLast? fun stamp => ob (H.t.get id) fun M => match M with
      | .map es clock => bc (Nat.beq clock st) (ob (es.find? fun e => Nat.beq e.2.2 stamp) fun e => some (.tu [e.1, e.2.1])) none
      | _ => none
    | _ => none
  | _ => none

/-! slices -/
noncomputable def lenA (P : Program) (H : AH) (t : TypeId) (x : AV) : Option AV :=
  match P.underlying t, x with
  | some .string, .s l => some (.i .i64 (.ofNat l.length))
  | some (.array n _), _ => some (.i .i64 (.ofNat n))
  | some (.slice _), .nils => some (.i .i64 (.ofNat 0))
  | some (.slice _), .sl _ _ n _ _ => some (.i .i64 (.ofNat n))
  | some (.map _ _), .nilm => some (.i .i64 (.ofNat 0))
  | some (.map _ _), .m id => match H.t.get id with
    | some (.map es _) => some (.i .i64 (.ofNat es.length))
    | _ => none
  | _, _ => none
def capA (P : Program) (t : TypeId) (x : AV) : Option AV :=
  match P.underlying t, x with
  | some (.array n _), _ => some (.i .i64 (.ofNat n))
  | some (.slice _), .nils => some (.i .i64 (.ofNat 0))
  | some (.slice _), .sl _ _ _ c 0 => some (.i .i64 (.ofNat c))
  | _, _ => none
/-- how many elements a source has; its cells -/
def lenOfA (x : AV) : Option Nat :=
  match x with
  | .nils => some 0
  | .sl _ _ n _ _ => some n
  | .s l => some l.length
  | _ => none
noncomputable def firstA (H : AH) (size n : Nat) (x : AV) : Option (List AV) :=
  match x with
  | .nils => some []
  | .sl id off _ _ _ => bc (Nat.beq (Nat.mul n size) 0) (some []) (H.rdAt id off (Nat.mul n size))
  | .s l => some ((l.take n).map fun c => .i .u8 (.ofNat c))
  | _ => none
/-- may be a number's type (an append of so many noughts) -/
def isIntD (d : Option TypeDesc) : Bool :=
  match d with
  | some (.int _) => true
  | none => true
  | _ => false
noncomputable def appNew (H : AH) (s : AV) (size need : Nat) (old new : List AV) : Option (AV × AH) :=
  match s with
  | .sl id off len _ x =>
    ob (H.t.get id) fun B => match B with
      | .cells t z zl n =>
        bc (Nat.beq off 0) (bc (Nat.ble (Nat.mul len size) n)
          (let H1 : AH := bc (Nat.beq x 0) H (H.drop id)
           newA H1 (.cells (listTr new t (Nat.mul len size)) z zl (Nat.mul need size)) fun k => .sl k 0 need need size) none)
        (let H1 : AH := bc (Nat.beq x 0) H (H.drop id)
         newA H1 (.cells (listTr (old ++ new) .leaf 0) [] 0 (Nat.mul need size)) fun k => .sl k 0 need need size)
      | _ => none
  | .nils => newA H (.cells (listTr new .leaf 0) [] 0 (Nat.mul need size)) fun k => .sl k 0 need need size
  | _ => none
noncomputable def appGo (H : AH) (bytes size : Nat) (s : AV) (n : Nat) (new : List AV) : Option (AV × AH) :=
  match s with
  | .nils => bc (Nat.beq n 0) (some (.nils, H)) (bc (Nat.ble (Nat.mul (Nat.mul 2 n) bytes) 35184372088832) (bc (Nat.blt n 1000000000000) (appNew H s size n [] new) none) none)
  | .sl id off len cap w => sN (Nat.add len n) fun need =>
    bc (Nat.ble need cap) (
      bc (Nat.beq (Nat.mul n size) 0) (some (.sl id off need cap w, H))
        (ob (H.wrAt id (Nat.add off (Nat.mul len size)) new) fun H' => some (.sl id off need cap w, H')))
      (bc (Nat.ble (Nat.mul (Nat.mul 2 need) bytes) 35184372088832) (bc (Nat.blt need 1000000000000)
        (ob (firstA H size len s) fun old => bc (bc (Nat.beq w 0) true (Nat.beq w size && new.all one1)) (appNew H s size need old new) none) none) none)
  | _ => none
def restBad (P : Program) (rest : List TypeId) : Bool :=
  match rest with
  | xt :: _ => isIntD (P.underlying xt)
  | [] => false
/-- what is appended: how many elements, which cells -/
noncomputable def appSrc (P : Program) (H : AH) (rest : List TypeId) (size bytes : Nat) (z x : AV) : Option (Nat × List AV) :=
  bc (restBad P rest)
    (match rest with
      | xt :: _ => match P.underlying xt, x with
        | some (.int _), .i _ (.ofNat n) => bc (Nat.blt n 1000000000000) (bc (Nat.ble (Nat.mul n bytes) 281474976710656) (some (n, rep (cellsOf z) n)) none) none
        | _, _ => none
      | [] => none)
    (ob (lenOfA x) fun n => ob (firstA H size n x) fun new => some (n, new))
noncomputable def appendA (P : Program) (H : AH) (argTypes : List TypeId) (args : List AV) : Option (AV × AH) :=
  match argTypes, args with
  | st :: rest, [s, x] => match P.underlying st with
    | some (.slice e) => ob (P.info? e) fun i =>
        bc (Nat.beq i.size 0) none (bc (Nat.beq i.bytes 0) none (
        ob (zeroB P e) fun z => bc (Nat.beq (cellsOf z).length i.size) (ob (appSrc P H rest i.size i.bytes z x) fun r => bc (Nat.beq (lenL r.2) (Nat.mul r.1 i.size)) (appGo H i.bytes i.size s r.1 r.2) none) none))
    | _ => none
  | _, _ => none
noncomputable def copyGo (H : AH) (size : Nat) (d : AV) (n : Nat) (new : List AV) : Option (AV × AH) :=
  match d with
  | .nils => some (.i .i64 (.ofNat n), H)
  | .sl id off _ _ _ => bc (Nat.beq (Nat.mul n size) 0) (some (.i .i64 (.ofNat n), H)) (ob (H.wrAt id off new) fun H' => some (.i .i64 (.ofNat n), H'))
  | _ => none
noncomputable def copyA (P : Program) (H : AH) (argTypes : List TypeId) (args : List AV) : Option (AV × AH) :=
  match argTypes, args with
  | dt :: _, [d, x] => match P.underlying dt with
    | some (.slice e) => ob (sizeB P e) fun size => ob (lenOfA x) fun xl => ob (lenOfA d) fun dl =>
        sN (bc (Nat.ble xl dl) xl dl) fun n => ob (firstA H size n x) fun new => bc (Nat.beq (lenL new) (Nat.mul n size)) (copyGo H size d n new) none
    | _ => none
  | _, _ => none
noncomputable def clearA (P : Program) (H : AH) (argTypes : List TypeId) (args : List AV) : Option (AV × AH) :=
  match argTypes, args with
  | t :: _, [x] => match P.underlying t with
    | none => none
    | some d => match x with
      | .nilm => some (.tu [], H)
      | .nils => some (.tu [], H)
      | .sl _ _ 0 _ _ => some (.tu [], H)
      | .m id => ob (H.t.get id) fun B => match B with
        | .map _ clock => some (.tu [], H.set id (.map [] clock))
        | _ => none
      | .sl id off n _ _ => match d with
        | .slice e => ob (zeroB P e) fun z => ob (H.wrAt id off (rep (cellsOf z) n)) fun H' => some (.tu [], H')
        | _ => none
      | _ => none
  | _, _ => none
def bytesOfA : List AV → Option (List Nat)
  | [] => some []
  | .i .u8 (.ofNat n) :: l => bif Nat.blt n 256 then (match bytesOfA l with | none => none | some r => some (n :: r)) else none
  | _ :: _ => none
noncomputable def convA (P : Program) (H : AH) (src dst : TypeId) (x : AV) : Option (AV × AH) :=
  match P.underlying src with
  | none => none
  | some ds => match ds, P.underlying dst, x with
    | _, some (.int k), .i _ n => sI (wr k n) fun m => some (.i k m, H)
    | _, some .string, .s l => some (.s l, H)
    | .string, some (.slice e), .s l => match P.underlying e with
      | some (.int .u8) => newA H (.cells (listTr (l.map fun c => .i .u8 (.ofNat c)) .leaf 0) [] 0 l.length) fun k => .sl k 0 l.length l.length 1
      | _ => none
    | .slice e, some .string, .nils => match P.underlying e with
      | some (.int .u8) => some (.s [], H)
      | _ => none
    | .slice e, some .string, .sl id off len _ _ => match P.underlying e with
      | some (.int .u8) => bc (Nat.beq len 0) (some (.s [], H)) (ob (H.rdAt id off len) fun l => ob (bytesOfA l) fun r => some (.s r, H))
      | _ => none
    | _, _, _ => none
def minA (op : Bool) (args : List AV) : Option AV :=
  match args with
  | [.i k x, .i k' y] => bif decide (k = k') then some (.i k (bif op then (bif iblt y x then y else x) else (bif iblt x y then y else x))) else none
  | _ => none
def typeAssertA (P : Program) (x : AV) (asserted : TypeId) (ok : Bool) : Option AV :=
  match P.underlying asserted with
  | some (.interface _) => none
  | some _ => match x with
    | .ifc t v => bif Nat.beq t asserted then some (bif ok then .tu [v, .b true] else v) else none
    | _ => none
  | none => none

/-! ## Calls -/
inductive ADef where
  | call (f : FuncId) (args : List AV)
  | coll (b : Nat)
/-- what an operation comes to -/
inductive ER where
  | val (v : AV) (H : AH)
  | skip (H : AH)
  | enter (f : FuncId) (args : List AV)
  | yield (l : Nat) (args : List AV)
  | defer (f : FuncId) (args : List AV)
  | recov
  | pan (v : AV)

noncomputable def evs (T : Tr AV) (l : List Operand) : Option (List AV) := obs (ev T) l
/-- which function a value calls, with what -/
def hasBody (P : Program) (f : FuncId) : Bool :=
  match P.funcs[f]? with
  | some fn => fn.body.isSome && !(fn.name == "runtime.NumGoroutine")
  | none => false
noncomputable def calleeA (P : Program) (f : AV) (args : List AV) : Option (FuncId × List AV) :=
  match f with
  | .f (.func g) first cap => bc (hasBody P g) (some (g, first ++ (args ++ cap))) none
  | _ => none
noncomputable def methodA (P : Program) (t : TypeId) (v : AV) (name : String) : Option (FuncId × AV) :=
  ob (P.info? t) fun i => match i.methods.find? (·.name == name) with
    | some m => match m.path.toList, m.func with
      | [], some (f, pr) => match P.underlying t, pr with
        | some (.pointer _), true => bc (hasBody P f) (some (f, v)) none
        | some (.pointer _), false => none
        | some _, false => bc (hasBody P f) (some (f, v)) none
        | _, _ => none
      | _, _ => none
    | none => none
noncomputable def oq {α : Type} (o : Option AV) (H : AH) (f : AV → AH → α) (e : α) : α := Option.rec (motive := fun _ => α) e (fun v => f v H) o
noncomputable def vq (H : AH) (o : Option AV) : Option ER := ob o fun v => some (.val v H)
noncomputable def ve (o : Option (AV × AH)) : Option ER := ob o fun r => some (.val r.1 r.2)
noncomputable def vs (o : Option AH) : Option ER := ob o fun H => some (.skip H)
noncomputable def opt (T : Tr AV) (o : Option Operand) : Option (Option AV) :=
  Option.rec (motive := fun _ => Option (Option AV)) (some none) (fun x => ob (ev T x) fun v => some (some v)) o
noncomputable def builtinA (P : Program) (H : AH) (b : Builtin) (ts : List TypeId) (args : List AV) : Option ER :=
  match b with
  | .append => ve (appendA P H ts args)
  | .copy => ve (copyA P H ts args)
  | .len => match ts, args with
    | t :: _, [x] => vq H (lenA P H t x)
    | _, _ => none
  | .cap => match ts, args with
    | t :: _, [x] => vq H (capA P t x)
    | _, _ => none
  | .min => vq H (minA true args)
  | .max => vq H (minA false args)
  | .clear => ve (clearA P H ts args)
  | .delete => match ts, args with
    | t :: _, [m, k] => ob (deleteA P H t m k) fun H' => some (.val (.tu []) H')
    | _, _ => none
  | .recover => some .recov
  | _ => none
noncomputable def callA (P : Program) (T : Tr AV) (H : AH) (c : Call) : Option ER :=
  ob (evs T c.args.toList) fun args => match c.callee with
    | .builtin b => builtinA P H b c.argTypes.toList args
    | .value f => ob (ev T f) fun g => match g with
      | .fy l => some (.yield l args)
      | g => ob (calleeA P g args) fun r => some (.enter r.1 r.2)
    | .invoke x name => ob (ev T x) fun r => match r with
      | .ifc t v => ob (methodA P t v name) fun q => some (.enter q.1 (q.2 :: args))
      | _ => none
noncomputable def deferA (P : Program) (T : Tr AV) (c : Call) : Option ER :=
  ob (evs T c.args.toList) fun args => match c.callee with
    | .value f => ob (ev T f) fun g => ob (calleeA P g args) fun r => some (.defer r.1 r.2)
    | _ => none
noncomputable def nilCheckA (x : AV) : Option AV :=
  match x with
  | .p a b => some (.p a b)
  | .ifc t v => some (.ifc t v)
  | .f (.func g) a b => some (.f (.func g) a b)
  | .m a => some (.m a)
  | .sl a b c d e => some (.sl a b c d e)
  | .fy l => some (.fy l)
  | _ => none
noncomputable def pickA (c a b : Option AV) : Option AV := ob c fun v => match v with
  | .b true => a
  | .b false => b
  | _ => none
noncomputable def partsA (T : Tr AV) (l : List (Nat × Operand)) : Option (List (Nat × AV)) :=
  obs (fun p => ob (ev T p.2) fun v => some (p.1, v)) l
noncomputable def ifaceA (P : Program) (t : TypeId) (x : AV) : Option AV :=
  match P.underlying t with
  | some (.interface _) => none
  | some _ => some (.ifc t x)
  | none => none
noncomputable def evalOp (P : Program) (T : Tr AV) (H : AH) (o : Op) : Option ER :=
  match o with
  | .move x => vq H (ev T x)
  | .assign x => vq H (ev T x)
  | .pick c a b => vq H (pickA (ev T c) (ev T a) (ev T b))
  | .alloc t => ve (allocA P H t)
  | .box _ x => ob (ev T x) fun v => ve (boxA H v)
  | .build t ps => ob (partsA T ps.toList) fun l => vq H (buildA P t l)
  | .buildSlice t n ps => ob (partsA T ps.toList) fun l => ve (buildSliceA P H t n l)
  | .load t a => ob (ev T a) fun x => vq H (loadA P H t x)
  | .store t a v => ob (ev T a) fun x => ob (ev T v) fun y => vs (storeA P H t x y)
  | .nilCheck x => ob (ev T x) fun v => vq H (nilCheckA v)
  | .binOp op t x y _ => ob (ev T x) fun a => ob (ev T y) fun b => vq H (bop P op t x y a b)
  | .unOp op _ x => ob (ev T x) fun a => vq H (uop P op a)
  | .convert src dst x => ob (ev T x) fun a => ve (convA P H src dst a)
  | .makeInterface t x => ob (ev T x) fun a => vq H (ifaceA P t a)
  | .makeFunc fn first cap => ob (evs T first.toList) fun a => ob (evs T cap.toList) fun b => match fn with
    | .func g => some (.val (.f (.func g) a b) H)
    | _ => none
  | .makeMap _ none => ve (newA H (.map [] 0) fun k => .m k)
  | .makeSlice t l c => ob (ev T l) fun a => ob (ev T c) fun b => ve (makeSliceA P H t a b)
  | .slice t x lo hi mx => ob (ev T x) fun a => ob (opt T lo) fun l => ob (opt T hi) fun h => ob (opt T mx) fun m => vq H (sliceA P t a l h m)
  | .fieldAddr t x f => ob (ev T x) fun a => vq H (fieldAddrA P t a f)
  | .field t x f => ob (ev T x) fun a => vq H (fieldA P t a f)
  | .indexAddr t x i => ob (ev T x) fun a => ob (ev T i) fun b => vq H (indexAddrA P t a b)
  | .index t x i => ob (ev T x) fun a => ob (ev T i) fun b => vq H (indexA P t a b)
  | .lookup t x i ok => ob (ev T x) fun a => ob (ev T i) fun b => vq H (lookupA P H t a b ok)
  | .mapUpdate t m k v => ob (ev T m) fun a => ob (ev T k) fun b => ob (ev T v) fun c => vs (mapUpdateA P H t a b c)
  | .insert t m k v => ob (ev T m) fun a => ob (ev T k) fun b => ob (ev T v) fun c => vs (mapUpdateA P H t a b c)
  | .range t x => ob (ev T x) fun a => ve (rangeA P H t a)
  | .next x s => ob (ev T x) fun a => ve (nextA H a s)
  | .entry x => ob (ev T x) fun a => vq H (entryA H a)
  | .typeAssert x _ t ok => ob (ev T x) fun a => vq H (typeAssertA P a t ok)
  | .extract x k => ob (ev T x) fun a => vq H (extractA a k)
  | .call c => callA P T H c
  | .defer c => deferA P T c
  | .panic x => ob (ev T x) fun a => match a with
    | .ifc t v => some (.pan (.ifc t v))
    | _ => none
  | _ => none

/-! ## Frames -/
inductive AMode where
  | run
  | ret
  | pan (chain : List (AV × Bool))
inductive AItem where
  | code (c : Code)
  | inBlock (id : Nat)
  | inLoop (body : Code)
  | inScope (body : Code)
  | inRF (l : Nat)
  | endRF (l : Nat)
  | beginRound
structure AF where
  fn : FuncId
  n : Nat
  T : Tr AV
  todo : List AItem
  defers : List ADef
  mode : AMode
  deferred : Bool
  round : Option Nat
inductive RC where
  | no
  | can (v : AV)
  | done
inductive Out where
  | ret (v : AV) (rc : RC) (H : AH)
  | pan (chain : List (AV × Bool)) (rc : RC) (H : AH)
  | bad (why : List Nat)
inductive RO where
  | ok (T : Tr AV) (ds : List ADef) (rc : RC) (H : AH)
  | pan (chain : List (AV × Bool)) (T : Tr AV) (ds : List ADef) (rc : RC) (H : AH)
  | bad (why : List Nat)

noncomputable def argTr (l : List AV) : Tr AV := listTr l .leaf 0
noncomputable def enterA (P : Program) (f : FuncId) (args : List AV) (d : Bool) : Option AF :=
  ob (P.funcs[f]?) fun fn => match fn.body with
    | some c => bc (Nat.ble args.length fn.ntmps) (some ⟨f, fn.ntmps, argTr args, [.code c], [], .run, d, none⟩) none
    | none => none
noncomputable def putD (n : Nat) (T : Tr AV) (d : Option Nat) (v : AV) (k : Tr AV → RO) (e : RO) : RO :=
  Option.rec (motive := fun _ => RO) (k T) (fun t => bc (Nat.blt t n) (k (T.put t (some v))) e) d
noncomputable def wantedA (T : Tr AV) (ops : List Oper) (o : Oper) : Option Bool :=
  match o.guard with
  | none => some true
  | some (j, want) => match lget ops j with
    | some oj => match oj.dst with
      | some d => match T.get d with
        | some (.b b) => some (b == want)
        | some (.atm _) => none
        | none => none
        | _ => some false
      | none => some false
    | none => some false
noncomputable def setParams (n : Nat) (l : List (Nat × AV)) : Tr AV → Option (Tr AV) :=
  List.rec (motive := fun _ => Tr AV → Option (Tr AV)) (fun T => some T) (fun p _ ih T => bc (Nat.blt p.1 n) (ih (T.put p.1 (some p.2))) none) l

section
variable (P : Program) (self : AF → RC → AH → Out)

/-- the operations of a region, in the order of the text -/
noncomputable def runOps (fn n : Nat) (round : Option Nat) (ops : List Oper) (rest : List Oper) : Tr AV → List ADef → RC → AH → RO :=
  List.rec (motive := fun _ => Tr AV → List ADef → RC → AH → RO) (fun T ds rc H => .ok T ds rc H)
    (fun o rest ih T ds rc H =>
      Option.rec (motive := fun _ => RO) (.bad [fn, 1, rest.length]) (fun w => bc w
        (Option.rec (motive := fun _ => RO) (.bad [fn, 2, rest.length]) (fun r => match r with
          | .val v H' => putD n T o.dst v (fun T' => ih T' ds rc H') (.bad [fn, 3])
          | .skip H' => putD n T o.dst (.tu []) (fun T' => ih T' ds rc H') (.bad [fn, 3])
          | .enter f args => Option.rec (motive := fun _ => RO) (.bad [fn, 4, f, rest.length]) (fun fr => match self fr .no H with
            | .ret v _ H' => putD n T o.dst v (fun T' => ih T' ds rc H') (.bad [fn, 3])
            | .pan c _ H' => .pan c T ds rc H'
            | .bad why => .bad (fn :: why)) (enterA P f args false)
          | .yield l args => match H.t.get l with
            | some (.loop _ _ f0 T0 n0 ps assign body _) => bc (Nat.beq args.length ps.size)
                (Option.rec (motive := fun _ => RO) (.bad [fn, 8]) (fun T1 => match self ⟨f0, n0, T1, [.code assign, .beginRound, .code body], [], .run, false, some l⟩ .no H with
                  | .ret v _ H' => putD n T o.dst v (fun T' => ih T' ds rc H') (.bad [fn, 3])
                  | .pan c _ H' => .pan c T ds rc H'
                  | .bad why => .bad (fn :: why)) (setParams n0 (ps.toList.zip args) T0)) (.bad [fn, 9])
            | _ => .bad [fn, 5]
          | .defer f args => match round with
            | none => putD n T o.dst (.tu []) (fun T' => ih T' (.call f args :: ds) rc H) (.bad [fn, 3])
            | some _ => .bad [fn, 6]
          | .recov => match round, rc with
            | none, .can v => putD n T o.dst v (fun T' => ih T' ds .done H) (.bad [fn, 3])
            | none, .no => putD n T o.dst .nili (fun T' => ih T' ds rc H) (.bad [fn, 3])
            | none, .done => putD n T o.dst .nili (fun T' => ih T' ds rc H) (.bad [fn, 3])
            | some _, _ => .bad [fn, 7]
          | .pan v => .pan [(v, false)] T ds rc H) (evalOp P T H o.op))
        (putD n T o.dst (.tu []) (fun T' => ih T' ds rc H) (.bad [fn, 3]))) (wantedA T ops o)) rest

/-! the end of a function, its deferred calls -/
noncomputable def resA (T : Tr AV) (H : AH) (r : ResultVar) : Option AV :=
  match r with
  | .tmp t => ev T (.tmp t)
  | .cell a t => ob (ev T (.tmp a)) fun x => loadA P H t x
noncomputable def resultsA (fn : FuncId) (T : Tr AV) (H : AH) : Option AV :=
  ob (P.funcs[fn]?) fun g => ob (obs (resA P T H) g.results.toList) fun l => match l with
    | [v] => some v
    | l => some (.tu l)
def exitToA (id : Nat) : List AItem → Option (List AItem)
  | .inBlock id' :: k => bif Nat.beq id' id then some k else exitToA id k
  | _ :: k => exitToA id k
  | [] => none
def gotoInA (l : Nat) : List AItem → Option (List AItem)
  | .inScope body :: k =>
    match findLabel body l with
    | some rest => some (.code rest :: .inScope body :: k)
    | none => gotoInA l k
  | _ :: k => gotoInA l k
  | [] => none

noncomputable def leaveA (fr : AF) (rc : RC) (H : AH) (jump : Option Code) : Out :=
  match fr.round with
  | none => match jump with
    | none => self { fr with mode := .ret } rc H
    | some .ret => self { fr with mode := .ret } rc H
    | some _ => .bad [fr.fn, 20]
  | some l => match H.t.get l with
    | some (.loop _ _ f0 T0 n0 ps a b d) =>
      .ret (.b jump.isNone) rc (H.set l (.loop (match jump with | none => .ready | some _ => .done) jump f0 T0 n0 ps a b d))
    | _ => .bad [fr.fn, 21]

noncomputable def unwindA (fr : AF) (rc : RC) (H : AH) : Out :=
  match fr.defers with
  | .coll b :: ds => match H.t.get b with
    | some (.deferred (some calls)) => self { fr with defers := calls.map (fun c => .call c.1 c.2) ++ ds } rc (H.set b (.deferred none))
    | _ => .bad [fr.fn, 30]
  | .call f args :: ds =>
    match bc (hasBody P f) (enterA P f args true) none with
    | none => .bad [fr.fn, 31]
    | some g => match fr.mode with
      | .run => .bad [fr.fn, 32]
      | .ret => match self g .no H with
        | .ret _ .no H' => self { fr with defers := ds } rc H'
        | .pan c .no H' => self { fr with defers := ds, mode := .pan c } rc H'
        | .bad why => .bad (fr.fn :: why)
        | _ => .bad [fr.fn, 33]
      | .pan ((v, false) :: older) => match self g (.can v) H with
        | .ret _ .done H' => self { fr with defers := ds, mode := .ret } rc H'
        | .ret _ (.can _) H' => self { fr with defers := ds } rc H'
        | .pan c .done H' => self { fr with defers := ds, mode := .pan (c ++ (v, true) :: older) } rc H'
        | .pan c (.can _) H' => self { fr with defers := ds, mode := .pan (c ++ (v, false) :: older) } rc H'
        | .bad why => .bad (fr.fn :: why)
        | _ => .bad [fr.fn, 34]
      | .pan _ => .bad [fr.fn, 35]
  | [] => match fr.mode with
    | .run => .bad [fr.fn, 36]
    | .pan c => .pan c rc H
    | .ret => match resultsA P fr.fn fr.T H with
      | some v => .ret v rc H
      | none => .bad [fr.fn, 37]

noncomputable def rangeA' (fr : AF) (rc : RC) (H : AH) (f : Operand) (params : Array Tmp) (assign body : Code) (k : List AItem) : Out :=
  let go (H1 : AH) (d : Nat) (ds : List ADef) : Out :=
    sN H1.next fun l =>
      let H2 : AH := ⟨H1.t.put l (some (.loop .ready none fr.fn fr.T fr.n params assign body d)), Nat.succ l⟩
      match ev fr.T f with
      | none => .bad [fr.fn, 40]
      | some g => match calleeA P g [.fy l] with
        | none => .bad [fr.fn, 41]
        | some (h, args) => match enterA P h args false with
          | none => .bad [fr.fn, 42]
          | some g' => match self g' .no H2 with
            | .ret _ _ H' => self { fr with todo := .endRF l :: k, defers := ds } rc H'
            | .pan c _ H' => self { fr with todo := k, defers := ds, mode := .pan c } rc H'
            | .bad why => .bad (fr.fn :: why)
  match fr.round with
  | none => sN H.next fun r => go ⟨H.t.put r (some (.deferred (some []))), Nat.succ r⟩ r (.coll r :: fr.defers)
  | some l0 => match H.t.get l0 with
    | some (.loop _ _ _ _ _ _ _ _ d) => go H d fr.defers
    | _ => .bad [fr.fn, 43]

noncomputable def codeA (drawOK : AF → RC → AH → Array Oper → Bool) (fr : AF) (rc : RC) (H : AH) (c : Code) (k : List AItem) : Out :=
  match c with
  | .skip => self { fr with todo := k } rc H
  | .label _ => self { fr with todo := k } rc H
  | .seq a b => self { fr with todo := .code a :: .code b :: k } rc H
  | .cond c a b => match ev fr.T c with
    | some (.b true) => self { fr with todo := .code a :: k } rc H
    | some (.b false) => self { fr with todo := .code b :: k } rc H
    | _ => .bad [fr.fn, 50]
  | .block id c => self { fr with todo := .code c :: .inBlock id :: k } rc H
  | .loop c => self { fr with todo := .code c :: .inLoop c :: k } rc H
  | .scope c => self { fr with todo := .code c :: .inScope c :: k } rc H
  | .exit id => match exitToA id k with
    | some k' => self { fr with todo := k' } rc H
    | none => leaveA self fr rc H (some (.exit id))
  | .goto l => match gotoInA l k with
    | some k' => self { fr with todo := k' } rc H
    | none => leaveA self fr rc H (some (.goto l))
  | .ret => leaveA self fr rc H (some .ret)
  | .region _ ops draw => bc (bc draw (drawOK fr rc H ops) true)
      (match runOps P self fr.fn fr.n fr.round ops.toList ops.toList fr.T fr.defers rc H with
      | .ok T ds rc' H' => self { fr with T := T, defers := ds, todo := k } rc' H'
      | .pan c T ds rc' H' => self { fr with T := T, defers := ds, mode := .pan c, todo := k } rc' H'
      | .bad why => .bad why) (.bad [fr.fn, 51])
  | .rangeFunc f ps a b => rangeA' P self fr rc H f ps a b k
  | .refuse _ => .bad [fr.fn, 52]

noncomputable def stepF (drawOK : AF → RC → AH → Array Oper → Bool) (fr : AF) (rc : RC) (H : AH) : Out :=
  match fr.mode with
  | .run => match fr.todo with
    | [] => leaveA self fr rc H none
    | .code c :: k => codeA P self drawOK fr rc H c k
    | .inBlock _ :: k => self { fr with todo := k } rc H
    | .inScope _ :: k => self { fr with todo := k } rc H
    | .inLoop c :: k => self { fr with todo := .code c :: .inLoop c :: k } rc H
    | .inRF _ :: _ => .bad [fr.fn, 60]
    | .endRF l :: k => match H.t.get l with
      | some (.loop st pe f0 T0 n0 ps a b d) => match st with
        | .busy => .bad [fr.fn, 61]
        | _ => self { fr with todo := (match pe with | some c => [.code c] | none => []) ++ k } rc (H.set l (.loop .exhausted pe f0 T0 n0 ps a b d))
      | _ => .bad [fr.fn, 62]
    | .beginRound :: k => match fr.round with
      | none => .bad [fr.fn, 63]
      | some l => match H.t.get l with
        | some (.loop .ready pe f0 T0 n0 ps a b d) => self { fr with todo := k } rc (H.set l (.loop .busy pe f0 T0 n0 ps a b d))
        | _ => .bad [fr.fn, 64]
  | _ => unwindA P self fr rc H
end

/-- the run of a frame to its end, in so many steps one within the other at most -/
noncomputable def runF (P : Program) (drawOK : AF → RC → AH → Array Oper → Bool) (n : Nat) : AF → RC → AH → Out :=
  Nat.rec (motive := fun _ => AF → RC → AH → Out) (fun fr _ _ => .bad [fr.fn, 0]) (fun _ ih => stepF P ih drawOK) n
noncomputable def callF (P : Program) (drawOK : AF → RC → AH → Array Oper → Bool) (n : Nat) (f : FuncId) (args : List AV) (H : AH) : Out :=
  match enterA P f args false with
  | some fr => runF P drawOK n fr .no H
  | none => .bad [f, 70]
end Go.Twin
