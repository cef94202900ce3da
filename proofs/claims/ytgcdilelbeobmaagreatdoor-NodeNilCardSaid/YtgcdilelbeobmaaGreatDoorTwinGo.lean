/- The run, made for the kernel: every text part is turned once into a closure that holds all that the text says. -/
import Derived.Test.YtgcdilelbeobmaaGreatDoorTwinRun
import Derived.Test.YtgcdilelbeobmaaGreatDoorTwinPlan
namespace Go.Twin
open Go

/-! ## Looking into values -/
noncomputable def AV.asI {R : Type} (x : AV) (f : IntKind → Int → R) (d : R) : R :=
  AV.rec (motive_1 := fun _ => R) (motive_2 := fun _ => PUnit) (fun _ => d) f (fun _ => d) d d d d d (fun _ _ => d) (fun _ _ _ _ _ => d) (fun _ => d)
    (fun _ _ _ _ _ => d) (fun _ => d) (fun _ _ _ => d) (fun _ _ => d) (fun _ _ => d) (fun _ => d) ⟨⟩ (fun _ _ _ _ => ⟨⟩) x
noncomputable def AV.asP {R : Type} (x : AV) (f : Nat → Nat → R) (d : R) : R :=
  AV.rec (motive_1 := fun _ => R) (motive_2 := fun _ => PUnit) (fun _ => d) (fun _ _ => d) (fun _ => d) d d d d d f (fun _ _ _ _ _ => d) (fun _ => d)
    (fun _ _ _ _ _ => d) (fun _ => d) (fun _ _ _ => d) (fun _ _ => d) (fun _ _ => d) (fun _ => d) ⟨⟩ (fun _ _ _ _ => ⟨⟩) x
noncomputable def AV.asSl {R : Type} (x : AV) (f : Nat → Nat → Nat → Nat → Nat → R) (d : R) : R :=
  AV.rec (motive_1 := fun _ => R) (motive_2 := fun _ => PUnit) (fun _ => d) (fun _ _ => d) (fun _ => d) d d d d d (fun _ _ => d) f (fun _ => d)
    (fun _ _ _ _ _ => d) (fun _ => d) (fun _ _ _ => d) (fun _ _ => d) (fun _ _ => d) (fun _ => d) ⟨⟩ (fun _ _ _ _ => ⟨⟩) x
noncomputable def AV.asB {R : Type} (x : AV) (f : Bool → R) (d : R) : R :=
  AV.rec (motive_1 := fun _ => R) (motive_2 := fun _ => PUnit) f (fun _ _ => d) (fun _ => d) d d d d d (fun _ _ => d) (fun _ _ _ _ _ => d) (fun _ => d)
    (fun _ _ _ _ _ => d) (fun _ => d) (fun _ _ _ => d) (fun _ _ => d) (fun _ _ => d) (fun _ => d) ⟨⟩ (fun _ _ _ _ => ⟨⟩) x
noncomputable def Blk.asC {R : Type} (x : Blk) (f : Tr AV → List AV → Nat → Nat → R) (d : R) : R :=
  Blk.rec (motive := fun _ => R) f (fun _ _ => d) (fun _ _ _ _ => d) (fun _ _ => d) (fun _ _ _ _ _ _ _ _ _ => d) (fun _ => d) x
noncomputable def IntKind.ix (k : IntKind) : Nat := IntKind.rec (motive := fun _ => Nat) 0 1 2 3 4 5 6 7 k


/-! ## Slots by their path -/
structure FP where run : Tr AV → Option AV
structure PP where run : Tr AV → Option AV → Tr AV
noncomputable def pathC (fuel : Nat) : Nat → FP :=
  Nat.rec (motive := fun _ => Nat → FP) (fun t => ⟨fun T => T.get t⟩)
    (fun _ ih t => Nat.rec (motive := fun _ => FP) ⟨fun T => Tr.rec (motive := fun _ => Option AV) none (fun _ v _ _ _ => v) T⟩
      (fun j _ => Bool.rec (motive := fun _ => FP) ⟨fun T => Tr.rec (motive := fun _ => Option AV) none (fun _ _ r _ _ => (ih (Nat.div j 2)).run r) T⟩
        ⟨fun T => Tr.rec (motive := fun _ => Option AV) none (fun l _ _ _ _ => (ih (Nat.div j 2)).run l) T⟩ (Nat.beq (Nat.mod j 2) 0)) t) fuel
noncomputable def putC (fuel : Nat) : Nat → PP :=
  Nat.rec (motive := fun _ => Nat → PP) (fun t => ⟨fun T v => T.put t v⟩)
    (fun _ ih t => Nat.rec (motive := fun _ => PP) ⟨fun T v => Tr.rec (motive := fun _ => Tr AV) (.node .leaf v .leaf) (fun l _ r _ _ => .node l v r) T⟩
      (fun j _ => Bool.rec (motive := fun _ => PP) ⟨fun T v => Tr.rec (motive := fun _ => Tr AV) (.node .leaf none ((ih (Nat.div j 2)).run .leaf v)) (fun l u r _ _ => .node l u ((ih (Nat.div j 2)).run r v)) T⟩
        ⟨fun T v => Tr.rec (motive := fun _ => Tr AV) (.node ((ih (Nat.div j 2)).run .leaf v) none .leaf) (fun l u r _ _ => .node ((ih (Nat.div j 2)).run l v) u r) T⟩ (Nat.beq (Nat.mod j 2) 0)) t) fuel

structure XP where run : Tr AV → Option AV
noncomputable def opdC (x : Operand) : XP :=
  match x with
  | .tmp t => ⟨fun T => (pathC (Nat.succ t) t).run T⟩
  | .const v => ⟨fun _ => ofConst v⟩
  | .global _ => ⟨fun _ => none⟩
  | .func f => ⟨fun _ => some (.f (.func f) [] [])⟩

/-! ## Operations -/
inductive CO where
  | q (f : Tr AV → Option AV)
  | h (f : Tr AV → Tr Blk → Option AV)
  | s (f : Tr AV → Tr Blk → Option (Tr Blk))
  | e (f : Tr AV → AH → Option ER)

noncomputable def rd1 (t : Tr Blk) (id off : Nat) : Option AV := ob (t.get id) fun B => B.asC (fun t z zl n => cellAt t z zl n off) none
noncomputable def one1F (v : AV) : Bool :=
  AV.rec (motive_1 := fun _ => Bool) (motive_2 := fun _ => PUnit) (fun _ => true) (fun _ _ => true) (fun _ => true) true true true true true (fun _ _ => true) (fun _ _ _ _ _ => true) (fun _ => true)
    (fun _ _ _ _ _ => true) (fun _ => true) (fun _ _ _ => true) (fun _ _ => false) (fun _ _ => false) (fun _ => false) ⟨⟩ (fun _ _ _ _ => ⟨⟩) v
noncomputable def wr1 (t : Tr Blk) (id off : Nat) (v : AV) : Option (Tr Blk) :=
  bc (one1F v) (ob (t.get id) fun B => B.asC (fun c z zl n => bc (Nat.blt off n) ((c.put off (some v)).sk fun c' => some (t.put id (some (.cells c' z zl n)))) none) none) none

structure IP where run : IntKind → Int → Int → Option AV
/-- sums of whole numbers not below nought, fast -/
noncomputable def nn (x y : Int) (f : Nat → Nat → Option AV) (d : Option AV) : Option AV :=
  Int.rec (motive := fun _ => Option AV) (fun a => Int.rec (motive := fun _ => Option AV) (fun b => f a b) (fun _ => d) y) (fun _ => d) x
noncomputable def wrN (k : IntKind) (n : Nat) : Option AV :=
  sN n fun n => bc (Nat.blt n (lim k)) (some (.i k (.ofNat n))) (sI (k.wrap (.ofNat n)) fun m => some (.i k m))
noncomputable def unsg (k : IntKind) : Bool := Nat.ble 4 (IntKind.ix k)
noncomputable def iopC (op : BinOp) : IP :=
  match op with
  | .add => ⟨fun k x y => nn x y (fun a b => wrN k (Nat.add a b)) (iop .add k x y)⟩
  | .sub => ⟨fun k x y => nn x y (fun a b => bc (Nat.ble b a) (wrN k (Nat.sub a b)) (iop .sub k x y)) (iop .sub k x y)⟩
  | .mul => ⟨fun k x y => nn x y (fun a b => wrN k (Nat.mul a b)) (iop .mul k x y)⟩
  | .and => ⟨fun k x y => nn x y (fun a b => bc (Nat.blt a (lim k)) (bc (Nat.blt b (lim k)) (wrN k (Nat.land a b)) none) none) none⟩
  | .or => ⟨fun k x y => nn x y (fun a b => bc (Nat.blt a (lim k)) (bc (Nat.blt b (lim k)) (wrN k (Nat.lor a b)) none) none) none⟩
  | .xor => ⟨fun k x y => nn x y (fun a b => bc (Nat.blt a (lim k)) (bc (Nat.blt b (lim k)) (wrN k (Nat.xor a b)) none) none) none⟩
  | .shl => ⟨fun k x y => nn x y (fun a b => bc (Nat.ble b k.bits) (wrN k (Nat.mul a (Nat.pow 2 b))) none) none⟩
  | .shr => ⟨fun k x y => nn x y (fun a b => bc (Nat.ble b k.bits) (sN (Nat.div a (Nat.pow 2 b)) fun n => some (.i k (.ofNat n))) none) none⟩
  | .quo => ⟨fun k x y => nn x y (fun a b => Nat.rec (motive := fun _ => Option AV) none (fun _ _ => wrN k (Nat.div a b)) b) none⟩
  | .rem => ⟨fun k x y => nn x y (fun a b => Nat.rec (motive := fun _ => Option AV) none (fun _ _ => sN (Nat.mod a b) fun n => some (.i k (.ofNat n))) b) none⟩
  | .eql => ⟨fun _ x y => nn x y (fun a b => some (.b (Nat.beq a b))) (some (.b (ibeq x y)))⟩
  | .neq => ⟨fun _ x y => nn x y (fun a b => some (.b (Bool.rec (motive := fun _ => Bool) true false (Nat.beq a b)))) (some (.b (!ibeq x y)))⟩
  | .lss => ⟨fun _ x y => nn x y (fun a b => some (.b (Nat.blt a b))) (some (.b (iblt x y)))⟩
  | .leq => ⟨fun _ x y => nn x y (fun a b => some (.b (Nat.ble a b))) (some (.b (!iblt y x)))⟩
  | .gtr => ⟨fun _ x y => nn x y (fun a b => some (.b (Nat.blt b a))) (some (.b (iblt y x)))⟩
  | .geq => ⟨fun _ x y => nn x y (fun a b => some (.b (Nat.ble b a))) (some (.b (!iblt x y)))⟩
  | _ => ⟨fun _ _ _ => none⟩
/-- the two shifts take numbers of two kinds -/
def isShift : BinOp → Bool
  | .shl => true
  | .shr => true
  | _ => false
noncomputable def bopC (P : Program) (op : BinOp) (t : TypeId) (ox oy : Operand) (x y : AV) : Option AV :=
  x.asI (fun k a => y.asI (fun k' b => bc (Bool.rec (motive := fun _ => Bool) (Nat.beq (IntKind.ix k) (IntKind.ix k')) true (isShift op))
      (Option.rec (motive := fun _ => Option AV) (bop P op t ox oy x y) (fun v => some v) ((iopC op).run k a b)) (bop P op t ox oy x y)) (bop P op t ox oy x y)) (bop P op t ox oy x y)

noncomputable def opC (P : Program) (o : Op) : CO :=
  match o with
  | .move x => .q fun T => (opdC x).run T
  | .assign x => .q fun T => (opdC x).run T
  | .binOp op t x y _ => .q fun T => ob ((opdC x).run T) fun a => ob ((opdC y).run T) fun b => bopC P op t x y a b
  | .convert src dst x => match P.underlying src, P.underlying dst with
    | some _, some (.int k) => .q fun T => ob ((opdC x).run T) fun a => a.asI (fun _ n => sI (wr k n) fun m => some (.i k m)) none
    | _, _ => .e fun T H => evalOp P T H o
  | .load t a => match isAggB P t with
    | some false => .h fun T B => ob ((opdC a).run T) fun v => v.asP (fun id off => rd1 B id off) none
    | _ => .h fun T B => ob ((opdC a).run T) fun v => loadA P ⟨B, 0⟩ t v
  | .store t a v => match sizeB P t with
    | some 1 => .s fun T B => ob ((opdC a).run T) fun x => ob ((opdC v).run T) fun y => x.asP (fun id off => wr1 B id off y) none
    | _ => .e fun T H => evalOp P T H o
  | .indexAddr t x i => match P.underlying t with
    | some (.array n e) => match sizeB P e with
      | some s => .q fun T => ob ((opdC x).run T) fun a => ob ((opdC i).run T) fun b => b.asI (fun _ j => a.asP (fun id off => Int.rec (motive := fun _ => Option AV) (fun i => bc (Nat.blt i n) (sN (Nat.add off (Nat.mul i s)) fun o => some (.p id o)) none) (fun _ => none) j) none) none
      | none => .e fun T H => evalOp P T H o
    | some (.slice e) => match sizeB P e with
      | some s => .q fun T => ob ((opdC x).run T) fun a => ob ((opdC i).run T) fun b => b.asI (fun _ j => a.asSl (fun id off len _ _ => Int.rec (motive := fun _ => Option AV) (fun i => bc (Nat.blt i len) (sN (Nat.add off (Nat.mul i s)) fun o => some (.p id o)) none) (fun _ => none) j) none) none
      | none => .e fun T H => evalOp P T H o
    | _ => .e fun T H => evalOp P T H o
  | .fieldAddr t x k => match P.underlying t with
    | some (.struct fs) => match lget fs.toList k with
      | some f => match sizeB P f.type with
        | some (.succ _) => .q fun T => ob ((opdC x).run T) fun a => a.asP (fun id off => sN (Nat.add off f.offset) fun o => some (.p id o)) none
        | _ => .e fun T H => evalOp P T H o
      | none => .e fun T H => evalOp P T H o
    | _ => .e fun T H => evalOp P T H o
  | .extract x k => .q fun T => ob ((opdC x).run T) fun a => extractA a k
  | .field t x k => .q fun T => ob ((opdC x).run T) fun a => fieldA P t a k
  | .index t x i => .q fun T => ob ((opdC x).run T) fun a => ob ((opdC i).run T) fun b => indexA P t a b
  | _ => .e fun T H => evalOp P T H o

/-! ## Regions and code -/
structure Env where
  P : Program
  /-- what is known of calls -/
  S : FuncId → List AV → AH → Option (AV × AH)
abbrev Self := AF → RC → AH → Out
abbrev KR := Tr AV → List ADef → RC → AH → Out
structure CS where run : Self → Option Nat → KR → (List (AV × Bool) → KR) → KR

structure DS where run : AV → (Tr AV → Out) → Tr AV → Out
noncomputable def dstC (fn n : Nat) (d : Option Nat) : DS :=
  Option.rec (motive := fun _ => DS) ⟨fun _ k T => k T⟩
    (fun t => bc (Nat.blt t n) ⟨fun v k T => ((putC (Nat.succ t) t).run T (some v)).sk k⟩ ⟨fun _ _ _ => .bad [fn, 3]⟩) d

/-- a call of a function, or what is known of it -/
noncomputable def goIn (E : Env) (self : Self) (fn f : FuncId) (args : List AV) (H : AH) (k : AV → AH → Out) (kp : List (AV × Bool) → AH → Out) : Out :=
  Option.rec (motive := fun _ => Out)
    (Option.rec (motive := fun _ => Out) (.bad [fn, 4, f]) (fun fr => Out.rec (motive := fun _ => Out) (fun v _ H' => k v H') (fun c _ H' => kp c H') (fun why => .bad (fn :: why)) (self fr .no H)) (enterA E.P f args false))
    (fun r => k r.1 r.2) (E.S f args H)

noncomputable def goER (E : Env) (self : Self) (fn : FuncId) (ro : Option Nat) (dst : DS) (k : KR) (kp : List (AV × Bool) → KR) (T : Tr AV) (ds : List ADef) (rc : RC) (H : AH) (r : ER) : Out :=
  match r with
  | .val v H' => dst.run v (fun T => k T ds rc H') T
  | .skip H' => dst.run (.tu []) (fun T => k T ds rc H') T
  | .enter f args => goIn E self fn f args H (fun v H' => dst.run v (fun T => k T ds rc H') T) (fun c H' => kp c T ds rc H')
  | .yield l args => match H.t.get l with
    | some (.loop _ _ f0 T0 n0 ps assign body _) => bc (Nat.beq args.length ps.size && (E.P.funcs[f0]?).isSome)
        (Option.rec (motive := fun _ => Out) (.bad [fn, 8]) (fun T1 => match self ⟨f0, n0, T1, [.code assign, .beginRound, .code body], [], .run, false, some l⟩ .no H with
          | .ret v _ H' => dst.run v (fun T => k T ds rc H') T
          | .pan c _ H' => kp c T ds rc H'
          | .bad why => .bad (fn :: why)) (setParams n0 (ps.toList.zip args) T0)) (.bad [fn, 9])
    | _ => .bad [fn, 5]
  | .defer f args => match ro with
    | none => dst.run (.tu []) (fun T => k T (.call f args :: ds) rc H) T
    | some _ => .bad [fn, 6]
  | .recov => match ro, rc with
    | none, .can v => dst.run v (fun T => k T ds .done H) T
    | none, .no => dst.run .nili (fun T => k T ds rc H) T
    | none, .done => dst.run .nili (fun T => k T ds rc H) T
    | some _, _ => .bad [fn, 7]
  | .pan v => kp [(v, false)] T ds rc H

noncomputable def opS (E : Env) (fn n : Nat) (o : Oper) : CS :=
  CO.rec (motive := fun _ => CS)
    (fun f => ⟨fun _ _ k _ T ds rc H => Option.rec (motive := fun _ => Out) (.bad [fn, 2, o.dst.getD 9999]) (fun v => (dstC fn n o.dst).run v (fun T => k T ds rc H) T) (f T)⟩)
    (fun f => ⟨fun _ _ k _ T ds rc H => AH.rec (motive := fun _ => Out) (fun t m => Option.rec (motive := fun _ => Out) (.bad [fn, 2, o.dst.getD 9999]) (fun v => (dstC fn n o.dst).run v (fun T => k T ds rc (AH.mk t m)) T) (f T t)) H⟩)
    (fun f => ⟨fun _ _ k _ T ds rc H => AH.rec (motive := fun _ => Out) (fun t m => Option.rec (motive := fun _ => Out) (.bad [fn, 2, o.dst.getD 9999]) (fun t' => t'.sk fun t' => (dstC fn n o.dst).run (.tu []) (fun T => k T ds rc (AH.mk t' m)) T) (f T t)) H⟩)
    (fun f => ⟨fun self ro k kp T ds rc H => Option.rec (motive := fun _ => Out) (.bad [fn, 2, o.dst.getD 9999]) (fun r => goER E self fn ro (dstC fn n o.dst) k kp T ds rc H r) (f T H)⟩)
    (opC E.P o.op)
/-- an operation with its guard -/
noncomputable def opG (E : Env) (fn n : Nat) (ops : List Oper) (o : Oper) : CS :=
  match o.guard with
  | none => opS E fn n o
  | some _ => ⟨fun self ro k kp T ds rc H => Option.rec (motive := fun _ => Out) (.bad [fn, 1])
      (fun w => bc w ((opS E fn n o).run self ro k kp T ds rc H) ((dstC fn n o.dst).run (.tu []) (fun T => k T ds rc H) T)) (wantedA T ops o)⟩
noncomputable def regC (E : Env) (fn n : Nat) (ops : List Oper) (rest : List Oper) : CS :=
  List.rec (motive := fun _ => CS) ⟨fun _ _ k _ T ds rc H => k T ds rc H⟩
    (fun o _ ih => ⟨fun self ro k kp T ds rc H => (opG E fn n ops o).run self ro (fun T ds rc H => ih.run self ro k kp T ds rc H) kp T ds rc H⟩) rest

/-! regions that draw their order -/
def sameFl : AV → AV → Bool
  | .b x, .b y => x == y
  | .i k n, .i k' n' => decide (k = k') && ibeq n n'
  | .s x, .s y => neq x y
  | .nilp, .nilp => true
  | .nils, .nils => true
  | .nilm, .nilm => true
  | .nilf, .nilf => true
  | .nili, .nili => true
  | .p a b, .p c d => Nat.beq a c && Nat.beq b d
  | .sl a b c d e, .sl a' b' c' d' e' => Nat.beq a a' && Nat.beq b b' && Nat.beq c c' && Nat.beq d d' && Nat.beq e e'
  | .m a, .m b => Nat.beq a b
  | _, _ => false
def sameLst (f : AV → AV → Bool) : List AV → List AV → Bool
  | [], [] => true
  | a :: l, b :: r => f a b && sameLst f l r
  | _, _ => false
def sameN : Nat → AV → AV → Bool
  | 0, a, b => sameFl a b
  | n + 1, a, b => match a, b with
    | .ag l, .ag r => sameLst (sameN n) l r
    | .tu l, .tu r => sameLst (sameN n) l r
    | .f (.func g) a c, .f (.func g') a' c' => Nat.beq g g' && sameLst (sameN n) a a' && sameLst (sameN n) c c'
    | .ifc t v, .ifc t' v' => Nat.beq t t' && sameN n v v'
    | a, b => sameFl a b
def sameV (a b : AV) : Bool := sameN 4 a b
def sameO (a b : Option AV) : Bool :=
  match a, b with
  | some x, some y => sameV x y
  | _, _ => false

structure DC where run : Self → Option Nat → (List AH → KR) → List AH → KR
/-- in the order of the text; the memory behind each effect is kept -/
noncomputable def drC (E : Env) (fn n : Nat) (ops : List Oper) (rest : List Oper) : DC :=
  List.rec (motive := fun _ => DC) ⟨fun _ _ k Gs T ds rc H => k Gs T ds rc H⟩
    (fun o _ ih => ⟨fun self ro k Gs T ds rc H => (opG E fn n ops o).run self ro (fun T ds rc H => ih.run self ro k (bc (quietOp E.P o.op) Gs (H :: Gs)) T ds rc H) (fun _ _ _ _ _ => .bad [fn, 81]) T ds rc H⟩) rest
/-- what is asked again: does it tell the same? -/
noncomputable def ckOne (E : Env) (self : Self) (fn n : Nat) (ops : List Oper) (ro : Option Nat) (T : Tr AV) (ds : List ADef) (rc : RC) (o : Oper) (k : Out) (Gs : List AH) : Out :=
  List.rec (motive := fun _ => Out) k
    (fun G _ ih => (opG E fn n ops o).run self ro (fun T' _ _ _ => bc (sameO (ob o.dst T'.get) (ob o.dst T.get)) ih (.bad [fn, 82])) (fun _ _ _ _ _ => .bad [fn, 83]) T ds rc G) Gs
noncomputable def ckAll (E : Env) (self : Self) (fn n : Nat) (ops : List Oper) (ro : Option Nat) (T : Tr AV) (ds : List ADef) (rc : RC) (Gs : List AH) (k : Out) (l : List (Oper × Nat × Nat)) : Out :=
  List.rec (motive := fun _ => Out) k (fun x _ ih => ckOne E self fn n ops ro T ds rc x.1 ih ((Gs.drop x.2.1).take x.2.2)) l
noncomputable def drawC (E : Env) (fn n : Nat) (ops : List Oper) : CS :=
  ⟨fun self ro k _ T ds rc H => bc (planOK E.P n ops)
    ((drC E fn n ops ops).run self ro (fun Gs T ds rc H => ckAll E self fn n ops ro T ds rc Gs (k T ds rc H) (asks E.P (rows ops))) [H] T ds rc H) (.bad [fn, 51])⟩

/-! a map gone over whose rounds each lay bytes over cells of their own: whatever the order -/
def allN (f : Nat → Bool) (n : Nat) : Bool := Nat.rec (motive := fun _ => Bool) true (fun k ih => f k && ih) n
noncomputable def sameB (B : Blk) (o : Option Blk) : Bool :=
  match B, o with
  | .cells t z zl n, some (.cells t' z' zl' n') => Nat.beq n n' && allN (fun off => sameO (cellAt t z zl n off) (cellAt t' z' zl' n' off)) n
  | _, _ => false
noncomputable def putO (T : Tr AV) (d : Option Nat) (v : AV) : Tr AV :=
  match d with
  | none => T
  | some t => T.put t (some v)
def dstOK (n : Nat) (d : Option Nat) : Bool :=
  match d with
  | none => true
  | some t => Nat.blt t n
def strOK (n : Nat) (o : Oper) : Bool := o.guard.isNone && mildOp o.op && dstOK n o.dst
noncomputable def strOne (E : Env) (self : Self) (Bs : Blk) (ids nx : Nat) (o : Oper) (T : Tr AV) : Option AV :=
  ob (evalOp E.P T ⟨Tr.leaf.put ids (some Bs), nx⟩ o.op) fun r => match r with
    | .val v _ => bc (quietOp E.P o.op) (some v) none
    | .enter f args => match E.S f args ⟨Tr.leaf.put ids (some Bs), nx⟩ with
      | some _ => none
      | none => ob (enterA E.P f args false) fun fr => match self fr .no ⟨Tr.leaf.put ids (some Bs), nx⟩ with
        | .ret v _ H1 => bc (Nat.beq H1.next nx && sameB Bs (H1.t.get ids)) (some v) none
        | _ => none
    | _ => none
/-- operations one behind the other that look at one block alone and leave it -/
noncomputable def strR (E : Env) (self : Self) (n : Nat) (Bs : Blk) (ids nx : Nat) (l : List Oper) : Tr AV → Option (Tr AV) :=
  List.rec (motive := fun _ => Tr AV → Option (Tr AV)) (fun T => some T)
    (fun o _ ih T => bc (strOK n o) (ob (strOne E self Bs ids nx o T) fun v => ih (putO T o.dst v)) none) l

structure MLS where
  it : Nat
  d1 : Nat
  c : Nat
  d3 : Nat
  i0 : Nat
  opsN : Array Oper
  rN : List Oper
  bx : Nat
  bb : Nat
  i1 : Nat
  opsE : Array Oper
  rE : List Oper
  i2 : Nat
  opsB : Array Oper
  rB : List Oper
  a1 : Nat
  a2 : Nat
  ts : Array TypeId
def nextOf (o : Oper) : Option (Nat × Nat) :=
  match o.op, o.dst, o.guard with
  | .next (.tmp it) false, some d, none => some (it, d)
  | _, _, _ => none
def entryOf (o : Oper) : Option (Nat × Nat) :=
  match o.op, o.dst, o.guard with
  | .entry (.tmp it), some d, none => some (it, d)
  | _, _, _ => none
def copyOf (o : Oper) : Option (Nat × Nat × Array TypeId) :=
  match o.op, o.guard with
  | .call ⟨.builtin .copy, ⟨[.tmp a, .tmp b]⟩, ts⟩, none => some (a, b, ts)
  | _, _ => none
def lastOf : List Oper → Option (List Oper × Oper)
  | [] => none
  | [o] => some ([], o)
  | o :: l => match lastOf l with
    | some (r, x) => some (o :: r, x)
    | none => none
/-- a loop over a map's entries, by its text -/
def mlShape (n : Nat) (cd : Code) : Option MLS :=
  match cd with
  | .seq (.region i0 opsN false) (.seq (.cond (.tmp c) .skip (.exit bx)) (.block bb (.seq (.region i1 opsE false) (.region i2 opsB false)))) =>
    match opsN.toList, opsE.toList, lastOf opsB.toList with
    | oN :: rN, oE :: rE, some (rB, oC) => match nextOf oN, entryOf oE, copyOf oC with
      | some (it, d1), some (it', d3), some (a1, a2, ts) =>
        bif Nat.beq it it' && Nat.blt d1 n && Nat.blt d3 n && dstOK n oC.dst then some ⟨it, d1, c, d3, i0, opsN, rN, bx, bb, i1, opsE, rE, i2, opsB, rB, a1, a2, ts⟩ else none
      | _, _, _ => none
    | _, _, _ => none
  | _ => none
def dsts (l : List Oper) : List Nat := l.filterMap (·.dst)
noncomputable def forget (l : List Nat) : Tr AV → Tr AV := List.rec (motive := fun _ => Tr AV → Tr AV) (fun T => T) (fun d _ ih T => ih (T.put d none)) l
def nodupN : List Nat → Bool
  | [] => true
  | a :: l => !memN a l && nodupN l
/-- what a round lays: where, what -/
structure MRec where
  e : AV × AV × Nat
  off : Nat
  new : List AV
def apartM (x y : MRec) : Bool := Nat.ble (Nat.add x.off x.new.length) y.off || Nat.ble (Nat.add y.off y.new.length) x.off
def apartL : List MRec → Bool
  | [] => true
  | a :: l => l.all (apartM a) && apartL l
noncomputable def layM (l : List MRec) (t : Tr AV) : Tr AV := List.rec (motive := fun _ => Tr AV → Tr AV) (fun t => t) (fun r _ ih t => ih (listTr r.new t r.off)) l t
/-- one round: the slots behind it, the block that is written, where, what -/
noncomputable def mlRound (E : Env) (self : Self) (n : Nat) (s : MLS) (Bs : Blk) (ids : Nat) (H : AH) (Th : Tr AV) (e : AV × AV × Nat) : Option (Nat × MRec) :=
  ob (strR E self n Bs ids H.next s.rN (Th.put s.d1 (some (.tu [.b true, e.1, e.2.1])))) fun T1 => match T1.get s.c with
    | some (.b true) => ob (strR E self n Bs ids H.next s.rE (T1.put s.d3 (some (.tu [e.1, e.2.1])))) fun T2 => ob (strR E self n Bs ids H.next s.rB T2) fun T3 =>
      match T3.get s.a1, T3.get s.a2, s.ts.toList with
      | some (.sl idl off len cap x), some (.sl idv offv lenv capv xv), dt :: _ => match E.P.underlying dt with
        | some (.slice el) => ob (sizeB E.P el) fun size => sN (bc (Nat.ble lenv len) lenv len) fun m => ob (H.rdAt idv offv (Nat.mul m size)) fun new =>
            bc (Nat.beq (lenL new) (Nat.mul m size) && !Nat.beq (Nat.mul m size) 0 && new.all one1 && !Nat.beq idv idl && !Nat.beq ids idl) (some (idl, ⟨e, off, new⟩)) none
        | _ => none
      | _, _, _ => none
    | _ => none
def sameIds (idl : Nat) (l : List (Nat × MRec)) : Bool := l.all fun x => Nat.beq x.1 idl
noncomputable def mapLoop (E : Env) (self : Self) (n : Nat) (cd : Code) (T : Tr AV) (H : AH) : Option (MLS × Tr AV × AH) :=
  match mlShape n cd with
  | none => none
  | some s => match (forget (dsts (s.opsN.toList ++ (s.opsE.toList ++ s.opsB.toList))) T).get s.it, T.get 0 with
    | some (.p r 0), some (.p ids _) => match H.t.get r, H.t.get ids with
      | some (.mapIter (some id) since [] _), some Bs => match H.t.get id with
        | some (.map es clock) =>
          bc (Nat.ble 2 es.length && es.all (fun e => Nat.blt e.2.2 since && Nat.blt e.2.2 clock) && nodupN (es.map fun e => e.2.2) && !Nat.beq ids r) (
            ob (obs (mlRound E self n s Bs ids H (forget (dsts (s.opsN.toList ++ (s.opsE.toList ++ s.opsB.toList))) T)) es) fun recs => match recs with
              | [] => none
              | x :: _ => match H.t.get x.1 with
                | some (.cells t z zl nL) =>
                  bc (sameIds x.1 recs && apartL (recs.map (·.2)) && recs.all (fun y => Nat.ble (Nat.add y.2.off y.2.new.length) nL)
                      && (dsts (s.opsN.toList ++ (s.opsE.toList ++ s.opsB.toList))).all (fun d => ((forget (dsts (s.opsN.toList ++ (s.opsE.toList ++ s.opsB.toList))) T).get d).isNone))
                    (ob (strR E self n Bs ids H.next s.rN ((forget (dsts (s.opsN.toList ++ (s.opsE.toList ++ s.opsB.toList))) T).put s.d1 (some (.tu [.b false])))) fun Te => match Te.get s.c with
                      | some (.b false) => some (s, Te, ⟨(H.t.put x.1 (some (.cells (layM (recs.map (·.2)) t) z zl nL))).put r none, H.next⟩)
                      | _ => none) none
                | _ => none) none
        | _ => none
      | _, _ => none
    | _, _ => none

structure CC where run : Self → Nat → Nat → Bool → Option Nat → Tr AV → List ADef → List AItem → RC → AH → Out
/-- a loop's round, or all rounds over a map at once -/
noncomputable def loopC (E : Env) (self : Self) (fn n : Nat) (de : Bool) (ro : Option Nat) (T : Tr AV) (ds : List ADef) (k : List AItem) (rc : RC) (H : AH) (c : Code) (ih : CC) : Out :=
  Option.rec (motive := fun _ => Out) (ih.run self fn n de ro T ds (.inLoop c :: k) rc H)
    (fun x => self (.mk fn n x.2.1 (.code (.seq (.cond (.tmp x.1.c) .skip (.exit x.1.bx)) (.block x.1.bb (.seq (.region x.1.i1 x.1.opsE false) (.region x.1.i2 x.1.opsB false)))) :: .inLoop c :: k) ds .run de ro) rc x.2.2)
    (mapLoop E self n c T H)
noncomputable def codeC (E : Env) (c : Code) : CC :=
  Code.rec (motive := fun _ => CC)
    ⟨fun self fn n de ro T ds k rc H => self (.mk fn n T k ds .run de ro) rc H⟩
    (fun _ ops draw => ⟨fun self fn n de ro T ds k rc H => (bc draw (drawC E fn n ops.toList) (regC E fn n ops.toList ops.toList)).run self ro
      (fun T ds rc H => self (.mk fn n T k ds .run de ro) rc H) (fun c T ds rc H => self (.mk fn n T k ds (.pan c) de ro) rc H) T ds rc H⟩)
    (fun _ b iha _ => ⟨fun self fn n de ro T ds k rc H => iha.run self fn n de ro T ds (.code b :: k) rc H⟩)
    (fun x _ _ iha ihb => ⟨fun self fn n de ro T ds k rc H => Option.rec (motive := fun _ => Out) (.bad [fn, 50]) (fun v => v.asB (fun b => bc b (iha.run self fn n de ro T ds k rc H) (ihb.run self fn n de ro T ds k rc H)) (.bad [fn, 50])) ((opdC x).run T)⟩)
    (fun id _ ih => ⟨fun self fn n de ro T ds k rc H => ih.run self fn n de ro T ds (.inBlock id :: k) rc H⟩)
    (fun c ih => ⟨fun self fn n de ro T ds k rc H => loopC E self fn n de ro T ds k rc H c ih⟩)
    (fun f ps a b _ _ => ⟨fun self fn n de ro T ds k rc H => rangeA' E.P self (.mk fn n T k ds .run de ro) rc H f ps a b k⟩)
    (fun id => ⟨fun self fn n de ro T ds k rc H => match exitToA id k with
      | some k' => self (.mk fn n T k' ds .run de ro) rc H
      | none => leaveA self (.mk fn n T k ds .run de ro) rc H (some (.exit id))⟩)
    (fun c ih => ⟨fun self fn n de ro T ds k rc H => ih.run self fn n de ro T ds (.inScope c :: k) rc H⟩)
    (fun _ => ⟨fun self fn n de ro T ds k rc H => self (.mk fn n T k ds .run de ro) rc H⟩)
    (fun l => ⟨fun self fn n de ro T ds k rc H => match gotoInA l k with
      | some k' => self (.mk fn n T k' ds .run de ro) rc H
      | none => leaveA self (.mk fn n T k ds .run de ro) rc H (some (.goto l))⟩)
    ⟨fun self fn n de ro T ds k rc H => leaveA self (.mk fn n T k ds .run de ro) rc H (some .ret)⟩
    (fun _ => ⟨fun _ fn _ _ _ _ _ _ _ _ => .bad [fn, 52]⟩) c

noncomputable def popC (E : Env) (self : Self) (fn n : Nat) (T : Tr AV) (todo : List AItem) (ds : List ADef) (de : Bool) (ro : Option Nat) (rc : RC) (H : AH) : Out :=
  List.rec (motive := fun _ => Out) (leaveA self (.mk fn n T [] ds .run de ro) rc H none)
    (fun it k _ => AItem.rec (motive := fun _ => Out)
      (fun c => (codeC E c).run self fn n de ro T ds k rc H)
      (fun _ => self (.mk fn n T k ds .run de ro) rc H)
      (fun c => loopC E self fn n de ro T ds k rc H c (codeC E c))
      (fun _ => self (.mk fn n T k ds .run de ro) rc H)
      (fun _ => .bad [fn, 60])
      (fun l => match H.t.get l with
        | some (.loop st pe f0 T0 n0 ps a b d) => match st with
          | .busy => .bad [fn, 61]
          | _ => self (.mk fn n T ((match pe with | some c => [.code c] | none => []) ++ k) ds .run de ro) rc (H.set l (.loop .exhausted pe f0 T0 n0 ps a b d))
        | _ => .bad [fn, 62])
      (match ro with
        | none => .bad [fn, 63]
        | some l => match H.t.get l with
          | some (.loop .ready pe f0 T0 n0 ps a b d) => self (.mk fn n T k ds .run de ro) rc (H.set l (.loop .busy pe f0 T0 n0 ps a b d))
          | _ => .bad [fn, 64]) it) todo
noncomputable def stepC (E : Env) (self : Self) (fr : AF) (rc : RC) (H : AH) : Out :=
  AF.rec (motive := fun _ => Out) (fun fn n T todo ds mode de ro => AMode.rec (motive := fun _ => Out) (popC E self fn n T todo ds de ro rc H)
    (unwindA E.P self (.mk fn n T todo ds .ret de ro) rc H) (fun c => unwindA E.P self (.mk fn n T todo ds (.pan c) de ro) rc H) mode) fr
noncomputable def goC (E : Env) (n : Nat) : Self :=
  Nat.rec (motive := fun _ => Self) (fun fr _ _ => .bad [fr.fn, 0]) (fun _ ih => stepC E ih) n
noncomputable def callC (E : Env) (n : Nat) (f : FuncId) (args : List AV) (H : AH) : Out :=
  Option.rec (motive := fun _ => Out) (.bad [f, 70]) (fun fr => goC E n fr .no H) (enterA E.P f args false)
end Go.Twin
