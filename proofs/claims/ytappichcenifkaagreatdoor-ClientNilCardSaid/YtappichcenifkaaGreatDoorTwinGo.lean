/- The run, made for the kernel: every text part is turned once into a closure that holds all that the text says. -/
import Derived.Test.YtappichcenifkaaGreatDoorTwinRun
import Derived.Test.YtappichcenifkaaGreatDoorTwinPlan
namespace Go.Twin
open Go

/-! ## Looking into values -/
noncomputable def AV.asI {R : Type} (x : AV) (f : IntKind → Int → R) (d : R) : R :=
  AV.rec (motive_1 := fun _ => R) (motive_2 := fun _ => PUnit) (fun _ => d) f (fun _ => d) d d d d d (fun _ _ => d) (fun _ _ _ _ _ => d) (fun _ => d)
    (fun _ _ _ _ _ => d) (fun _ => d) (fun _ _ _ => d) (fun _ _ => d) (fun _ _ => d) (fun _ => d) ⟨⟩ (fun _ _ _ _ => ⟨⟩) x
noncomputable def AV.asP {R : Type} (x : AV) (f : Nat → Nat → R) (d : R) : R :=
  AV.rec (motive_1 := fun _ => R) (motive_2 := fun _ => PUnit) (fun _ => d) (fun _ _ => d) (fun _ => d) d d d d d f (fun _ _ _ _ _ => d) (fun _ => d)
    (fun _ _ _ _ _ => d) (fun _ => d) (fun _ _ _ => d) (fun _ _ => d) (fun _ _ => d) (fun _ => d) ⟨⟩ (fun _ _ _ _ => ⟨⟩) x
noncomputable def AV.asSl {R : Type} (x : AV) (f : Nat → Nat → Nat → Nat → Nat → R) (d : R) : R :=
  AV.rec (motive_1 := fun _ => R) (motive_2 := fun _ => PUnit) (fun _ => d) (fun _ _ => d) (fun _ => d) d d d d d (fun _ _ => d) f (fun _ => d)
    (fun _ _ _ _ _ => d) (fun _ => d) (fun _ _ _ => d) (fun _ _ => d) (fun _ _ => d) (fun _ => d) ⟨⟩ (fun _ _ _ _ => ⟨⟩) x
noncomputable def AV.asB {R : Type} (x : AV) (f : Bool → R) (d : R) : R :=
  AV.rec (motive_1 := fun _ => R) (motive_2 := fun _ => PUnit) f (fun _ _ => d) (fun _ => d) d d d d d (fun _ _ => d) (fun _ _ _ _ _ => d) (fun _ => d)
    (fun _ _ _ _ _ => d) (fun _ => d) (fun _ _ _ => d) (fun _ _ => d) (fun _ _ => d) (fun _ => d) ⟨⟩ (fun _ _ _ _ => ⟨⟩) x
noncomputable def Blk.asC {R : Type} (x : Blk) (f : Tr AV → List AV → Nat → Nat → R) (d : R) : R :=
  Blk.rec (motive := fun _ => R) f (fun _ _ => d) (fun _ _ _ _ => d) (fun _ _ => d) (fun _ _ _ _ _ _ _ _ _ => d) (fun _ => d) x
noncomputable def IntKind.ix (k : IntKind) : Nat := IntKind.rec (motive := fun _ => Nat) 0 1 2 3 4 5 6 7 k

noncomputable def Tr.sk {α R : Type} (t : Tr α) (k : Tr α → R) : R := Tr.rec (motive := fun _ => R) (k .leaf) (fun l v r _ _ => k (.node l v r)) t
theorem Tr.sk_eq {α R : Type} (t : Tr α) (k : Tr α → R) : t.sk k = k t := by cases t <;> rfl

/-! ## Slots by their path -/
structure FP where run : Tr AV → Option AV
structure PP where run : Tr AV → Option AV → Tr AV
noncomputable def pathC (fuel : Nat) : Nat → FP :=
  Nat.rec (motive := fun _ => Nat → FP) (fun t => ⟨fun T => T.get t⟩)
    (fun _ ih t => Nat.rec (motive := fun _ => FP) ⟨fun T => Tr.rec (motive := fun _ => Option AV) none (fun _ v _ _ _ => v) T⟩
      (fun j _ => Bool.rec (motive := fun _ => FP) ⟨fun T => Tr.rec (motive := fun _ => Option AV) none (fun _ _ r _ _ => (ih (Nat.div j 2)).run r) T⟩
        ⟨fun T => Tr.rec (motive := fun _ => Option AV) none (fun l _ _ _ _ => (ih (Nat.div j 2)).run l) T⟩ (Nat.beq (Nat.mod j 2) 0)) t) fuel
noncomputable def putC (fuel : Nat) : Nat → PP :=
  Nat.rec (motive := fun _ => Nat → PP) (fun t => ⟨fun T v => T.put t v⟩)
    (fun _ ih t => Nat.rec (motive := fun _ => PP) ⟨fun T v => Tr.rec (motive := fun _ => Tr AV) (.node .leaf v .leaf) (fun l _ r _ _ => .node l v r) T⟩
      (fun j _ => Bool.rec (motive := fun _ => PP) ⟨fun T v => Tr.rec (motive := fun _ => Tr AV) (.node .leaf none ((ih (Nat.div j 2)).run .leaf v)) (fun l u r _ _ => .node l u ((ih (Nat.div j 2)).run r v)) T⟩
        ⟨fun T v => Tr.rec (motive := fun _ => Tr AV) (.node ((ih (Nat.div j 2)).run .leaf v) none .leaf) (fun l u r _ _ => .node ((ih (Nat.div j 2)).run l v) u r) T⟩ (Nat.beq (Nat.mod j 2) 0)) t) fuel

structure XP where run : Tr AV → Option AV
noncomputable def opdC (x : Operand) : XP :=
  match x with
  | .tmp t => ⟨fun T => Option.rec (motive := fun _ => Option AV) (some (.tu [])) (fun v => some v) ((pathC (Nat.succ t) t).run T)⟩
  | .const v => ⟨fun _ => ofConst v⟩
  | .global _ => ⟨fun _ => none⟩
  | .func f => ⟨fun _ => some (.f (.func f) [] [])⟩

/-! ## Operations -/
inductive CO where
  | q (f : Tr AV → Option AV)
  | h (f : Tr AV → Tr Blk → Option AV)
  | s (f : Tr AV → Tr Blk → Option (Tr Blk))
  | e (f : Tr AV → AH → Option ER)

noncomputable def rd1 (t : Tr Blk) (id off : Nat) : Option AV := ob (t.get id) fun B => B.asC (fun t z zl n => cellAt t z zl n off) none
noncomputable def one1F (v : AV) : Bool :=
  AV.rec (motive_1 := fun _ => Bool) (motive_2 := fun _ => PUnit) (fun _ => true) (fun _ _ => true) (fun _ => true) true true true true true (fun _ _ => true) (fun _ _ _ _ _ => true) (fun _ => true)
    (fun _ _ _ _ _ => true) (fun _ => true) (fun _ _ _ => true) (fun _ _ => false) (fun _ _ => false) (fun _ => false) ⟨⟩ (fun _ _ _ _ => ⟨⟩) v
noncomputable def wr1 (t : Tr Blk) (id off : Nat) (v : AV) : Option (Tr Blk) :=
  bc (one1F v) (ob (t.get id) fun B => B.asC (fun c z zl n => bc (Nat.blt off n) ((c.put off (some v)).sk fun c' => some (t.put id (some (.cells c' z zl n)))) none) none) none

structure IP where run : IntKind → Int → Int → Option AV
/-- sums of whole numbers not below nought, fast -/
noncomputable def nn (x y : Int) (f : Nat → Nat → Option AV) (d : Option AV) : Option AV :=
  Int.rec (motive := fun _ => Option AV) (fun a => Int.rec (motive := fun _ => Option AV) (fun b => f a b) (fun _ => d) y) (fun _ => d) x
noncomputable def wrN (k : IntKind) (n : Nat) : Option AV :=
  sN n fun n => bc (Nat.blt n (lim k)) (some (.i k (.ofNat n))) (sI (k.wrap (.ofNat n)) fun m => some (.i k m))
noncomputable def unsg (k : IntKind) : Bool := Nat.ble 4 (IntKind.ix k)
noncomputable def iopC (op : BinOp) : IP :=
  match op with
  | .add => ⟨fun k x y => nn x y (fun a b => wrN k (Nat.add a b)) (iop .add k x y)⟩
  | .sub => ⟨fun k x y => nn x y (fun a b => bc (Nat.ble b a) (wrN k (Nat.sub a b)) (iop .sub k x y)) (iop .sub k x y)⟩
  | .mul => ⟨fun k x y => nn x y (fun a b => wrN k (Nat.mul a b)) (iop .mul k x y)⟩
  | .and => ⟨fun k x y => nn x y (fun a b => bc (Nat.blt a (lim k)) (bc (Nat.blt b (lim k)) (wrN k (Nat.land a b)) none) none) none⟩
  | .or => ⟨fun k x y => nn x y (fun a b => bc (Nat.blt a (lim k)) (bc (Nat.blt b (lim k)) (wrN k (Nat.lor a b)) none) none) none⟩
  | .xor => ⟨fun k x y => nn x y (fun a b => bc (Nat.blt a (lim k)) (bc (Nat.blt b (lim k)) (wrN k (Nat.xor a b)) none) none) none⟩
  | .shl => ⟨fun k x y => nn x y (fun a b => bc (Nat.ble b k.bits) (wrN k (Nat.mul a (Nat.pow 2 b))) none) none⟩
  | .shr => ⟨fun k x y => nn x y (fun a b => bc (Nat.ble b k.bits) (sN (Nat.div a (Nat.pow 2 b)) fun n => some (.i k (.ofNat n))) none) none⟩
  | .quo => ⟨fun k x y => nn x y (fun a b => Nat.rec (motive := fun _ => Option AV) none (fun _ _ => wrN k (Nat.div a b)) b) none⟩
  | .rem => ⟨fun k x y => nn x y (fun a b => Nat.rec (motive := fun _ => Option AV) none (fun _ _ => sN (Nat.mod a b) fun n => some (.i k (.ofNat n))) b) none⟩
  | .eql => ⟨fun _ x y => nn x y (fun a b => some (.b (Nat.beq a b))) (some (.b (ibeq x y)))⟩
  | .neq => ⟨fun _ x y => nn x y (fun a b => some (.b (Bool.rec (motive := fun _ => Bool) true false (Nat.beq a b)))) (some (.b (!ibeq x y)))⟩
  | .lss => ⟨fun _ x y => nn x y (fun a b => some (.b (Nat.blt a b))) (some (.b (iblt x y)))⟩
  | .leq => ⟨fun _ x y => nn x y (fun a b => some (.b (Nat.ble a b))) (some (.b (!iblt y x)))⟩
  | .gtr => ⟨fun _ x y => nn x y (fun a b => some (.b (Nat.blt b a))) (some (.b (iblt y x)))⟩
  | .geq => ⟨fun _ x y => nn x y (fun a b => some (.b (Nat.ble b a))) (some (.b (!iblt x y)))⟩
  | _ => ⟨fun _ _ _ => none⟩
/-- the two shifts take numbers of two kinds -/
def isShift : BinOp → Bool
  | .shl => true
  | .shr => true
  | _ => false
noncomputable def bopC (P : Program) (op : BinOp) (t : TypeId) (ox oy : Operand) (x y : AV) : Option AV :=
  x.asI (fun k a => y.asI (fun k' b => bc (Bool.rec (motive := fun _ => Bool) (Nat.beq (IntKind.ix k) (IntKind.ix k')) true (isShift op))
      (Option.rec (motive := fun _ => Option AV) (bop P op t ox oy x y) (fun v => some v) ((iopC op).run k a b)) (bop P op t ox oy x y)) (bop P op t ox oy x y)) (bop P op t ox oy x y)

noncomputable def opC (P : Program) (o : Op) : CO :=
  match o with
  | .move x => .q fun T => (opdC x).run T
  | .assign x => .q fun T => (opdC x).run T
  | .binOp op t x y _ => .q fun T => ob ((opdC x).run T) fun a => ob ((opdC y).run T) fun b => bopC P op t x y a b
  | .convert src dst x => match P.underlying src, P.underlying dst with
    | some _, some (.int k) => .q fun T => ob ((opdC x).run T) fun a => a.asI (fun _ n => sI (wr k n) fun m => some (.i k m)) none
    | _, _ => .e fun T H => evalOp P T H o
  | .load t a => match isAggB P t with
    | some false => .h fun T B => ob ((opdC a).run T) fun v => v.asP (fun id off => rd1 B id off) none
    | _ => .h fun T B => ob ((opdC a).run T) fun v => loadA P ⟨B, 0⟩ t v
  | .store t a v => match sizeB P t with
    | some 1 => .s fun T B => ob ((opdC a).run T) fun x => ob ((opdC v).run T) fun y => x.asP (fun id off => wr1 B id off y) none
    | _ => .e fun T H => evalOp P T H o
  | .indexAddr t x i => match P.underlying t with
    | some (.array n e) => match sizeB P e with
      | some s => .q fun T => ob ((opdC x).run T) fun a => ob ((opdC i).run T) fun b => b.asI (fun _ j => a.asP (fun id off => Int.rec (motive := fun _ => Option AV) (fun i => bc (Nat.blt i n) (sN (Nat.add off (Nat.mul i s)) fun o => some (.p id o)) none) (fun _ => none) j) none) none
      | none => .e fun T H => evalOp P T H o
    | some (.slice e) => match sizeB P e with
      | some s => .q fun T => ob ((opdC x).run T) fun a => ob ((opdC i).run T) fun b => b.asI (fun _ j => a.asSl (fun id off len _ _ => Int.rec (motive := fun _ => Option AV) (fun i => bc (Nat.blt i len) (sN (Nat.add off (Nat.mul i s)) fun o => some (.p id o)) none) (fun _ => none) j) none) none
      | none => .e fun T H => evalOp P T H o
    | _ => .e fun T H => evalOp P T H o
  | .fieldAddr t x k => match P.underlying t with
    | some (.struct fs) => match lget fs.toList k with
      | some f => match sizeB P f.type with
        | some (.succ _) => .q fun T => ob ((opdC x).run T) fun a => a.asP (fun id off => sN (Nat.add off f.offset) fun o => some (.p id o)) none
        | _ => .e fun T H => evalOp P T H o
      | none => .e fun T H => evalOp P T H o
    | _ => .e fun T H => evalOp P T H o
  | .extract x k => .q fun T => ob ((opdC x).run T) fun a => extractA a k
  | .field t x k => .q fun T => ob ((opdC x).run T) fun a => fieldA P t a k
  | .index t x i => .q fun T => ob ((opdC x).run T) fun a => ob ((opdC i).run T) fun b => indexA P t a b
  | _ => .e fun T H => evalOp P T H o

/-! ## Regions and code -/
structure Env where
  P : Program
  /-- what is known of calls -/
  S : FuncId → List AV → AH → Option (AV × AH)
abbrev Self := AF → RC → AH → Out
abbrev KR := Tr AV → List ADef → RC → AH → Out
structure CS where run : Self → Option Nat → KR → (List (AV × Bool) → KR) → KR

structure DS where run : AV → (Tr AV → Out) → Tr AV → Out
noncomputable def dstC (fn n : Nat) (d : Option Nat) : DS :=
  Option.rec (motive := fun _ => DS) ⟨fun _ k T => k T⟩
    (fun t => bc (Nat.blt t n) ⟨fun v k T => ((putC (Nat.succ t) t).run T (some v)).sk k⟩ ⟨fun _ _ _ => .bad [fn, 3]⟩) d

/-- a call of a function, or what is known of it -/
noncomputable def goIn (E : Env) (self : Self) (fn f : FuncId) (args : List AV) (H : AH) (k : AV → AH → Out) (kp : List (AV × Bool) → AH → Out) : Out :=
  Option.rec (motive := fun _ => Out)
    (Option.rec (motive := fun _ => Out) (.bad [fn, 4, f]) (fun fr => Out.rec (motive := fun _ => Out) (fun v _ H' => k v H') (fun c _ H' => kp c H') (fun why => .bad (fn :: why)) (self fr .no H)) (enterA E.P f args false))
    (fun r => k r.1 r.2) (E.S f args H)

noncomputable def goER (E : Env) (self : Self) (fn : FuncId) (ro : Option Nat) (dst : DS) (k : KR) (kp : List (AV × Bool) → KR) (T : Tr AV) (ds : List ADef) (rc : RC) (H : AH) (r : ER) : Out :=
  match r with
  | .val v H' => dst.run v (fun T => k T ds rc H') T
  | .skip H' => dst.run (.tu []) (fun T => k T ds rc H') T
  | .enter f args => goIn E self fn f args H (fun v H' => dst.run v (fun T => k T ds rc H') T) (fun c H' => kp c T ds rc H')
  | .yield l args => match H.t.get l with
    | some (.loop _ _ f0 T0 n0 ps assign body _) => bc (Nat.beq args.length ps.size && (E.P.funcs[f0]?).isSome)
        (Option.rec (motive := fun _ => Out) (.bad [fn, 8]) (fun T1 => match self ⟨f0, n0, T1, [.code assign, .beginRound, .code body], [], .run, false, some l⟩ .no H with
          | .ret v _ H' => dst.run v (fun T => k T ds rc H') T
          | .pan c _ H' => kp c T ds rc H'
          | .bad why => .bad (fn :: why)) (setParams n0 (ps.toList.zip args) T0)) (.bad [fn, 9])
    | _ => .bad [fn, 5]
  | .defer f args => match ro with
    | none => dst.run (.tu []) (fun T => k T (.call f args :: ds) rc H) T
    | some _ => .bad [fn, 6]
  | .recov => match ro, rc with
    | none, .can v => dst.run v (fun T => k T ds .done H) T
    | none, .no => dst.run .nili (fun T => k T ds rc H) T
    | none, .done => dst.run .nili (fun T => k T ds rc H) T
    | some _, _ => .bad [fn, 7]
  | .pan v => kp [(v, false)] T ds rc H

noncomputable def opS (E : Env) (fn n : Nat) (o : Oper) : CS :=
  CO.rec (motive := fun _ => CS)
    (fun f => ⟨fun _ _ k _ T ds rc H => Option.rec (motive := fun _ => Out) (.bad [fn, 2, o.dst.getD 9999]) (fun v => (dstC fn n o.dst).run v (fun T => k T ds rc H) T) (f T)⟩)
    (fun f => ⟨fun _ _ k _ T ds rc H => AH.rec (motive := fun _ => Out) (fun t m => Option.rec (motive := fun _ => Out) (.bad [fn, 2, o.dst.getD 9999]) (fun v => (dstC fn n o.dst).run v (fun T => k T ds rc (AH.mk t m)) T) (f T t)) H⟩)
    (fun f => ⟨fun _ _ k _ T ds rc H => AH.rec (motive := fun _ => Out) (fun t m => Option.rec (motive := fun _ => Out) (.bad [fn, 2, o.dst.getD 9999]) (fun t' => t'.sk fun t' => (dstC fn n o.dst).run (.tu []) (fun T => k T ds rc (AH.mk t' m)) T) (f T t)) H⟩)
    (fun f => ⟨fun self ro k kp T ds rc H => Option.rec (motive := fun _ => Out) (.bad [fn, 2, o.dst.getD 9999]) (fun r => goER E self fn ro (dstC fn n o.dst) k kp T ds rc H r) (f T H)⟩)
    (opC E.P o.op)
/-- an operation with its guard -/
noncomputable def opG (E : Env) (fn n : Nat) (ops : List Oper) (o : Oper) : CS :=
  match o.guard with
  | none => opS E fn n o
  | some _ => ⟨fun self ro k kp T ds rc H => Option.rec (motive := fun _ => Out) (.bad [fn, 1])
      (fun w => bc w ((opS E fn n o).run self ro k kp T ds rc H) ((dstC fn n o.dst).run (.tu []) (fun T => k T ds rc H) T)) (wantedA T ops o)⟩
noncomputable def regC (E : Env) (fn n : Nat) (ops : List Oper) (rest : List Oper) : CS :=
  List.rec (motive := fun _ => CS) ⟨fun _ _ k _ T ds rc H => k T ds rc H⟩
    (fun o _ ih => ⟨fun self ro k kp T ds rc H => (opG E fn n ops o).run self ro (fun T ds rc H => ih.run self ro k kp T ds rc H) kp T ds rc H⟩) rest

/-! regions that draw their order -/
def sameFl : AV → AV → Bool
  | .b x, .b y => x == y
  | .i k n, .i k' n' => decide (k = k') && ibeq n n'
  | .s x, .s y => neq x y
  | .nilp, .nilp => true
  | .nils, .nils => true
  | .nilm, .nilm => true
  | .nilf, .nilf => true
  | .nili, .nili => true
  | .p a b, .p c d => Nat.beq a c && Nat.beq b d
  | .sl a b c d e, .sl a' b' c' d' e' => Nat.beq a a' && Nat.beq b b' && Nat.beq c c' && Nat.beq d d' && Nat.beq e e'
  | .m a, .m b => Nat.beq a b
  | _, _ => false
def sameL : List AV → List AV → Bool
  | [], [] => true
  | a :: l, b :: r => sameFl a b && sameL l r
  | _, _ => false
def sameV : AV → AV → Bool
  | .ag l, .ag r => sameL l r
  | .tu l, .tu r => sameL l r
  | .f (.func g) a c, .f (.func g') a' c' => Nat.beq g g' && sameL a a' && sameL c c'
  | .ifc t v, .ifc t' v' => Nat.beq t t' && sameFl v v'
  | a, b => sameFl a b
def sameO (a b : Option AV) : Bool :=
  match a, b with
  | some x, some y => sameV x y
  | _, _ => false

structure DC where run : Self → Option Nat → (List AH → KR) → List AH → KR
/-- in the order of the text; the memory behind each effect is kept -/
noncomputable def drC (E : Env) (fn n : Nat) (ops : List Oper) (rest : List Oper) : DC :=
  List.rec (motive := fun _ => DC) ⟨fun _ _ k Gs T ds rc H => k Gs T ds rc H⟩
    (fun o _ ih => ⟨fun self ro k Gs T ds rc H => (opG E fn n ops o).run self ro (fun T ds rc H => ih.run self ro k (bc (quietOp E.P o.op) Gs (H :: Gs)) T ds rc H) (fun _ _ _ _ _ => .bad [fn, 81]) T ds rc H⟩) rest
/-- what is asked again: does it tell the same? -/
noncomputable def ckOne (E : Env) (self : Self) (fn n : Nat) (ops : List Oper) (ro : Option Nat) (T : Tr AV) (ds : List ADef) (rc : RC) (o : Oper) (k : Out) (Gs : List AH) : Out :=
  List.rec (motive := fun _ => Out) k
    (fun G _ ih => (opG E fn n ops o).run self ro (fun T' _ _ _ => bc (sameO (ob o.dst T'.get) (ob o.dst T.get)) ih (.bad [fn, 82])) (fun _ _ _ _ _ => .bad [fn, 83]) T ds rc G) Gs
noncomputable def ckAll (E : Env) (self : Self) (fn n : Nat) (ops : List Oper) (ro : Option Nat) (T : Tr AV) (ds : List ADef) (rc : RC) (Gs : List AH) (k : Out) (l : List (Oper × Nat × Nat)) : Out :=
  List.rec (motive := fun _ => Out) k (fun x _ ih => ckOne E self fn n ops ro T ds rc x.1 ih ((Gs.drop x.2.1).take x.2.2)) l
noncomputable def drawC (E : Env) (fn n : Nat) (ops : List Oper) : CS :=
  ⟨fun self ro k _ T ds rc H => bc (planOK E.P n ops)
    ((drC E fn n ops ops).run self ro (fun Gs T ds rc H => ckAll E self fn n ops ro T ds rc Gs (k T ds rc H) (asks E.P (rows ops))) [H] T ds rc H) (.bad [fn, 51])⟩

structure CC where run : Self → Nat → Nat → Bool → Option Nat → Tr AV → List ADef → List AItem → RC → AH → Out
noncomputable def codeC (E : Env) (c : Code) : CC :=
  Code.rec (motive := fun _ => CC)
    ⟨fun self fn n de ro T ds k rc H => self (.mk fn n T k ds .run de ro) rc H⟩
    (fun _ ops draw => ⟨fun self fn n de ro T ds k rc H => (bc draw (drawC E fn n ops.toList) (regC E fn n ops.toList ops.toList)).run self ro
      (fun T ds rc H => self (.mk fn n T k ds .run de ro) rc H) (fun c T ds rc H => self (.mk fn n T k ds (.pan c) de ro) rc H) T ds rc H⟩)
    (fun _ b iha _ => ⟨fun self fn n de ro T ds k rc H => iha.run self fn n de ro T ds (.code b :: k) rc H⟩)
    (fun x _ _ iha ihb => ⟨fun self fn n de ro T ds k rc H => Option.rec (motive := fun _ => Out) (.bad [fn, 50]) (fun v => v.asB (fun b => bc b (iha.run self fn n de ro T ds k rc H) (ihb.run self fn n de ro T ds k rc H)) (.bad [fn, 50])) ((opdC x).run T)⟩)
    (fun id _ ih => ⟨fun self fn n de ro T ds k rc H => ih.run self fn n de ro T ds (.inBlock id :: k) rc H⟩)
    (fun c ih => ⟨fun self fn n de ro T ds k rc H => ih.run self fn n de ro T ds (.inLoop c :: k) rc H⟩)
    (fun f ps a b _ _ => ⟨fun self fn n de ro T ds k rc H => rangeA' E.P self (.mk fn n T k ds .run de ro) rc H f ps a b k⟩)
    (fun id => ⟨fun self fn n de ro T ds k rc H => match exitToA id k with
      | some k' => self (.mk fn n T k' ds .run de ro) rc H
      | none => leaveA self (.mk fn n T k ds .run de ro) rc H (some (.exit id))⟩)
    (fun c ih => ⟨fun self fn n de ro T ds k rc H => ih.run self fn n de ro T ds (.inScope c :: k) rc H⟩)
    (fun _ => ⟨fun self fn n de ro T ds k rc H => self (.mk fn n T k ds .run de ro) rc H⟩)
    (fun l => ⟨fun self fn n de ro T ds k rc H => match gotoInA l k with
      | some k' => self (.mk fn n T k' ds .run de ro) rc H
      | none => leaveA self (.mk fn n T k ds .run de ro) rc H (some (.goto l))⟩)
    ⟨fun self fn n de ro T ds k rc H => leaveA self (.mk fn n T k ds .run de ro) rc H (some .ret)⟩
    (fun _ => ⟨fun _ fn _ _ _ _ _ _ _ _ => .bad [fn, 52]⟩) c

noncomputable def popC (E : Env) (self : Self) (fn n : Nat) (T : Tr AV) (todo : List AItem) (ds : List ADef) (de : Bool) (ro : Option Nat) (rc : RC) (H : AH) : Out :=
  List.rec (motive := fun _ => Out) (leaveA self (.mk fn n T [] ds .run de ro) rc H none)
    (fun it k _ => AItem.rec (motive := fun _ => Out)
      (fun c => (codeC E c).run self fn n de ro T ds k rc H)
      (fun _ => self (.mk fn n T k ds .run de ro) rc H)
      (fun c => (codeC E c).run self fn n de ro T ds (.inLoop c :: k) rc H)
      (fun _ => self (.mk fn n T k ds .run de ro) rc H)
      (fun _ => .bad [fn, 60])
      (fun l => match H.t.get l with
        | some (.loop st pe f0 T0 n0 ps a b d) => match st with
          | .busy => .bad [fn, 61]
          | _ => self (.mk fn n T ((match pe with | some c => [.code c] | none => []) ++ k) ds .run de ro) rc (H.set l (.loop .exhausted pe f0 T0 n0 ps a b d))
        | _ => .bad [fn, 62])
      (match ro with
        | none => .bad [fn, 63]
        | some l => match H.t.get l with
          | some (.loop .ready pe f0 T0 n0 ps a b d) => self (.mk fn n T k ds .run de ro) rc (H.set l (.loop .busy pe f0 T0 n0 ps a b d))
          | _ => .bad [fn, 64]) it) todo
noncomputable def stepC (E : Env) (self : Self) (fr : AF) (rc : RC) (H : AH) : Out :=
  AF.rec (motive := fun _ => Out) (fun fn n T todo ds mode de ro => AMode.rec (motive := fun _ => Out) (popC E self fn n T todo ds de ro rc H)
    (unwindA E.P self (.mk fn n T todo ds .ret de ro) rc H) (fun c => unwindA E.P self (.mk fn n T todo ds (.pan c) de ro) rc H) mode) fr
noncomputable def goC (E : Env) (n : Nat) : Self :=
  Nat.rec (motive := fun _ => Self) (fun fr _ _ => .bad [fr.fn, 0]) (fun _ ih => stepC E ih) n
noncomputable def callC (E : Env) (n : Nat) (f : FuncId) (args : List AV) (H : AH) : Out :=
  Option.rec (motive := fun _ => Out) (.bad [f, 70]) (fun fr => goC E n fr .no H) (enterA E.P f args false)
end Go.Twin
