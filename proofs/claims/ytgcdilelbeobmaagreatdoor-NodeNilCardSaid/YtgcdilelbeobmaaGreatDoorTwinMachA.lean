/- Single steps of the model's machine, frame by frame. -/
import Derived.Test.YtgcdilelbeobmaaGreatDoorTwinGoA
import Derived.Defers
namespace Go.Twin
open Go

section
variable {P : Program} {f : FuncId} {tm : Array Value} {ds : List Deferred} {kd : CallKind} {ro : Option Nat} {k : List Item} {cs : List Frame} {w w' : World}

theorem s_skip : step P (lone ⟨f, tm, .code .skip :: k, ds, .run, kd, ro⟩ cs w) = .next (lone ⟨f, tm, k, ds, .run, kd, ro⟩ cs w) := step_lone_go (by simp [stepG, stepG.exec])
theorem s_label {l : Nat} : step P (lone ⟨f, tm, .code (.label l) :: k, ds, .run, kd, ro⟩ cs w) = .next (lone ⟨f, tm, k, ds, .run, kd, ro⟩ cs w) := step_lone_go (by simp [stepG, stepG.exec])
theorem s_inBlock {l : Nat} : step P (lone ⟨f, tm, .inBlock l :: k, ds, .run, kd, ro⟩ cs w) = .next (lone ⟨f, tm, k, ds, .run, kd, ro⟩ cs w) := step_lone_go (by simp [stepG, stepG.exec])
theorem s_inScope {c : Code} : step P (lone ⟨f, tm, .inScope c :: k, ds, .run, kd, ro⟩ cs w) = .next (lone ⟨f, tm, k, ds, .run, kd, ro⟩ cs w) := step_lone_go (by simp [stepG, stepG.exec])
theorem s_seq {a b : Code} : step P (lone ⟨f, tm, .code (.seq a b) :: k, ds, .run, kd, ro⟩ cs w) = .next (lone ⟨f, tm, .code a :: .code b :: k, ds, .run, kd, ro⟩ cs w) := step_lone_go (by simp [stepG, stepG.exec])
theorem s_cond {x : Operand} {a b : Code} {t : Bool} (h : Frame.eval ⟨f, tm, .code (.cond x a b) :: k, ds, .run, kd, ro⟩ x = .bool t) :
    step P (lone ⟨f, tm, .code (.cond x a b) :: k, ds, .run, kd, ro⟩ cs w) = .next (lone ⟨f, tm, .code (if t then a else b) :: k, ds, .run, kd, ro⟩ cs w) := step_lone_go (by simp [stepG, stepG.exec, h])
theorem s_block {id : Nat} {c : Code} : step P (lone ⟨f, tm, .code (.block id c) :: k, ds, .run, kd, ro⟩ cs w) = .next (lone ⟨f, tm, .code c :: .inBlock id :: k, ds, .run, kd, ro⟩ cs w) := step_lone_go (by simp [stepG, stepG.exec])
theorem s_loop {c : Code} : step P (lone ⟨f, tm, .code (.loop c) :: k, ds, .run, kd, ro⟩ cs w) = .next (lone ⟨f, tm, .code c :: .inLoop c :: k, ds, .run, kd, ro⟩ cs w) := step_lone_go (by simp [stepG, stepG.exec])
theorem s_inLoop {c : Code} : step P (lone ⟨f, tm, .inLoop c :: k, ds, .run, kd, ro⟩ cs w) = .next (lone ⟨f, tm, .code c :: .inLoop c :: k, ds, .run, kd, ro⟩ cs w) := step_lone_go (by simp [stepG, stepG.exec])
theorem s_scope {c : Code} : step P (lone ⟨f, tm, .code (.scope c) :: k, ds, .run, kd, ro⟩ cs w) = .next (lone ⟨f, tm, .code c :: .inScope c :: k, ds, .run, kd, ro⟩ cs w) := step_lone_go (by simp [stepG, stepG.exec])
theorem s_exit {id : Nat} {k' : List Item} (h : exitTo id k = some k') : step P (lone ⟨f, tm, .code (.exit id) :: k, ds, .run, kd, ro⟩ cs w) = .next (lone ⟨f, tm, k', ds, .run, kd, ro⟩ cs w) := step_lone_go (by simp [stepG, stepG.exec, h])
theorem s_goto {id : Nat} {k' : List Item} (h : gotoIn id k = some k') : step P (lone ⟨f, tm, .code (.goto id) :: k, ds, .run, kd, ro⟩ cs w) = .next (lone ⟨f, tm, k', ds, .run, kd, ro⟩ cs w) := step_lone_go (by simp [stepG, stepG.exec, h])
theorem s_ret : step P (lone ⟨f, tm, .code .ret :: k, ds, .run, kd, none⟩ cs w) = .next (lone ⟨f, tm, .code .ret :: k, ds, .returning, kd, none⟩ cs w) := step_lone_go (by simp [stepG, stepG.exec])
theorem s_end : step P (lone ⟨f, tm, [], ds, .run, kd, none⟩ cs w) = .next (lone ⟨f, tm, [], ds, .returning, kd, none⟩ cs w) := step_lone_go (by simp [stepG, stepG.exec])
theorem s_region {id : Nat} {ops : Array Oper} : step P (lone ⟨f, tm, .code (.region id ops false) :: k, ds, .run, kd, ro⟩ cs w) = .next (lone ⟨f, tm, .inRegion ops (List.range ops.size) :: k, ds, .run, kd, ro⟩ cs w) :=
  step_lone_go (by simp [stepG, stepG.exec])
theorem s_regionEnd {ops : Array Oper} : step P (lone ⟨f, tm, .inRegion ops [] :: k, ds, .run, kd, ro⟩ cs w) = .next (lone ⟨f, tm, k, ds, .run, kd, ro⟩ cs w) := step_lone_go (by simp [stepG, stepG.exec])

/-- what a slot comes to behind an operation -/
def putV (d : Option Nat) (tm : Array Value) (v : Value) : Array Value :=
  match d with
  | some d => tm.setIfInBounds d v
  | none => tm
variable {ops : Array Oper} {i : Nat} {rest : List Nat} {o : Oper}

theorem s_opSkip (ho : ops[i]? = some o) (hw : Region.wanted o (yielded ops tm) = false) :
    step P (lone ⟨f, tm, .inRegion ops (i :: rest) :: k, ds, .run, kd, ro⟩ cs w) = .next (lone ⟨f, putV o.dst tm undef, .inRegion ops rest :: k, ds, .run, kd, ro⟩ cs w) := by
  refine step_lone_go ?_
  simp [stepG, stepG.exec, ho, hw, Frame.finish, putV] <;> cases o.dst <;> rfl
/-- an operation is what its run is -/
theorem s_op (ho : ops[i]? = some o) (hw : Region.wanted o (yielded ops tm) = true) (hd : ro = none ∨ ∀ c, o.op ≠ .defer c) :
    stepG P true { frame := ⟨f, tm, .inRegion ops (i :: rest) :: k, ds, .run, kd, ro⟩, callers := cs, status := .running, dying := none } w =
      stepG.apply P true ⟨f, tm, .inRegion ops (i :: rest) :: k, ds, .run, kd, ro⟩ cs none (execOp (Frame.eval ⟨f, tm, .inRegion ops (i :: rest) :: k, ds, .run, kd, ro⟩) o) w := by
  simp only [stepG, stepG.exec, stepG.oper, Frame.oper?, ho, hw, Option.map_some, Option.getD_some, if_true]
  cases ro with
  | none => rfl
  | some l =>
    have hd' := hd.resolve_left (by simp)
    cases hop : o.op <;> first | rfl | exact absurd hop (hd' _)
variable {v : Value}
theorem s_opVal (ho : ops[i]? = some o) (hw : Region.wanted o (yielded ops tm) = true) (hd : ro = none ∨ ∀ c, o.op ≠ .defer c)
    (hr : (execOp (Frame.eval ⟨f, tm, .inRegion ops (i :: rest) :: k, ds, .run, kd, ro⟩) o).run P w = .ok (.value v) w') :
    step P (lone ⟨f, tm, .inRegion ops (i :: rest) :: k, ds, .run, kd, ro⟩ cs w) = .next (lone ⟨f, putV o.dst tm v, .inRegion ops rest :: k, ds, .run, kd, ro⟩ cs w') := by
  refine step_lone_go ?_
  rw [s_op ho hw hd]
  simp [stepG.apply, hr, Frame.finish, ho, putV] <;> cases o.dst <;> rfl
theorem s_opUnit (ho : ops[i]? = some o) (hw : Region.wanted o (yielded ops tm) = true) (hd : ro = none ∨ ∀ c, o.op ≠ .defer c)
    (hr : (execOp (Frame.eval ⟨f, tm, .inRegion ops (i :: rest) :: k, ds, .run, kd, ro⟩) o).run P w = .ok .skip w') :
    step P (lone ⟨f, tm, .inRegion ops (i :: rest) :: k, ds, .run, kd, ro⟩ cs w) = .next (lone ⟨f, putV o.dst tm undef, .inRegion ops rest :: k, ds, .run, kd, ro⟩ cs w') := by
  refine step_lone_go ?_
  rw [s_op ho hw hd]
  simp [stepG.apply, hr, Frame.finish, ho, putV] <;> cases o.dst <;> rfl
theorem s_opEnter {g : FuncId} {args : Array Value} (ho : ops[i]? = some o) (hw : Region.wanted o (yielded ops tm) = true) (hd : ro = none ∨ ∀ c, o.op ≠ .defer c)
    (hr : (execOp (Frame.eval ⟨f, tm, .inRegion ops (i :: rest) :: k, ds, .run, kd, ro⟩) o).run P w = .ok (.enter g args) w') :
    step P (lone ⟨f, tm, .inRegion ops (i :: rest) :: k, ds, .run, kd, ro⟩ cs w) = .next (lone (Frame.enter P g args .normal) (⟨f, tm, .inRegion ops (i :: rest) :: k, ds, .run, kd, ro⟩ :: cs) w') := by
  refine step_lone_go ?_
  rw [s_op ho hw hd]
  simp [stepG.apply, hr]
theorem s_opRound {l : Nat} {g : FuncId} {tm' : Array Value} {a b : Code} (ho : ops[i]? = some o) (hw : Region.wanted o (yielded ops tm) = true) (hd : ro = none ∨ ∀ c, o.op ≠ .defer c)
    (hr : (execOp (Frame.eval ⟨f, tm, .inRegion ops (i :: rest) :: k, ds, .run, kd, ro⟩) o).run P w = .ok (.round l g tm' a b) w') :
    step P (lone ⟨f, tm, .inRegion ops (i :: rest) :: k, ds, .run, kd, ro⟩ cs w) = .next (lone (Frame.round l g tm' a b .normal) (⟨f, tm, .inRegion ops (i :: rest) :: k, ds, .run, kd, ro⟩ :: cs) w') := by
  refine step_lone_go ?_
  rw [s_op ho hw hd]
  simp [stepG.apply, hr]
theorem s_opDefer {d : Deferred} (ho : ops[i]? = some o) (hw : Region.wanted o (yielded ops tm) = true)
    (hr : (execOp (Frame.eval ⟨f, tm, .inRegion ops (i :: rest) :: k, ds, .run, kd, none⟩) o).run P w = .ok (.defer d) w') :
    step P (lone ⟨f, tm, .inRegion ops (i :: rest) :: k, ds, .run, kd, none⟩ cs w) = .next (lone ⟨f, putV o.dst tm undef, .inRegion ops rest :: k, d :: ds, .run, kd, none⟩ cs w') := by
  refine step_lone_go ?_
  rw [s_op ho hw (.inl rfl)]
  simp [stepG.apply, hr, Frame.finish, ho, putV] <;> cases o.dst <;> rfl
theorem s_opPanic (ho : ops[i]? = some o) (hw : Region.wanted o (yielded ops tm) = true) (hd : ro = none ∨ ∀ c, o.op ≠ .defer c)
    (hr : (execOp (Frame.eval ⟨f, tm, .inRegion ops (i :: rest) :: k, ds, .run, kd, ro⟩) o).run P w = .halt (.panic v) w') :
    step P (lone ⟨f, tm, .inRegion ops (i :: rest) :: k, ds, .run, kd, ro⟩ cs w) = .next (lone ⟨f, tm, .inRegion ops (i :: rest) :: k, ds, .panicking [{ v, recovered := false }], kd, ro⟩ cs w') := by
  refine step_lone_go ?_
  rw [s_op ho hw hd]
  simp [stepG.apply, hr, Frame.raise]
/-- whom a recover finds -/
def recOf (kd : CallKind) (cs : List Frame) : Option (Value × List Frame) :=
  match kd, cs with
  | .deferred, caller :: rest =>
    match caller.mode with
    | .panicking ({ v, recovered := false, goexit := false } :: older) => some (v, { caller with mode := .panicking ({ v, recovered := true } :: older) } :: rest)
    | _ => none
  | _, _ => none
theorem tryRecover_eq (g : Frame) (cs : List Frame) (h : g.kind ≠ .wrapped) : tryRecover g cs = recOf g.kind cs := by
  unfold tryRecover recOf
  cases hk : g.kind <;> cases cs <;> first | rfl | exact absurd hk h
theorem s_opRecover {r : Option (Value × List Frame)} (hk : kd ≠ .wrapped) (ho : ops[i]? = some o) (hw : Region.wanted o (yielded ops tm) = true)
    (hr : (execOp (Frame.eval ⟨f, tm, .inRegion ops (i :: rest) :: k, ds, .run, kd, none⟩) o).run P w = .ok .recover w') (hq : recOf kd cs = r) :
    step P (lone ⟨f, tm, .inRegion ops (i :: rest) :: k, ds, .run, kd, none⟩ cs w) =
      .next (lone ⟨f, putV o.dst tm (match r with | some q => q.1 | none => .nilIface), .inRegion ops rest :: k, ds, .run, kd, none⟩ (match r with | some q => q.2 | none => cs) w') := by
  refine step_lone_go ?_
  rw [s_op ho hw (.inl rfl)]
  have ht := tryRecover_eq ⟨f, tm, .inRegion ops (i :: rest) :: k, ds, .run, kd, none⟩ cs hk
  simp only at ht
  rw [hq] at ht
  cases r with
  | none => simp [stepG.apply, hr, ht, Frame.finish, ho, putV] <;> cases o.dst <;> rfl
  | some q => obtain ⟨u, cs'⟩ := q; simp [stepG.apply, hr, ht, Frame.finish, ho, putV] <;> cases o.dst <;> rfl

/-! rounds -/
theorem s_beginRound {l : Nat} (hr : (Instr.beginRound l).run P w = .ok () w') : step P (lone ⟨f, tm, .beginRound :: k, ds, .run, kd, some l⟩ cs w) = .next (lone ⟨f, tm, k, ds, .run, kd, some l⟩ cs w') :=
  step_lone_go (by simp [stepG, stepG.exec, stepG.apply, Sem.runT_eq, hr, Result.andThen, Frame.finish])
theorem s_endRange {l : Nat} {j : Option Code} (hr : (Instr.endLoop l).run P w = .ok j w') :
    step P (lone ⟨f, tm, .endRangeFunc l :: k, ds, .run, kd, ro⟩ cs w) = .next (lone ⟨f, tm, (j.map Item.code).toList ++ k, ds, .run, kd, ro⟩ cs w') :=
  step_lone_go (by simp [stepG, stepG.exec, Sem.runT_eq, hr])
theorem s_rangeFunc {x : Operand} {ps : Array Tmp} {a b : Code} {l : Nat} {mark : List Deferred} {d : Deferred} {g : FuncId} {args : Array Value} {w1 : World}
    (h1 : (Instr.enterLoop f tm ps a b ro).run P w = .ok (l, mark) w1)
    (h2 : (Deferred.ofValue (Frame.eval ⟨f, tm, .code (.rangeFunc x ps a b) :: k, ds, .run, kd, ro⟩ x) #[.func (.yield l) #[] #[]]).run P w1 = .ok d w1)
    (h3 : (invoke d.target d.args).run P w1 = .ok (.enter g args) w1) :
    step P (lone ⟨f, tm, .code (.rangeFunc x ps a b) :: k, ds, .run, kd, ro⟩ cs w) = .next (lone (Frame.enter P g args .normal) (⟨f, tm, .inRangeFunc l :: k, mark ++ ds, .run, kd, ro⟩ :: cs) w1) := by
  refine step_lone_go ?_
  have h2' : (Deferred.ofValue (Frame.eval ⟨f, tm, .inRangeFunc l :: k, mark ++ ds, .run, kd, ro⟩ x) #[.func (.yield l) #[] #[]]).run P w1 = .ok d w1 := by
    rw [← h2]; congr 2
  have h4 : (resolve (Frame.eval ⟨f, tm, .inRangeFunc l :: k, mark ++ ds, .run, kd, ro⟩) { callee := .value x, args := #[.const (.func (.yield l) #[] #[])], argTypes := #[] } 0).run P w1 = .ok d w1 := by
    simp only [resolve]
    have e : ∀ g : Frame, Array.map g.eval #[Operand.const (.func (.yield l) #[] #[])] = #[.func (.yield l) #[] #[]] := fun g => by simp [Frame.eval]
    rw [e]
    exact h2'
  simp [stepG, stepG.exec, stepG.apply, Sem.runT_eq, h1, h4, h3]
theorem s_leaveRound {l : Nat} {td : List Item} {j : Option Code} {c : Frame} (ht : (td = [] ∧ j = none) ∨ (td = .code .ret :: k ∧ j = some .ret) ∨ (∃ id, td = .code (.exit id) :: k ∧ j = some (.exit id) ∧ exitTo id k = none) ∨
      (∃ id, td = .code (.goto id) :: k ∧ j = some (.goto id) ∧ gotoIn id k = none))
    (hr : (Instr.endRound l j).run P w = .ok v w') : step P (lone ⟨f, tm, td, ds, .run, .normal, some l⟩ (c :: cs) w) = .next (lone (c.finish v) cs w') := by
  refine step_lone_go ?_
  rcases ht with ⟨rfl, rfl⟩ | ⟨rfl, rfl⟩ | ⟨id, rfl, rfl, hx⟩ | ⟨id, rfl, rfl, hx⟩
  · simp [stepG, stepG.exec, Sem.runT_eq, hr, doReturn]
  · simp [stepG, stepG.exec, Sem.runT_eq, hr, doReturn]
  · simp [stepG, stepG.exec, Sem.runT_eq, hr, doReturn, hx]
  · simp [stepG, stepG.exec, Sem.runT_eq, hr, doReturn, hx]
theorem s_collected {b : Nat} {args : Array Value} {calls : List Deferred} {fr : Frame} (hm : fr.mode ≠ .run) (hd : fr.defers = { target := .collected b, args := args } :: ds)
    (hr : (Instr.takeDeferred b).run P w = .ok calls w') : step P (lone fr cs w) = .next (lone { fr with defers := calls ++ ds } cs w') := by
  refine step_lone_go ?_
  cases hmode : fr.mode with
  | run => exact absurd hmode hm
  | returning => simp [stepG, unwind, hmode, hd, Sem.runT_eq, hr]
  | panicking chain => simp [stepG, unwind, hmode, hd, Sem.runT_eq, hr]
theorem s_rangeReturn {l : Nat} : Frame.finish ⟨f, tm, .inRangeFunc l :: k, ds, .run, kd, ro⟩ v = ⟨f, tm, .endRangeFunc l :: k, ds, .run, kd, ro⟩ := rfl
theorem s_opFinish (ho : ops[i]? = some o) : Frame.finish ⟨f, tm, .inRegion ops (i :: rest) :: k, ds, .run, kd, ro⟩ v = ⟨f, putV o.dst tm v, .inRegion ops rest :: k, ds, .run, kd, ro⟩ := by
  simp [Frame.finish, ho, putV] <;> cases o.dst <;> rfl
end
end Go.Twin
