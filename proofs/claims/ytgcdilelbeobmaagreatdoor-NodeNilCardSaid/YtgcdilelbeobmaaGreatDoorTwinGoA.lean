/- The closures of TwinGo say what the plain reckoning says. -/
import Derived.Test.YtgcdilelbeobmaaGreatDoorTwinGo
import Derived.Test.YtgcdilelbeobmaaGreatDoorTwinOpsJ
namespace Go.Twin
open Go

theorem Tr.mk_fuel {α : Type} (x : Option α) : ∀ (f g i : Nat), i < f → i < g → Tr.mk f i x = Tr.mk g i x := by
  intro f
  induction f with
  | zero => intro g i h; omega
  | succ f ih =>
    intro g i h1 h2
    cases g with
    | zero => omega
    | succ g =>
      cases i with
      | zero => rfl
      | succ j =>
        rw [Tr.mk_succ, Tr.mk_succ]
        rw [ih g (j / 2) (by omega) (by omega)]
theorem par_cases (j : Nat) : (j % 2 = 0 ∧ Nat.beq (Nat.mod j 2) 0 = true) ∨ (¬ j % 2 = 0 ∧ Nat.beq (Nat.mod j 2) 0 = false) := by
  by_cases h : j % 2 = 0
  · exact .inl ⟨h, by show Nat.beq (j % 2) 0 = true; rw [h]; rfl⟩
  · exact .inr ⟨h, by
      show Nat.beq (j % 2) 0 = false
      have h1 : j % 2 = 1 := by omega
      rw [h1]; rfl⟩
theorem pathC_run : ∀ (f t : Nat) (T : Tr AV), ((pathC f t).run T) = T.get t := by
  intro f
  induction f with
  | zero => intro t T; rfl
  | succ f ih =>
    intro t T
    cases t with
    | zero => cases T <;> rfl
    | succ j =>
      have e : pathC (f + 1) (j + 1) = Bool.rec (motive := fun _ => FP) ⟨fun T => Tr.rec (motive := fun _ => Option AV) none (fun _ _ r _ _ => (pathC f (j / 2)).run r) T⟩
        ⟨fun T => Tr.rec (motive := fun _ => Option AV) none (fun l _ _ _ _ => (pathC f (j / 2)).run l) T⟩ (Nat.beq (Nat.mod j 2) 0) := rfl
      rw [e]
      rcases par_cases j with ⟨h1, h2⟩ | ⟨h1, h2⟩
      · rw [h2]
        cases T with
        | leaf => rfl
        | node l v r => rw [Tr.get_succ, if_pos h1]; exact ih _ _
      · rw [h2]
        cases T with
        | leaf => rfl
        | node l v r => rw [Tr.get_succ, if_neg h1]; exact ih _ _
theorem put_leaf {α : Type} (t : Nat) (x : Option α) : (Tr.leaf : Tr α).put t x = Tr.mk (t + 1) t x := rfl
theorem putC_run : ∀ (f t : Nat) (T : Tr AV) (x : Option AV), ((putC f t).run T x) = T.put t x := by
  intro f
  induction f with
  | zero => intro t T x; rfl
  | succ f ih =>
    intro t T x
    cases t with
    | zero => cases T <;> rfl
    | succ j =>
      have e : putC (f + 1) (j + 1) = Bool.rec (motive := fun _ => PP) ⟨fun T v => Tr.rec (motive := fun _ => Tr AV) (.node .leaf none ((putC f (j / 2)).run .leaf v)) (fun l u r _ _ => .node l u ((putC f (j / 2)).run r v)) T⟩
        ⟨fun T v => Tr.rec (motive := fun _ => Tr AV) (.node ((putC f (j / 2)).run .leaf v) none .leaf) (fun l u r _ _ => .node ((putC f (j / 2)).run l v) u r) T⟩ (Nat.beq (Nat.mod j 2) 0) := rfl
      rw [e]
      rcases par_cases j with ⟨h1, h2⟩ | ⟨h1, h2⟩
      · rw [h2]
        cases T with
        | leaf =>
          rw [put_leaf, Tr.mk_succ, if_pos h1]
          show Tr.node ((putC f (j / 2)).run .leaf x) none .leaf = _
          rw [ih, put_leaf, Tr.mk_fuel x (j / 2 + 1) (j + 1) (j / 2) (by omega) (by omega)]
        | node l v r =>
          rw [Tr.put_succ, if_pos h1]
          show Tr.node ((putC f (j / 2)).run l x) v r = _
          rw [ih]
      · rw [h2]
        cases T with
        | leaf =>
          rw [put_leaf, Tr.mk_succ, if_neg h1]
          show Tr.node .leaf none ((putC f (j / 2)).run .leaf x) = _
          rw [ih, put_leaf, Tr.mk_fuel x (j / 2 + 1) (j + 1) (j / 2) (by omega) (by omega)]
        | node l v r =>
          rw [Tr.put_succ, if_neg h1]
          show Tr.node l v ((putC f (j / 2)).run r x) = _
          rw [ih]
theorem opdC_run (x : Operand) (T : Tr AV) : (opdC x).run T = ev T x := by
  cases x with
  | tmp t =>
    exact pathC_run _ _ _
  | _ => rfl

theorem asI_some {R : Type} {x : AV} {f : IntKind → Int → Option R} {r : R} (h : x.asI f none = some r) : ∃ k n, x = .i k n ∧ f k n = some r := by
  cases x <;> first | (exact ⟨_, _, rfl, h⟩) | cases h
theorem asP_some {R : Type} {x : AV} {f : Nat → Nat → Option R} {r : R} (h : x.asP f none = some r) : ∃ a b, x = .p a b ∧ f a b = some r := by
  cases x <;> first | (exact ⟨_, _, rfl, h⟩) | cases h
theorem asSl_some {R : Type} {x : AV} {f : Nat → Nat → Nat → Nat → Nat → Option R} {r : R} (h : x.asSl f none = some r) : ∃ a b c d e, x = .sl a b c d e ∧ f a b c d e = some r := by
  cases x <;> first | (exact ⟨_, _, _, _, _, rfl, h⟩) | cases h
theorem asC_some {R : Type} {x : Blk} {f : Tr AV → List AV → Nat → Nat → Option R} {r : R} (h : x.asC f none = some r) : ∃ a b c d, x = .cells a b c d ∧ f a b c d = some r := by
  cases x <;> first | (exact ⟨_, _, _, _, rfl, h⟩) | cases h
theorem one1F_eq (v : AV) : one1F v = one1 v := by cases v <;> rfl
theorem ix_inj {a b : IntKind} (h : Nat.beq (IntKind.ix a) (IntKind.ix b) = true) : a = b := by
  cases a <;> cases b <;> first | rfl | (exact absurd h (by decide))

section
variable {α : Nat → Value} {ρ : Rho} {H H' : AH} {w : World} {P : Program}

theorem wrN_eq (k : IntKind) (n : Nat) : wrN k n = some (.i k (k.wrap (.ofNat n))) := by
  unfold wrN
  rw [sN_eq, bc_eq]
  split
  · rename_i h
    have := wr_eq k (.ofNat n)
    simp only [wr, h, cond_true] at this
    rw [← this]
  · rw [sI_eq]
theorem nn_some {x y : Int} {f : Nat → Nat → Option AV} {d : Option AV} {v : AV} (h : nn x y f d = some v) : (∃ a b, x = .ofNat a ∧ y = .ofNat b ∧ f a b = some v) ∨ d = some v := by
  unfold nn at h
  cases x with
  | ofNat a => cases y with
    | ofNat b => exact .inl ⟨a, b, rfl, rfl, h⟩
    | negSucc b => exact .inr h
  | negSucc a => exact .inr h
theorem lim_le (k : IntKind) : lim k ≤ 2 ^ k.bits := by cases k <;> decide
theorem bits_le (k : IntKind) : k.bits ≤ 64 ∧ 8 ≤ k.bits := by cases k <;> decide

theorem lim_unsigned {k : IntKind} {a : Nat} (h : a < lim k) : a < 2 ^ k.bits := Nat.lt_of_lt_of_le h (lim_le k)
theorem ofInt_toNat {n a : Nat} (h : a < 2 ^ n) : (BitVec.ofInt n (Int.ofNat a)).toNat = a := by
  rw [BitVec.toNat_ofInt]
  have : (Int.ofNat a % ((2 ^ n : Nat) : Int)) = ((a % 2 ^ n : Nat) : Int) := rfl
  rw [this, Int.toNat_natCast, Nat.mod_eq_of_lt h]
theorem blt_lt {a b : Nat} (h : Nat.blt a b = true) : a < b := Nat.le_of_ble_eq_true h

theorem not_blt (a b : Nat) : (!Nat.blt b a) = Nat.ble a b := by
  cases h : Nat.ble a b with
  | true =>
    have h1 := Nat.le_of_ble_eq_true h
    cases h2 : Nat.blt b a with
    | false => rfl
    | true => have := blt_lt h2; omega
  | false =>
    have h1 : ¬ a ≤ b := fun e => by rw [Nat.ble_eq_true_of_le e] at h; cases h
    have h2 : Nat.blt b a = true := Nat.ble_eq_true_of_le (by omega)
    rw [h2]; rfl
/-- whole numbers, by the fast road -/
theorem iopC_sound {op : BinOp} {t : TypeId} {x y : Operand} {k k' : IntKind} {a b : Int} {v : AV} (hk : k = k' ∨ isShift op = true) (h : (iopC op).run k a b = some v) :
    QV P α ρ w (do eqGuard op t x y (.int k a) (.int k' b); binOp op t (.int k a) (.int k' b)) v := by
  have kk : isShift op = false → k = k' := fun e => hk.resolve_right (by rw [e]; exact Bool.false_ne_true)
  have base : ∀ {u : AV}, isShift op = false → iop op k a b = some u → QV P α ρ w (do eqGuard op t x y (.int k a) (.int k' b); binOp op t (.int k a) (.int k' b)) u := by
    intro u e hu
    cases kk e
    exact iop_sound hu
  cases op with
  | add =>
    refine base rfl ?_
    rcases nn_some h with ⟨m, n, rfl, rfl, g⟩ | g
    · rw [wrN_eq] at g; simp only [iop, sI_eq, wr_eq]; exact g
    · exact g
  | sub =>
    refine base rfl ?_
    rcases nn_some h with ⟨m, n, rfl, rfl, g⟩ | g
    · rw [bc_eq] at g
      split at g
      · rename_i hle
        have hle' : n ≤ m := Nat.le_of_ble_eq_true hle
        rw [wrN_eq] at g; simp only [iop, sI_eq, wr_eq]
        have : Int.ofNat m - Int.ofNat n = Int.ofNat (m.sub n) := by
          show (m : Int) - (n : Int) = ((m - n : Nat) : Int)
          omega
        rw [this]; exact g
      · exact g
    · exact g
  | mul =>
    refine base rfl ?_
    rcases nn_some h with ⟨m, n, rfl, rfl, g⟩ | g
    · rw [wrN_eq] at g; simp only [iop, sI_eq, wr_eq]; exact g
    · exact g
  | quo =>
    cases kk rfl
    rcases nn_some h with ⟨m, n, rfl, rfl, g⟩ | g
    · cases n with
      | zero => cases g
      | succ n =>
        have g' : wrN k (m / (n + 1)) = some v := g
        rw [wrN_eq] at g'; cases g'
        refine ⟨_, ?_, .i _ _⟩
        simp only [Sem.run_bind, eqGuard_int, Result.andThen_ok]
        simp only [binOp, ne_eq, not_true_eq_false, if_false, Op.intDiv]
        have h0 : ¬ (Int.ofNat (n + 1) = 0) := by simp; omega
        rw [if_neg h0]
        rfl
    · cases g
  | rem =>
    cases kk rfl
    rcases nn_some h with ⟨m, n, rfl, rfl, g⟩ | g
    · cases n with
      | zero => cases g
      | succ n =>
        have g' : (sN (Nat.mod m (n + 1)) fun n => some (AV.i k (.ofNat n))) = some v := g
        rw [sN_eq] at g'; cases g'
        refine ⟨_, ?_, .i _ _⟩
        simp only [Sem.run_bind, eqGuard_int, Result.andThen_ok]
        simp only [binOp, ne_eq, not_true_eq_false, if_false, Op.intDiv]
        have h0 : ¬ (Int.ofNat (n + 1) = 0) := by simp; omega
        rw [if_neg h0]
        rfl
    · cases g
  | and =>
    cases kk rfl
    rcases nn_some h with ⟨m, n, rfl, rfl, g⟩ | g
    · rw [bc_eq, bc_eq] at g
      split at g
      · rename_i h1
        split at g
        · rename_i h2
          rw [wrN_eq] at g; cases g
          refine ⟨_, ?_, .i _ _⟩
          simp only [Sem.run_bind, eqGuard_int, Result.andThen_ok]
          simp only [binOp, ne_eq, not_true_eq_false, if_false, Op.intBits, Sem.run_pure]
          rw [BitVec.toNat_and, ofInt_toNat (lim_unsigned (blt_lt h1)), ofInt_toNat (lim_unsigned (blt_lt h2))]
          rfl
        · cases g
      · cases g
    · cases g
  | or =>
    cases kk rfl
    rcases nn_some h with ⟨m, n, rfl, rfl, g⟩ | g
    · rw [bc_eq, bc_eq] at g
      split at g
      · rename_i h1
        split at g
        · rename_i h2
          rw [wrN_eq] at g; cases g
          refine ⟨_, ?_, .i _ _⟩
          simp only [Sem.run_bind, eqGuard_int, Result.andThen_ok]
          simp only [binOp, ne_eq, not_true_eq_false, if_false, Op.intBits, Sem.run_pure]
          rw [BitVec.toNat_or, ofInt_toNat (lim_unsigned (blt_lt h1)), ofInt_toNat (lim_unsigned (blt_lt h2))]
          rfl
        · cases g
      · cases g
    · cases g
  | xor =>
    cases kk rfl
    rcases nn_some h with ⟨m, n, rfl, rfl, g⟩ | g
    · rw [bc_eq, bc_eq] at g
      split at g
      · rename_i h1
        split at g
        · rename_i h2
          rw [wrN_eq] at g; cases g
          refine ⟨_, ?_, .i _ _⟩
          simp only [Sem.run_bind, eqGuard_int, Result.andThen_ok]
          simp only [binOp, ne_eq, not_true_eq_false, if_false, Op.intBits, Sem.run_pure]
          rw [BitVec.toNat_xor, ofInt_toNat (lim_unsigned (blt_lt h1)), ofInt_toNat (lim_unsigned (blt_lt h2))]
          rfl
        · cases g
      · cases g
    · cases g
  | shl =>
    rcases nn_some h with ⟨m, n, rfl, rfl, g⟩ | g
    · rw [bc_eq] at g
      split at g
      · rename_i h1
        have h1' : n ≤ k.bits := Nat.le_of_ble_eq_true h1
        rw [wrN_eq] at g; cases g
        refine ⟨_, ?_, .i _ _⟩
        simp only [Sem.run_bind, eqGuard_int, Result.andThen_ok]
        have h0 : ¬ (Int.ofNat n < 0) := by simp only [Int.ofNat_eq_natCast]; omega
        simp only [binOp, Op.shift, if_neg h0]
        have h2 : min (Int.ofNat n).toNat k.bits = n := by simp only [Int.ofNat_eq_natCast, Int.toNat_natCast]; omega
        rw [h2, Sem.run_pure]
        have h3 : Int.ofNat m * 2 ^ n = Int.ofNat (Nat.mul m (Nat.pow 2 n)) := by
          show (m : Int) * 2 ^ n = ((m * 2 ^ n : Nat) : Int)
          simp
        rw [h3]
      · cases g
    · cases g
  | shr =>
    rcases nn_some h with ⟨m, n, rfl, rfl, g⟩ | g
    · rw [bc_eq] at g
      split at g
      · rename_i h1
        have h1' : n ≤ k.bits := Nat.le_of_ble_eq_true h1
        rw [sN_eq] at g; cases g
        refine ⟨_, ?_, .i _ _⟩
        simp only [Sem.run_bind, eqGuard_int, Result.andThen_ok]
        have h0 : ¬ (Int.ofNat n < 0) := by simp only [Int.ofNat_eq_natCast]; omega
        simp only [binOp, Op.shift, if_neg h0]
        have h2 : min (Int.ofNat n).toNat k.bits = n := by simp only [Int.ofNat_eq_natCast, Int.toNat_natCast]; omega
        rw [h2, Sem.run_pure]
        have h3 : (Int.ofNat m).fdiv (2 ^ n) = Int.ofNat (Nat.div m (Nat.pow 2 n)) := by
          have e : ((2 : Int) ^ n) = ((2 ^ n : Nat) : Int) := by simp
          rw [e]
          show Int.fdiv (m : Int) ((2 ^ n : Nat) : Int) = ((m / 2 ^ n : Nat) : Int)
          rw [Int.fdiv_eq_ediv_of_nonneg _ (Int.natCast_nonneg _)]
          rfl
        rw [h3]
      · cases g
    · cases g
  | andNot => cases h
  | eql =>
    refine base rfl ?_
    rcases nn_some h with ⟨m, n, rfl, rfl, g⟩ | g
    · exact g
    · exact g
  | neq =>
    refine base rfl ?_
    rcases nn_some h with ⟨m, n, rfl, rfl, g⟩ | g
    · simp only [iop, ibeq]
      rw [← g]
      cases Nat.beq m n <;> rfl
    · exact g
  | lss =>
    refine base rfl ?_
    rcases nn_some h with ⟨m, n, rfl, rfl, g⟩ | g
    · exact g
    · exact g
  | leq =>
    refine base rfl ?_
    rcases nn_some h with ⟨m, n, rfl, rfl, g⟩ | g
    · simp only [iop, iblt]
      rw [← g, not_blt]
    · exact g
  | gtr =>
    refine base rfl ?_
    rcases nn_some h with ⟨m, n, rfl, rfl, g⟩ | g
    · exact g
    · exact g
  | geq =>
    refine base rfl ?_
    rcases nn_some h with ⟨m, n, rfl, rfl, g⟩ | g
    · simp only [iop, iblt]
      rw [← g, not_blt]
    · exact g

theorem bopC_sound {op : BinOp} {t : TypeId} {ox oy : Operand} {x y v : AV} {x' y' : Value} (hx : VR α ρ x x') (hy : VR α ρ y y') (h : bopC P op t ox oy x y = some v) :
    QV P α ρ w (do eqGuard op t ox oy x' y'; binOp op t x' y') v := by
  have slow : ∀ {u}, bop P op t ox oy x y = some u → QV P α ρ w (do eqGuard op t ox oy x' y'; binOp op t x' y') u := fun hu => bop_sound hx hy hu
  cases x with
  | i k a =>
    cases y with
    | i k' b =>
      have h' : bc (Bool.rec (motive := fun _ => Bool) (Nat.beq (IntKind.ix k) (IntKind.ix k')) true (isShift op))
        (Option.rec (motive := fun _ => Option AV) (bop P op t ox oy (.i k a) (.i k' b)) (fun v => some v) ((iopC op).run k a b)) (bop P op t ox oy (.i k a) (.i k' b)) = some v := h
      rw [bc_eq] at h'
      split at h'
      · rename_i hk
        cases hi : (iopC op).run k a b with
        | none => rw [hi] at h'; exact slow h'
        | some u =>
          rw [hi] at h'
          cases h'
          cases hx; cases hy
          refine iopC_sound ?_ hi
          cases hs : isShift op with
          | true => exact .inr rfl
          | false => rw [hs] at hk; exact .inl (ix_inj hk)
      · exact slow h'
    | _ => exact slow h
  | _ => exact slow h

theorem rd1_eq (H : AH) (id off : Nat) : rd1 H.t id off = ob (H.rdAt id off 1) fun l => lget l 0 := by
  unfold rd1 AH.rdAt
  cases H.t.get id with
  | none => rfl
  | some B =>
    cases B with
    | cells t z zl n =>
      show cellAt t z zl n off = ob (ob (cellAt t z zl n off) fun v => ob (some []) fun r => some (v :: r)) fun l => lget l 0
      cases cellAt t z zl n off <;> rfl
    | _ => rfl
theorem wr1_some {t t' : Tr Blk} {id off m : Nat} {v : AV} (h : wr1 t id off v = some t') : AH.wrAt ⟨t, m⟩ id off [v] = some ⟨t', m⟩ := by
  unfold wr1 at h
  rw [bc_eq] at h
  split at h
  · rename_i h1
    obtain ⟨B, hB, h⟩ := ob_some.1 h
    obtain ⟨c, z, zl, n, rfl, g⟩ := asC_some h
    rw [bc_eq] at g
    split at g
    · rename_i h2
      rw [Tr.sk_eq] at g
      cases g
      unfold AH.wrAt
      show ob (t.get id) _ = _
      rw [hB]
      show ob (wrs n [v] c off) _ = _
      have : wrs n [v] c off = bc (one1 v) (bc (Nat.blt off n) (some (c.put off (some v))) none) none := wrs_cons _ _ _ _ _
      rw [this, ← one1F_eq, h1, h2]
      rfl
    · cases g
  · cases h
theorem one_cells {v : AV} (h : one1F v = true) : cellsOf v = [v] := by
  cases v <;> first | rfl | cases h

/-- what a turned operation says -/
def COok (P : Program) (α : Nat → Value) (ρ : Rho) (T : Tr AV) (H : AH) (w : World) (s : Sem Next) : CO → Prop
  | .q f => ∀ v, f T = some v → OpSpec P α ρ H w s (.val v H)
  | .h f => ∀ v, f T H.t = some v → OpSpec P α ρ H w s (.val v H)
  | .s f => ∀ t', f T H.t = some t' → OpSpec P α ρ H w s (.skip ⟨t', H.next⟩)
  | .e f => ∀ r, f T H = some r → OpSpec P α ρ H w s r

theorem opC_sound (hr : Rel α ρ H w) {T : Tr AV} {e : Operand → Value} (he : EvOK α ρ T e) (o : Oper) : COok P α ρ T H w (execOp e o) (opC P o.op) := by
  have slow : COok P α ρ T H w (execOp e o) (.e fun T H => evalOp P T H o.op) := fun r h => evalOp_sound hr he h
  have val : ∀ v, evalOp P T H o.op = some (.val v H) → OpSpec P α ρ H w (execOp e o) (.val v H) := fun v h => evalOp_sound hr he h
  cases ho : o.op with
  | move x =>
    intro v h
    replace h : (opdC x).run T = some v := h
    rw [opdC_run] at h
    exact val v (by rw [ho]; show vq H (ev T x) = _; rw [h]; rfl)
  | assign x =>
    intro v h
    replace h : (opdC x).run T = some v := h
    rw [opdC_run] at h
    exact val v (by rw [ho]; show vq H (ev T x) = _; rw [h]; rfl)
  | binOp op t x y yt =>
    intro v h
    replace h : (ob ((opdC x).run T) fun a => ob ((opdC y).run T) fun b => bopC P op t x y a b) = some v := h
    rw [opdC_run, opdC_run] at h
    obtain ⟨a, h1, h⟩ := ob_some.1 h
    obtain ⟨b, h2, h⟩ := ob_some.1 h
    obtain ⟨v', g1, g2⟩ := bopC_sound (w := w) (he _ _ h1) (he _ _ h2) h
    exact ⟨v', w, ρ, by simp only [execOp, ho]; simp only [Sem.run_bind] at g1 ⊢; rw [g1]; rfl, Ev.refl hr, g2⟩
  | convert src dst x =>
    rw [ho] at slow
    unfold opC
    simp only
    split
    · rename_i d k hs hd
      intro v h
      replace h : (ob ((opdC x).run T) fun a => a.asI (fun _ n => sI (wr k n) fun m => some (.i k m)) none) = some v := h
      rw [opdC_run] at h
      obtain ⟨a, h1, h⟩ := ob_some.1 h
      obtain ⟨k0, n, rfl, g⟩ := asI_some h
      rw [sI_eq] at g
      cases g
      refine val _ ?_
      rw [ho]
      show (ob (ev T x) fun a => ve (convA P H src dst a)) = _
      rw [h1]
      show ve (convA P H src dst (.i k0 n)) = _
      unfold convA
      rw [hs]
      simp only [hd]
      cases d <;> (show ve (sI (wr k n) fun m => some (AV.i k m, H)) = _; rw [sI_eq]; rfl)
    · exact slow
  | load t a =>
    unfold opC
    simp only
    split
    · rename_i hb
      intro v h
      replace h : (ob ((opdC a).run T) fun v => v.asP (fun id off => rd1 H.t id off) none) = some v := h
      rw [opdC_run] at h
      obtain ⟨x, h1, h⟩ := ob_some.1 h
      obtain ⟨id, off, rfl, g⟩ := asP_some h
      rw [rd1_eq] at g
      refine val _ ?_
      rw [ho]
      show (ob (ev T a) fun x => vq H (loadA P H t x)) = _
      rw [h1]
      show vq H (ob (isAggB P t) fun a => bc a (ob (sizeB P t) fun n => ob (H.rdAt id off n) fun l => some (.ag l)) (ob (H.rdAt id off 1) fun l => lget l 0)) = _
      rw [hb]
      show vq H (ob (H.rdAt id off 1) fun l => lget l 0) = _
      rw [g]; rfl
    · intro v h
      replace h : (ob ((opdC a).run T) fun v => loadA P ⟨H.t, 0⟩ t v) = some v := h
      rw [opdC_run] at h
      obtain ⟨x, h1, h⟩ := ob_some.1 h
      have e1 : loadA P ⟨H.t, 0⟩ t x = loadA P H t x := rfl
      rw [e1] at h
      refine val _ ?_
      rw [ho]
      show (ob (ev T a) fun x => vq H (loadA P H t x)) = _
      rw [h1]
      show vq H (loadA P H t x) = _
      rw [h]; rfl
  | store t a v =>
    rw [ho] at slow
    unfold opC
    simp only
    split
    · rename_i hsz
      intro t' h
      replace h : (ob ((opdC a).run T) fun x => ob ((opdC v).run T) fun y => x.asP (fun id off => wr1 H.t id off y) none) = some t' := h
      rw [opdC_run, opdC_run] at h
      obtain ⟨x, h1, h⟩ := ob_some.1 h
      obtain ⟨y, h2, h⟩ := ob_some.1 h
      obtain ⟨id, off, rfl, g⟩ := asP_some h
      have h3 := wr1_some (m := H.next) g
      have h4 : cellsOf y = [y] := by
        unfold wr1 at g
        rw [bc_eq] at g
        split at g
        · rename_i h5; exact one_cells h5
        · cases g
      refine evalOp_sound hr he ?_
      rw [ho]
      show (ob (ev T a) fun x => ob (ev T v) fun y => vs (storeA P H t x y)) = _
      rw [h1]
      show (ob (ev T v) fun y => vs (storeA P H t (.p id off) y)) = _
      rw [h2]
      show vs (ob (sizeB P t) fun n => bc (Nat.beq (cellsOf y).length n) (H.wrAt id off (cellsOf y)) none) = _
      rw [hsz, h4]
      show vs (H.wrAt id off [y]) = _
      rw [show H.wrAt id off [y] = AH.wrAt ⟨H.t, H.next⟩ id off [y] from rfl, h3]; rfl
    · exact slow
  | indexAddr t x i =>
    rw [ho] at slow
    have fin : ∀ a b v, ev T x = some a → ev T i = some b → indexAddrA P t a b = some v → OpSpec P α ρ H w (execOp e o) (.val v H) := by
      intro a b v h1 h2 h3
      refine val v ?_
      rw [ho]
      show (ob (ev T x) fun a => ob (ev T i) fun b => vq H (indexAddrA P t a b)) = _
      rw [h1]
      show (ob (ev T i) fun b => vq H (indexAddrA P t a b)) = _
      rw [h2]
      show vq H (indexAddrA P t a b) = _
      rw [h3]; rfl
    unfold opC
    simp only
    split
    · rename_i n e' hd
      split
      · rename_i s hs
        intro v h
        replace h : (ob ((opdC x).run T) fun a => ob ((opdC i).run T) fun b => b.asI (fun _ j => a.asP (fun id off => Int.rec (motive := fun _ => Option AV) (fun i => bc (Nat.blt i n) (sN (Nat.add off (Nat.mul i s)) fun o => some (.p id o)) none) (fun _ => none) j) none) none) = some v := h
        rw [opdC_run, opdC_run] at h
        obtain ⟨a, h1, h⟩ := ob_some.1 h
        obtain ⟨b, h2, h⟩ := ob_some.1 h
        obtain ⟨k, j, rfl, g⟩ := asI_some h
        obtain ⟨id, off, rfl, g⟩ := asP_some g
        refine fin _ _ v h1 h2 ?_
        cases j with
        | negSucc j => cases g
        | ofNat j =>
          unfold indexAddrA
          simp only [hd]
          rw [hs]
          exact g
      · exact slow
    · rename_i e' hd
      split
      · rename_i s hs
        intro v h
        replace h : (ob ((opdC x).run T) fun a => ob ((opdC i).run T) fun b => b.asI (fun _ j => a.asSl (fun id off len _ _ => Int.rec (motive := fun _ => Option AV) (fun i => bc (Nat.blt i len) (sN (Nat.add off (Nat.mul i s)) fun o => some (.p id o)) none) (fun _ => none) j) none) none) = some v := h
        rw [opdC_run, opdC_run] at h
        obtain ⟨a, h1, h⟩ := ob_some.1 h
        obtain ⟨b, h2, h⟩ := ob_some.1 h
        obtain ⟨k, j, rfl, g⟩ := asI_some h
        obtain ⟨id, off, len, c1, c2, rfl, g⟩ := asSl_some g
        refine fin _ _ v h1 h2 ?_
        cases j with
        | negSucc j => cases g
        | ofNat j =>
          unfold indexAddrA
          simp only [hd]
          rw [hs]
          exact g
      · exact slow
    · exact slow
  | fieldAddr t x k =>
    rw [ho] at slow
    unfold opC
    simp only
    split
    · rename_i fs hd
      split
      · rename_i f hf
        split
        · rename_i m hm
          intro v h
          replace h : (ob ((opdC x).run T) fun a => a.asP (fun id off => sN (Nat.add off f.offset) fun o => some (.p id o)) none) = some v := h
          rw [opdC_run] at h
          obtain ⟨a, h1, h⟩ := ob_some.1 h
          obtain ⟨id, off, rfl, g⟩ := asP_some h
          refine val v ?_
          rw [ho]
          show (ob (ev T x) fun a => vq H (fieldAddrA P t a k)) = _
          rw [h1]
          show vq H (fieldAddrA P t (.p id off) k) = _
          unfold fieldAddrA
          simp only [hd]
          rw [hf]
          show vq H (ob (sizeB P f.type) fun n => bc (Nat.beq n 0) none (sN (Nat.add off f.offset) fun o => some (.p id o))) = _
          rw [hm]
          show vq H (sN (Nat.add off f.offset) fun o => some (.p id o)) = _
          rw [g]; rfl
        · exact slow
      · exact slow
    · exact slow
  | extract x k =>
    intro v h
    replace h : (ob ((opdC x).run T) fun a => extractA a k) = some v := h
    rw [opdC_run] at h
    obtain ⟨a, h1, h2⟩ := ob_some.1 h
    exact val v (by rw [ho]; show (ob (ev T x) fun a => vq H (extractA a k)) = _; rw [h1]; show vq H (extractA a k) = _; rw [h2]; rfl)
  | field t x k =>
    intro v h
    replace h : (ob ((opdC x).run T) fun a => fieldA P t a k) = some v := h
    rw [opdC_run] at h
    obtain ⟨a, h1, h2⟩ := ob_some.1 h
    exact val v (by rw [ho]; show (ob (ev T x) fun a => vq H (fieldA P t a k)) = _; rw [h1]; show vq H (fieldA P t a k) = _; rw [h2]; rfl)
  | index t x i =>
    intro v h
    replace h : (ob ((opdC x).run T) fun a => ob ((opdC i).run T) fun b => indexA P t a b) = some v := h
    rw [opdC_run, opdC_run] at h
    obtain ⟨a, h1, h⟩ := ob_some.1 h
    obtain ⟨b, h2, h3⟩ := ob_some.1 h
    exact val v (by rw [ho]; show (ob (ev T x) fun a => ob (ev T i) fun b => vq H (indexA P t a b)) = _; rw [h1]; show (ob (ev T i) fun b => vq H (indexA P t a b)) = _; rw [h2]; show vq H (indexA P t a b) = _; rw [h3]; rfl)
  | _ => rw [ho] at slow; exact slow
end
end Go.Twin
