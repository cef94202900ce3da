/- Operations that leave the memory as it is: the model's run of each. -/
import Derived.Test.YtgcdilelbeobmaaGreatDoorTwinMem
namespace Go.Twin
open Go

section
variable {α : Nat → Value} {ρ : Rho} {H H' : AH} {w : World} {P : Program}

theorem ofConst1_sound {v : Value} {a : AV} (h : ofConst1 v = some a) : VR α ρ a v := by
  cases v with
  | bool b => cases h; exact .b b
  | int k n => cases h; exact .i k n
  | string s => cases h; exact .s _ s rfl
  | pointer p => cases p with
    | none => cases h; exact .nilp
    | some p => cases h
  | slice p n c => cases p with
    | none =>
      cases n with
      | zero => cases c with
        | zero => cases h; exact .nils
        | succ c => cases h
      | succ n => cases h
    | some p => cases h
  | map m => cases m with
    | none => cases h; exact .nilm
    | some m => cases h
  | nilFunc => cases h; exact .nilf
  | nilIface => cases h; exact .nili
  | _ => cases h
theorem ofConsts_sound : ∀ {l : List Value} {r : List AV}, ofConsts l = some r → VRs α ρ r l := by
  intro l
  induction l with
  | nil => intro r h; cases h; exact .nil
  | cons v l ih =>
    intro r h
    unfold ofConsts at h
    cases h1 : ofConst1 v with
    | none => rw [h1] at h; cases h
    | some a =>
      rw [h1] at h
      cases h2 : ofConsts l with
      | none => rw [h2] at h; cases h
      | some q => rw [h2] at h; cases h; exact .cons _ _ _ _ (ofConst1_sound h1) (ih h2)
theorem ofConst_sound {v : Value} {a : AV} (h : ofConst v = some a) : VR α ρ a v := by
  unfold ofConst at h
  split at h
  · rename_i cs
    cases h1 : ofConsts cs.toList with
    | none => rw [h1] at h; cases h
    | some l => rw [h1] at h; cases h; exact .ag _ _ (ofConsts_sound h1)
  · cases h; exact .tu _ _ .nil
  · cases h; exact .f _ _ _ _ _ .nil .nil
  · exact ofConst1_sound h
theorem toFlat1_sound {a : AV} {u v : Value} (h : toFlat1 a = some u) (hv : VR α ρ a v) : v = u := by
  cases hv <;> simp [toFlat1] at h <;> exact h
theorem toFlats_sound : ∀ {l : List AV} {us vs : List Value}, toFlats l = some us → VRs α ρ l vs → vs = us := by
  intro l
  induction l with
  | nil => intro us vs h hv; cases h; cases hv; rfl
  | cons a l ih =>
    intro us vs h hv
    cases hv with
    | cons _ v _ vs' h1 h2 =>
      unfold toFlats at h
      cases e1 : toFlat1 a with
      | none => rw [e1] at h; cases h
      | some u =>
        rw [e1] at h
        cases e2 : toFlats l with
        | none => rw [e2] at h; cases h
        | some r => rw [e2] at h; cases h; rw [toFlat1_sound e1 h1, ih e2 h2]
theorem toFlat_sound {a : AV} {u v : Value} (h : toFlat a = some u) (hv : VR α ρ a v) : v = u := by
  unfold toFlat at h
  split at h
  · cases hv with
    | ag l l' h1 =>
      split at h
      · cases h
      · rename_i cs hcs
        cases h
        rw [toFlats_sound hcs h1]
  · exact toFlat1_sound h hv

theorem pureRun_sound {β : Type} (s : Sem β) : ∀ {a : β}, pureRun P s = some a → ∀ w, s.run P w = .ok a w := by
  induction s with
  | pure x => intro a h w; cases h; rfl
  | program k ih => intro a h w; exact ih P h w
  | mark m k ih => intro a h w; exact ih h w
  | _ => intro a h; cases h

/-- what an operand is -/
def EvOK (α : Nat → Value) (ρ : Rho) (T : Tr AV) (e : Operand → Value) : Prop := ∀ x v, ev T x = some v → VR α ρ v (e x)
theorem evOK_of (T : Tr AV) (n : Nat) (a : Act) (h : TR α ρ T n a.tmps) : EvOK α ρ T a.eval := by
  intro x v hx
  cases x with
  | tmp t => exact h.2 t v hx
  | const c => exact ofConst_sound hx
  | global g => cases hx
  | func f => cases hx; exact .f _ _ _ _ _ .nil .nil

/-- a quiet reckoning: it hands back such a value, in the world that it got -/
def QV (P : Program) (α : Nat → Value) (ρ : Rho) (w : World) (s : Sem Value) (v : AV) : Prop := ∃ v', s.run P w = .ok v' w ∧ VR α ρ v v'

theorem strOf_inj {a b : ByteArray} : strOf a = strOf b ↔ a.data.toList = b.data.toList := by
  unfold strOf
  constructor
  · intro h
    have : ∀ (x y : List UInt8), x.map UInt8.toNat = y.map UInt8.toNat → x = y := by
      intro x
      induction x with
      | nil => intro y h; cases y <;> simp_all
      | cons c x ih =>
        intro y h
        cases y with
        | nil => simp at h
        | cons d y =>
          simp only [List.map_cons, List.cons.injEq] at h
          rw [UInt8.toNat_inj.1 h.1, ih y h.2]
    exact this _ _ h
  · intro h; rw [h]
theorem nat_beq_false {a b : Nat} (h : a ≠ b) : Nat.beq a b = false := by
  cases e : Nat.beq a b with
  | false => rfl
  | true => exact absurd (Nat.eq_of_beq_eq_true e) h
theorem neq_eq : ∀ (x y : List Nat), neq x y = decide (x = y) := by
  intro x
  induction x with
  | nil => intro y; cases y <;> simp [neq]
  | cons a x ih =>
    intro y
    cases y with
    | nil => simp [neq]
    | cons b y =>
      simp only [neq, ih]
      by_cases h : a = b
      · subst h; simp
      · rw [nat_beq_false h]; simp [h]
theorem nlt_eq : ∀ (x y : List UInt8), nlt (x.map UInt8.toNat) (y.map UInt8.toNat) = Op.bytesLess x y := by
  intro x
  induction x with
  | nil => intro y; cases y <;> rfl
  | cons a x ih =>
    intro y
    cases y with
    | nil => rfl
    | cons b y =>
      simp only [List.map_cons, nlt, Op.bytesLess, ih]
      by_cases h : a < b
      · have : Nat.blt a.toNat b.toNat = true := by simp [Nat.blt]; exact h
        rw [this]; simp [h]
      · have h1 : Nat.blt a.toNat b.toNat = false := by
          have h0 : ¬ a.toNat < b.toNat := h
          cases e : Nat.blt a.toNat b.toNat with
          | false => rfl
          | true => exact absurd (by simp [Nat.blt] at e; omega) h0
        rw [h1]
        by_cases he : a = b
        · subst he; simp
        · have h2 : Nat.beq a.toNat b.toNat = false := by
            exact nat_beq_false fun e => he (UInt8.toNat_inj.1 e)
          rw [h2]; simp [h, he]

theorem eqGuard_int (op : BinOp) (t : TypeId) (x y : Operand) (k k' : IntKind) (a b : Int) : (eqGuard op t x y (.int k a) (.int k' b)).run P w = .ok () w := by
  unfold eqGuard
  cases op <;> rfl
theorem eqGuard_str (op : BinOp) (t : TypeId) (x y : Operand) (a b : ByteArray) : (eqGuard op t x y (.string a) (.string b)).run P w = .ok () w := by
  unfold eqGuard
  cases op <;> rfl

theorem iop_sound {op : BinOp} {t : TypeId} {x y : Operand} {k : IntKind} {a b : Int} {v : AV} (h : iop op k a b = some v) :
    QV P α ρ w (do eqGuard op t x y (.int k a) (.int k b); binOp op t (.int k a) (.int k b)) v := by
  unfold QV
  simp only [Sem.run_bind, eqGuard_int, Result.andThen_ok]
  have e1 : (a == b) = decide (a = b) := rfl
  have e2 : (a != b) = !decide (a = b) := rfl
  have e3 : decide (a ≤ b) = !decide (b < a) := by rw [← decide_not]; congr 1; exact propext Int.not_lt.symm
  have e4 : decide (b ≤ a) = !decide (a < b) := by rw [← decide_not]; congr 1; exact propext Int.not_lt.symm
  cases op <;> simp only [iop, sI_eq, wr_eq, ibeq_eq, iblt_eq] at h <;> (try cases h) <;>
    first
      | exact ⟨_, by simp only [binOp, ne_eq, not_true_eq_false, if_false]; rfl, .i _ _⟩
      | exact ⟨_, by simp only [binOp, ne_eq, not_true_eq_false, if_false]; simp [Op.intCmp, e1, e2, e3, e4], .b _⟩
end
end Go.Twin
