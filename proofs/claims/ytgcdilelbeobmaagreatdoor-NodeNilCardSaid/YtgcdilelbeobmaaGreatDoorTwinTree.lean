/- A tree of values by number, made for the kernel's own reckoning, and what is found in it behind a store. -/
namespace Go.Twin

inductive Tr (α : Type) : Type where
  | leaf : Tr α
  | node (l : Tr α) (v : Option α) (r : Tr α) : Tr α

section
variable {α : Type}

noncomputable def Tr.get (t : Tr α) : Nat → Option α :=
  Tr.rec (motive := fun _ => Nat → Option α) (fun _ => none)
    (fun _ v _ gl gr i => Nat.rec (motive := fun _ => Option α) v (fun j _ => Bool.rec (motive := fun _ => Option α) (gr (Nat.div j 2)) (gl (Nat.div j 2)) (Nat.beq (Nat.mod j 2) 0)) i) t

noncomputable def Tr.mk (fuel : Nat) : Nat → Option α → Tr α :=
  Nat.rec (motive := fun _ => Nat → Option α → Tr α) (fun _ _ => .leaf)
    (fun _ ih i x => Nat.rec (motive := fun _ => Tr α) (.node .leaf x .leaf)
      (fun j _ => Bool.rec (motive := fun _ => Tr α) (.node .leaf none (ih (Nat.div j 2) x)) (.node (ih (Nat.div j 2) x) none .leaf) (Nat.beq (Nat.mod j 2) 0)) i) fuel

noncomputable def Tr.put (t : Tr α) : Nat → Option α → Tr α :=
  Tr.rec (motive := fun _ => Nat → Option α → Tr α) (fun i x => Tr.mk (Nat.succ i) i x)
    (fun l v r sl sr i x => Nat.rec (motive := fun _ => Tr α) (.node l x r)
      (fun j _ => Bool.rec (motive := fun _ => Tr α) (.node l v (sr (Nat.div j 2) x)) (.node (sl (Nat.div j 2) x) v r) (Nat.beq (Nat.mod j 2) 0)) i) t

theorem Tr.get_leaf (i : Nat) : (Tr.leaf : Tr α).get i = none := rfl
theorem Tr.get_zero (l r : Tr α) (v : Option α) : (Tr.node l v r).get 0 = v := rfl
theorem Tr.get_succ (l r : Tr α) (v : Option α) (j : Nat) : (Tr.node l v r).get (j + 1) = if j % 2 = 0 then l.get (j / 2) else r.get (j / 2) := by
  show Bool.rec (motive := fun _ => Option α) (r.get (j / 2)) (l.get (j / 2)) (Nat.beq (j % 2) 0) = _
  by_cases h : j % 2 = 0
  · rw [if_pos h, h]; rfl
  · rw [if_neg h]
    have : Nat.beq (j % 2) 0 = false := by
      have h1 : j % 2 = 1 := by omega
      rw [h1]; rfl
    rw [this]

theorem Tr.put_zero (l r : Tr α) (v x : Option α) : (Tr.node l v r).put 0 x = .node l x r := rfl
theorem Tr.put_succ (l r : Tr α) (v x : Option α) (j : Nat) : (Tr.node l v r).put (j + 1) x = if j % 2 = 0 then .node (l.put (j / 2) x) v r else .node l v (r.put (j / 2) x) := by
  show Bool.rec (motive := fun _ => Tr α) (.node l v (r.put (j / 2) x)) (.node (l.put (j / 2) x) v r) (Nat.beq (j % 2) 0) = _
  by_cases h : j % 2 = 0
  · rw [if_pos h, h]; rfl
  · rw [if_neg h]
    have : Nat.beq (j % 2) 0 = false := by
      have h1 : j % 2 = 1 := by omega
      rw [h1]; rfl
    rw [this]
theorem Tr.mk_zero (f : Nat) (x : Option α) : Tr.mk (f + 1) 0 x = .node .leaf x .leaf := rfl
theorem Tr.mk_succ (f j : Nat) (x : Option α) : Tr.mk (f + 1) (j + 1) x = if j % 2 = 0 then .node (Tr.mk f (j / 2) x) none .leaf else .node .leaf none (Tr.mk f (j / 2) x) := by
  show Bool.rec (motive := fun _ => Tr α) (.node .leaf none (Tr.mk f (j / 2) x)) (.node (Tr.mk f (j / 2) x) none .leaf) (Nat.beq (j % 2) 0) = _
  by_cases h : j % 2 = 0
  · rw [if_pos h, h]; rfl
  · rw [if_neg h]
    have : Nat.beq (j % 2) 0 = false := by
      have h1 : j % 2 = 1 := by omega
      rw [h1]; rfl
    rw [this]

theorem Tr.get_mk (x : Option α) : ∀ (f i : Nat), i < f → ∀ j, (Tr.mk f i x).get j = if j = i then x else none := by
  intro f
  induction f with
  | zero => intro i h; omega
  | succ f ih =>
    intro i hi j
    cases i with
    | zero =>
      rw [Tr.mk_zero]
      cases j with
      | zero => simp [Tr.get_zero]
      | succ j => rw [Tr.get_succ]; simp [Tr.get_leaf]
    | succ i =>
      rw [Tr.mk_succ]
      by_cases he : i % 2 = 0
      · rw [if_pos he]
        cases j with
        | zero => simp [Tr.get_zero]
        | succ j =>
          rw [Tr.get_succ, ih _ (by omega)]
          by_cases hj : j % 2 = 0
          · rw [if_pos hj]
            by_cases e : j / 2 = i / 2
            · rw [if_pos e, if_pos (by omega)]
            · rw [if_neg e, if_neg (by omega)]
          · rw [if_neg hj, Tr.get_leaf, if_neg (by omega)]
      · rw [if_neg he]
        cases j with
        | zero => simp [Tr.get_zero]
        | succ j =>
          rw [Tr.get_succ, ih _ (by omega)]
          by_cases hj : j % 2 = 0
          · rw [if_pos hj, Tr.get_leaf, if_neg (by omega)]
          · rw [if_neg hj]
            by_cases e : j / 2 = i / 2
            · rw [if_pos e, if_pos (by omega)]
            · rw [if_neg e, if_neg (by omega)]

theorem Tr.get_put (x : Option α) (t : Tr α) : ∀ (i j : Nat), (t.put i x).get j = if j = i then x else t.get j := by
  induction t with
  | leaf =>
    intro i j
    show (Tr.mk (i + 1) i x).get j = _
    rw [Tr.get_mk x _ _ (Nat.lt_succ_self i), Tr.get_leaf]
  | node l v r il ir =>
    intro i j
    cases i with
    | zero =>
      rw [Tr.put_zero]
      cases j with
      | zero => simp [Tr.get_zero]
      | succ j => rw [Tr.get_succ, Tr.get_succ, if_neg (Nat.succ_ne_zero j)]
    | succ i =>
      rw [Tr.put_succ]
      by_cases he : i % 2 = 0
      · rw [if_pos he]
        cases j with
        | zero => rw [Tr.get_zero, Tr.get_zero, if_neg (by omega)]
        | succ j =>
          rw [Tr.get_succ, Tr.get_succ, il]
          by_cases hj : j % 2 = 0
          · rw [if_pos hj, if_pos hj]
            by_cases e : j / 2 = i / 2
            · rw [if_pos e, if_pos (by omega)]
            · rw [if_neg e, if_neg (by omega)]
          · rw [if_neg hj, if_neg hj, if_neg (by omega)]
      · rw [if_neg he]
        cases j with
        | zero => rw [Tr.get_zero, Tr.get_zero, if_neg (by omega)]
        | succ j =>
          rw [Tr.get_succ, Tr.get_succ, ir]
          by_cases hj : j % 2 = 0
          · rw [if_pos hj, if_pos hj, if_neg (by omega)]
          · rw [if_neg hj, if_neg hj]
            by_cases e : j / 2 = i / 2
            · rw [if_pos e, if_pos (by omega)]
            · rw [if_neg e, if_neg (by omega)]
end
noncomputable def Tr.sk {α R : Type} (t : Tr α) (k : Tr α → R) : R := Tr.rec (motive := fun _ => R) (k .leaf) (fun l v r _ _ => k (.node l v r)) t
theorem Tr.sk_eq {α R : Type} (t : Tr α) (k : Tr α → R) : t.sk k = k t := by cases t <;> rfl
end Go.Twin
