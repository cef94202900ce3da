/- How abstract values and memory stand for the model's. -/
import Derived.Test.YtgcdilelbeobmaaGreatDoorTwinRun
import Derived.Defers
namespace Go.Twin
open Go

structure Loc where
  b : Nat
  sh : Nat
  N : Nat
abbrev Rho := Nat → Option Loc
def Rho.le (ρ ρ' : Rho) : Prop := ∀ id l, ρ id = some l → ρ' id = some l
theorem Rho.le.refl (ρ : Rho) : ρ.le ρ := fun _ _ h => h
theorem Rho.le.trans {a b c : Rho} (h : a.le b) (k : b.le c) : a.le c := fun id l e => k id l (h id l e)

/-- a value that stands in one cell -/
def oneCell : Value → Prop
  | .agg _ => False
  | .tuple _ => False
  | _ => True

mutual
inductive VR (α : Nat → Value) (ρ : Rho) : AV → Value → Prop
  | b (x : Bool) : VR α ρ (.b x) (.bool x)
  | i (k : IntKind) (n : Int) : VR α ρ (.i k n) (.int k n)
  | s (l : List Nat) (bs : ByteArray) : strOf bs = l → VR α ρ (.s l) (.string bs)
  | nilp : VR α ρ .nilp (.pointer none)
  | nils : VR α ρ .nils (.slice none 0 0)
  | nilm : VR α ρ .nilm (.map none)
  | nilf : VR α ρ .nilf .nilFunc
  | nili : VR α ρ .nili .nilIface
  | p (id off : Nat) (l : Loc) : ρ id = some l → VR α ρ (.p id off) (.pointer (some ⟨l.b, off + l.sh, none⟩))
  | sl (id off len cap x : Nat) (l : Loc) (o cap' : Nat) : ρ id = some l → len ≤ cap → cap ≤ cap' → (x = 0 → cap' = cap) → (o = off + l.sh ∨ cap' = 0) → (x = 0 ∨ cap' = 0 ∨ o + cap' * x = l.N) →
      VR α ρ (.sl id off len cap x) (.slice (some ⟨l.b, o, none⟩) len cap')
  | m (id : Nat) (l : Loc) : ρ id = some l → VR α ρ (.m id) (.map (some l.b))
  | f (g : FuncId) (a c : List AV) (a' c' : List Value) : VRs α ρ a a' → VRs α ρ c c' → VR α ρ (.f (.func g) a c) (.func (.func g) ⟨a'⟩ ⟨c'⟩)
  | fy (id : Nat) (l : Loc) : ρ id = some l → VR α ρ (.fy id) (.func (.yield l.b) ⟨[]⟩ ⟨[]⟩)
  | ifc (t : TypeId) (v : AV) (v' : Value) : VR α ρ v v' → VR α ρ (.ifc t v) (.iface t v')
  | ag (l : List AV) (l' : List Value) : VRs α ρ l l' → VR α ρ (.ag l) (.agg ⟨l'⟩)
  | tu (l : List AV) (l' : List Value) : VRs α ρ l l' → VR α ρ (.tu l) (.tuple ⟨l'⟩)
  | atm (i : Nat) (v : Value) : (i < 1000000 → α i = v) → oneCell v → VR α ρ (.atm i) v
inductive VRs (α : Nat → Value) (ρ : Rho) : List AV → List Value → Prop
  | nil : VRs α ρ [] []
  | cons (a : AV) (v : Value) (l : List AV) (l' : List Value) : VR α ρ a v → VRs α ρ l l' → VRs α ρ (a :: l) (v :: l')
end

section
variable {α : Nat → Value} {ρ ρ' : Rho}

mutual
theorem VR.mono (h : ρ.le ρ') : ∀ {a : AV} {v : Value}, VR α ρ a v → VR α ρ' a v
  | _, _, .b x => .b x
  | _, _, .i k n => .i k n
  | _, _, .s l bs e => .s l bs e
  | _, _, .nilp => .nilp
  | _, _, .nils => .nils
  | _, _, .nilm => .nilm
  | _, _, .nilf => .nilf
  | _, _, .nili => .nili
  | _, _, .p id off l e => .p id off l (h _ _ e)
  | _, _, .sl id off len cap x l o c e h1 h2 h3 h4 h5 => .sl id off len cap x l o c (h _ _ e) h1 h2 h3 h4 h5
  | _, _, .m id l e => .m id l (h _ _ e)
  | _, _, .f g a c a' c' h1 h2 => .f g a c a' c' (VRs.mono h h1) (VRs.mono h h2)
  | _, _, .fy id l e => .fy id l (h _ _ e)
  | _, _, .ifc t v v' h1 => .ifc t v v' (VR.mono h h1)
  | _, _, .ag l l' h1 => .ag l l' (VRs.mono h h1)
  | _, _, .tu l l' h1 => .tu l l' (VRs.mono h h1)
  | _, _, .atm i v e h1 => .atm i v e h1
theorem VRs.mono (h : ρ.le ρ') : ∀ {a : List AV} {v : List Value}, VRs α ρ a v → VRs α ρ' a v
  | _, _, .nil => .nil
  | _, _, .cons a v l l' h1 h2 => .cons a v l l' (VR.mono h h1) (VRs.mono h h2)
end

theorem VRs.length {a : List AV} {v : List Value} (h : VRs α ρ a v) : a.length = v.length := by
  induction a generalizing v with
  | nil => cases h; rfl
  | cons x a ih => cases h with | cons _ y _ l' h1 h2 => simp [ih h2]
theorem VRs.get {a : List AV} {v : List Value} (h : VRs α ρ a v) : ∀ {i : Nat} {x : AV}, a[i]? = some x → ∃ y, v[i]? = some y ∧ VR α ρ x y := by
  induction a generalizing v with
  | nil => intro i x hx; simp at hx
  | cons x0 a ih =>
    cases h with
    | cons _ y _ l' h1 h2 =>
      intro i x hx
      cases i with
      | zero => simp at hx; subst hx; exact ⟨y, by simp, h1⟩
      | succ i => simp at hx; obtain ⟨y', e, r⟩ := ih h2 hx; exact ⟨y', by simpa using e, r⟩
theorem VRs.append {a b : List AV} {v u : List Value} (h : VRs α ρ a v) (k : VRs α ρ b u) : VRs α ρ (a ++ b) (v ++ u) := by
  induction a generalizing v with
  | nil => cases h; exact k
  | cons x a ih => cases h with | cons _ y _ l' h1 h2 => exact .cons _ _ _ _ h1 (ih h2)
theorem VRs.drop {a : List AV} {v : List Value} (h : VRs α ρ a v) : ∀ n, VRs α ρ (a.drop n) (v.drop n) := by
  induction a generalizing v with
  | nil => cases h; intro n; simpa using VRs.nil
  | cons x a ih =>
    cases h with
    | cons _ y _ l' h1 h2 =>
      intro n
      cases n with
      | zero => exact .cons _ _ _ _ h1 h2
      | succ n => simpa using ih h2 n
theorem VRs.take {a : List AV} {v : List Value} (h : VRs α ρ a v) : ∀ n, VRs α ρ (a.take n) (v.take n) := by
  induction a generalizing v with
  | nil => cases h; intro n; simpa using VRs.nil
  | cons x a ih =>
    cases h with
    | cons _ y _ l' h1 h2 =>
      intro n
      cases n with
      | zero => simpa using VRs.nil
      | succ n => simpa using VRs.cons _ _ _ _ h1 (ih h2 n)

/-- the cells of a value -/
theorem VR.cells {a : AV} {v : Value} (h : VR α ρ a v) : VRs α ρ (cellsOf a) v.cells.toList := by
  cases h with
  | ag l l' h1 => exact h1
  | atm i v e h1 => cases v <;> simp [oneCell] at h1 <;> exact .cons _ _ _ _ (.atm i _ e (by simp [oneCell])) .nil
  | b x => exact .cons _ _ _ _ (.b x) .nil
  | i k n => exact .cons _ _ _ _ (.i k n) .nil
  | s l bs e => exact .cons _ _ _ _ (.s l bs e) .nil
  | nilp => exact .cons _ _ _ _ .nilp .nil
  | nils => exact .cons _ _ _ _ .nils .nil
  | nilm => exact .cons _ _ _ _ .nilm .nil
  | nilf => exact .cons _ _ _ _ .nilf .nil
  | nili => exact .cons _ _ _ _ .nili .nil
  | p id off l e => exact .cons _ _ _ _ (.p id off l e) .nil
  | sl id off len cap x l o c e h1 h2 h3 h4 h5 => exact .cons _ _ _ _ (.sl id off len cap x l o c e h1 h2 h3 h4 h5) .nil
  | m id l e => exact .cons _ _ _ _ (.m id l e) .nil
  | f g a c a' c' h1 h2 => exact .cons _ _ _ _ (.f g a c a' c' h1 h2) .nil
  | fy id l e => exact .cons _ _ _ _ (.fy id l e) .nil
  | ifc t v v' h1 => exact .cons _ _ _ _ (.ifc t v v' h1) .nil
  | tu l l' h1 => exact .cons _ _ _ _ (.tu l l' h1) .nil
/-- what may stand in one cell is no aggregate and no tuple -/
theorem VR.one {a : AV} {v : Value} (h : VR α ρ a v) (h1 : one1 a = true) : oneCell v := by
  cases h <;> simp_all [one1, oneCell]
end

/-! ## Memory -/
/-- the slots of a frame -/
def TR (α : Nat → Value) (ρ : Rho) (T : Tr AV) (n : Nat) (tmps : Array Value) : Prop :=
  tmps.size = n ∧ ∀ t a, T.get t = some a → VR α ρ a (tmps.getD t undef)
/-- a deferred call -/
def DR (α : Nat → Value) (ρ : Rho) (f : FuncId) (args : List AV) (d : Deferred) : Prop :=
  ∃ cap : Array Value, d.target = .fn (.func f) cap ∧ VRs α ρ args (d.args.toList ++ cap.toList)
inductive CRs (α : Nat → Value) (ρ : Rho) : List (FuncId × List AV) → List Deferred → Prop
  | nil : CRs α ρ [] []
  | cons (f : FuncId) (args : List AV) (d : Deferred) (l : List (FuncId × List AV)) (l' : List Deferred) : DR α ρ f args d → CRs α ρ l l' → CRs α ρ ((f, args) :: l) (d :: l')
/-- a map's entries -/
inductive ERs (α : Nat → Value) (ρ : Rho) : List (AV × AV × Nat) → List MapEntry → Prop
  | nil : ERs α ρ [] []
  | cons (k v : AV) (n : Nat) (k' v' : Value) (l : List (AV × AV × Nat)) (l' : List MapEntry) : VR α ρ k k' → VR α ρ v v' → ERs α ρ l l' → ERs α ρ ((k, v, n) :: l) (⟨k', v', n⟩ :: l')

inductive BR (α : Nat → Value) (ρ : Rho) : Blk → Obj → Loc → Prop
  | cells (t : Tr AV) (z : List AV) (zl n : Nat) (c : Array Value) (e : TypeId) (fz : Nat × Nat) (b sh N : Nat) :
      (∀ off a, cellAt t z zl n off = some a → ∃ v, c[off + sh]? = some v ∧ VR α ρ a v) → c.size = N → n + sh ≤ N → (∀ j, j < N → ¬ (fz.1 ≤ j ∧ j < fz.2)) →
      BR α ρ (.cells t z zl n) (.cells c e fz) ⟨b, sh, N⟩
  | map (es : List (AV × AV × Nat)) (es' : List MapEntry) (clock : Nat) (l : Loc) : ERs α ρ es es' → BR α ρ (.map es clock) (.map ⟨es'⟩ clock) l
  | iter0 (since : Nat) (seen : List Nat) (st : Nat) (l : Loc) : l.sh = 0 → BR α ρ (.mapIter none since seen st) (.mapIter none since ⟨seen⟩ st) l
  | iter (id : Nat) (lm : Loc) (since : Nat) (seen : List Nat) (st : Nat) (l : Loc) : ρ id = some lm → l.sh = 0 → BR α ρ (.mapIter (some id) since seen st) (.mapIter (some lm.b) since ⟨seen⟩ st) l
  | loop (st : LoopState) (pe : Option Code) (fn : FuncId) (T : Tr AV) (n : Nat) (tmps : Array Value) (ps : Array Tmp) (a b : Code) (d : Nat) (ld : Loc) (l : Loc) :
      TR α ρ T n tmps → ρ d = some ld → BR α ρ (.loop st pe fn T n ps a b d) (.loop { state := st, pending := pe, fn := fn, tmps := tmps, params := ps, assign := a, body := b, defers := ld.b }) l
  | def0 (l : Loc) : BR α ρ (.deferred none) (.deferred none) l
  | def1 (cs : List (FuncId × List AV)) (ds : List Deferred) (l : Loc) : CRs α ρ cs ds → BR α ρ (.deferred (some cs)) (.deferred (some ds)) l

section
variable {α : Nat → Value} {ρ ρ' : Rho}
theorem TR.mono (h : ρ.le ρ') {T : Tr AV} {n : Nat} {tmps : Array Value} (k : TR α ρ T n tmps) : TR α ρ' T n tmps := ⟨k.1, fun t a e => (k.2 t a e).mono h⟩
theorem DR.mono (h : ρ.le ρ') {f : FuncId} {args : List AV} {d : Deferred} (k : DR α ρ f args d) : DR α ρ' f args d := let ⟨c, e, r⟩ := k; ⟨c, e, r.mono h⟩
theorem CRs.mono (h : ρ.le ρ') : ∀ {l : List (FuncId × List AV)} {l' : List Deferred}, CRs α ρ l l' → CRs α ρ' l l'
  | _, _, .nil => .nil
  | _, _, .cons f a d l l' h1 h2 => .cons f a d l l' (h1.mono h) (CRs.mono h h2)
theorem ERs.mono (h : ρ.le ρ') : ∀ {l : List (AV × AV × Nat)} {l' : List MapEntry}, ERs α ρ l l' → ERs α ρ' l l'
  | _, _, .nil => .nil
  | _, _, .cons k v n k' v' l l' h1 h2 h3 => .cons k v n k' v' l l' (h1.mono h) (h2.mono h) (ERs.mono h h3)
theorem BR.mono (h : ρ.le ρ') {B : Blk} {o : Obj} {l : Loc} (k : BR α ρ B o l) : BR α ρ' B o l := by
  cases k with
  | cells t z zl n c e fz b sh N h1 h2 h3 h4 => exact .cells t z zl n c e fz b sh N (fun off a ha => let ⟨v, e, r⟩ := h1 off a ha; ⟨v, e, r.mono h⟩) h2 h3 h4
  | map es es' clock l h1 => exact .map es es' clock l (h1.mono h)
  | iter0 since seen st l h0 => exact .iter0 since seen st l h0
  | iter id lm since seen st l h1 h0 => exact .iter id lm since seen st l (h _ _ h1) h0
  | loop st pe fn T n tmps ps a b d ld l h1 h2 => exact .loop st pe fn T n tmps ps a b d ld l (h1.mono h) (h _ _ h2)
  | def0 l => exact .def0 l
  | def1 cs ds l h1 => exact .def1 cs ds l (h1.mono h)
end

structure Rel (α : Nat → Value) (ρ : Rho) (H : AH) (w : World) : Prop where
  blk : ∀ id B, H.t.get id = some B → ∃ l o, ρ id = some l ∧ w.heap[l.b]? = some o ∧ BR α ρ B o l
  inj : ∀ i j Bi Bj li lj, H.t.get i = some Bi → H.t.get j = some Bj → ρ i = some li → ρ j = some lj → li.b = lj.b → i = j
  fresh : ∀ id, H.next ≤ id → ρ id = none

structure Ev (α : Nat → Value) (ρ : Rho) (H : AH) (w : World) (ρ' : Rho) (H' : AH) (w' : World) : Prop where
  rel : Rel α ρ' H' w'
  ext : ρ.le ρ'
  size : w.heap.size ≤ w'.heap.size
  os : w'.os = w.os
  tape : w'.tape = w.tape
  output : w'.output = w.output
  keep : ∀ b, b < w.heap.size → (∀ id B l, H.t.get id = some B → ρ id = some l → l.b ≠ b) → w'.heap[b]? = w.heap[b]?
  orig : ∀ id B l, H'.t.get id = some B → ρ' id = some l → l.b < w.heap.size → ∃ id0 B0 l0, H.t.get id0 = some B0 ∧ ρ id0 = some l0 ∧ l0.b = l.b

section
variable {α : Nat → Value} {ρ ρ' ρ'' : Rho} {H H' H'' : AH} {w w' w'' : World}
theorem Ev.refl (h : Rel α ρ H w) : Ev α ρ H w ρ H w :=
  ⟨h, .refl ρ, Nat.le_refl _, rfl, rfl, rfl, fun _ _ _ => rfl, fun id B l e1 e2 _ => ⟨id, B, l, e1, e2, rfl⟩⟩
theorem Ev.trans (h : Ev α ρ H w ρ' H' w') (k : Ev α ρ' H' w' ρ'' H'' w'') : Ev α ρ H w ρ'' H'' w'' := by
  refine ⟨k.rel, h.ext.trans k.ext, Nat.le_trans h.size k.size, k.os.trans h.os, k.tape.trans h.tape, k.output.trans h.output, ?_, ?_⟩
  · intro b hb hn
    rw [k.keep b (Nat.lt_of_lt_of_le hb h.size) ?_, h.keep b hb hn]
    intro id B l e1 e2 e3
    obtain ⟨id0, B0, l0, f1, f2, f3⟩ := h.orig id B l e1 e2 (by omega)
    exact hn id0 B0 l0 f1 f2 (f3.trans e3)
  · intro id B l e1 e2 e3
    obtain ⟨id1, B1, l1, f1, f2, f3⟩ := k.orig id B l e1 e2 (Nat.lt_of_lt_of_le e3 h.size)
    obtain ⟨id0, B0, l0, g1, g2, g3⟩ := h.orig id1 B1 l1 f1 f2 (by omega)
    exact ⟨id0, B0, l0, g1, g2, g3.trans f3⟩
theorem Rel.drew (h : Rel α ρ H w) (n : Nat) : Rel α ρ H { w with drawn := n } := ⟨h.blk, h.inj, h.fresh⟩
theorem Ev.drew (h : Rel α ρ H w) (n : Nat) : Ev α ρ H w ρ H { w with drawn := n } :=
  ⟨h.drew n, .refl ρ, Nat.le_refl _, rfl, rfl, rfl, fun _ _ _ => rfl, fun id B l e1 e2 _ => ⟨id, B, l, e1, e2, rfl⟩⟩

def upd (ρ : Rho) (id : Nat) (l : Loc) : Rho := fun j => if j = id then some l else ρ j
theorem upd_le {id : Nat} {l : Loc} (h : ρ id = none) : ρ.le (upd ρ id l) := by
  intro j l' e
  unfold upd
  rw [if_neg (by rintro rfl; rw [h] at e; cases e)]
  exact e
theorem upd_self (ρ : Rho) (id : Nat) (l : Loc) : upd ρ id l id = some l := by simp [upd]

/-- A new block of the model, and a new block here. -/
theorem Ev.new (h : Rel α ρ H w) (B : Blk) (o : Obj) (N : Nat) (hb : BR α (upd ρ H.next ⟨w.heap.size, 0, N⟩) B o ⟨w.heap.size, 0, N⟩) :
    Ev α ρ H w (upd ρ H.next ⟨w.heap.size, 0, N⟩) ⟨H.t.put H.next (some B), H.next + 1⟩ { w with heap := w.heap.push o } := by
  have hf := h.fresh H.next (Nat.le_refl _)
  have hle : ρ.le (upd ρ H.next ⟨w.heap.size, 0, N⟩) := upd_le hf
  have hlt : ∀ id B l, H.t.get id = some B → ρ id = some l → l.b < w.heap.size := by
    intro id B l e1 e2
    obtain ⟨l', o', f1, f2, _⟩ := h.blk id B e1
    rw [e2] at f1; cases f1
    exact (Array.getElem?_eq_some_iff.1 f2).1
  have hold : ∀ id B, H.t.get id = some B → id ≠ H.next := by
    intro id B e1 e
    obtain ⟨l', o', f1, f2, _⟩ := h.blk id B e1
    rw [e, hf] at f1; cases f1
  refine ⟨⟨?_, ?_, ?_⟩, hle, by simp, rfl, rfl, rfl, ?_, ?_⟩
  · intro id B' e
    simp only [Tr.get_put] at e
    by_cases hid : id = H.next
    · rw [if_pos hid] at e; cases e
      exact ⟨_, o, by rw [hid]; exact upd_self _ _ _, by simp, hb⟩
    · rw [if_neg hid] at e
      obtain ⟨l, o', f1, f2, f3⟩ := h.blk id B' e
      refine ⟨l, o', hle _ _ f1, ?_, f3.mono hle⟩
      have := hlt id B' l e f1
      simp only [Array.getElem?_push]
      rw [if_neg (by omega)]; exact f2
  · intro i j Bi Bj li lj e1 e2 f1 f2 e
    simp only [Tr.get_put] at e1 e2
    unfold upd at f1 f2
    by_cases hi : i = H.next <;> by_cases hj : j = H.next
    · rw [hi, hj]
    · rw [if_pos hi] at f1; rw [if_neg hj] at f2 e2; cases f1
      have := hlt j Bj lj e2 f2
      simp at e; omega
    · rw [if_neg hi] at f1 e1; rw [if_pos hj] at f2; cases f2
      have := hlt i Bi li e1 f1
      simp at e; omega
    · rw [if_neg hi] at f1 e1; rw [if_neg hj] at f2 e2
      exact h.inj i j Bi Bj li lj e1 e2 f1 f2 e
  · intro id hid
    simp only at hid
    unfold upd
    rw [if_neg (by omega)]
    exact h.fresh id (by omega)
  · intro b hb _
    simp only [Array.getElem?_push]
    rw [if_neg (by omega)]
  · intro id B' l e1 e2 e3
    simp only [Tr.get_put] at e1
    unfold upd at e2
    by_cases hid : id = H.next
    · rw [if_pos hid] at e2; cases e2; simp at e3
    · rw [if_neg hid] at e1 e2
      exact ⟨id, B', l, e1, e2, rfl⟩

/-- A block turned in its place. -/
theorem Ev.turn (h : Rel α ρ H w) {id : Nat} {B B' : Blk} {l : Loc} {o' : Obj} (hB : H.t.get id = some B) (hl : ρ id = some l) (hw : w'.heap.size = w.heap.size)
    (ho : w'.heap[l.b]? = some o') (hne : ∀ b, b ≠ l.b → w'.heap[b]? = w.heap[b]?) (hos : w'.os = w.os) (ht : w'.tape = w.tape) (hout : w'.output = w.output)
    (hb : BR α ρ B' o' l) : Ev α ρ H w ρ (H.set id B') w' := by
  refine ⟨⟨?_, ?_, h.fresh⟩, .refl ρ, by omega, hos, ht, hout, ?_, ?_⟩
  · intro j Bj e
    simp only [AH.set, Tr.get_put] at e
    by_cases hj : j = id
    · rw [if_pos hj] at e; cases e
      exact ⟨l, o', by rw [hj]; exact hl, ho, hb⟩
    · rw [if_neg hj] at e
      obtain ⟨lj, oj, f1, f2, f3⟩ := h.blk j Bj e
      refine ⟨lj, oj, f1, ?_, f3⟩
      rw [hne _ (fun e' => hj (h.inj j id Bj B lj l e hB f1 hl e'))]
      exact f2
  · intro i j Bi Bj li lj e1 e2 f1 f2 e
    simp only [AH.set, Tr.get_put] at e1 e2
    have g1 : ∃ B1, H.t.get i = some B1 := by
      by_cases hi : i = id
      · exact ⟨B, hi ▸ hB⟩
      · rw [if_neg hi] at e1; exact ⟨_, e1⟩
    have g2 : ∃ B1, H.t.get j = some B1 := by
      by_cases hj : j = id
      · exact ⟨B, hj ▸ hB⟩
      · rw [if_neg hj] at e2; exact ⟨_, e2⟩
    obtain ⟨B1, g1⟩ := g1
    obtain ⟨B2, g2⟩ := g2
    exact h.inj i j B1 B2 li lj g1 g2 f1 f2 e
  · intro b _ hn
    exact hne b (fun e => hn id B l hB hl e.symm)
  · intro j Bj lj e1 e2 _
    simp only [AH.set, Tr.get_put] at e1
    by_cases hj : j = id
    · exact ⟨id, B, lj, hB, hj ▸ e2, rfl⟩
    · rw [if_neg hj] at e1; exact ⟨j, Bj, lj, e1, e2, rfl⟩
/-- A block forgotten. -/
theorem Ev.drop (h : Rel α ρ H w) (id : Nat) : Ev α ρ H w ρ (H.drop id) w := by
  refine ⟨⟨?_, ?_, h.fresh⟩, .refl ρ, Nat.le_refl _, rfl, rfl, rfl, fun _ _ _ => rfl, ?_⟩
  · intro j Bj e
    simp only [AH.drop, Tr.get_put] at e
    by_cases hj : j = id
    · rw [if_pos hj] at e; cases e
    · rw [if_neg hj] at e; exact h.blk j Bj e
  · intro i j Bi Bj li lj e1 e2 f1 f2 e
    simp only [AH.drop, Tr.get_put] at e1 e2
    by_cases hi : i = id
    · rw [if_pos hi] at e1; cases e1
    by_cases hj : j = id
    · rw [if_pos hj] at e2; cases e2
    rw [if_neg hi] at e1; rw [if_neg hj] at e2
    exact h.inj i j Bi Bj li lj e1 e2 f1 f2 e
  · intro j Bj lj e1 e2 _
    simp only [AH.drop, Tr.get_put] at e1
    by_cases hj : j = id
    · rw [if_pos hj] at e1; cases e1
    · rw [if_neg hj] at e1; exact ⟨j, Bj, lj, e1, e2, rfl⟩
end
end Go.Twin
