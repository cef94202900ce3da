/- A call whose arguments lead nowhere, reckoned once: what it hands back, and the blocks that it makes, written out. -/
import Derived.Test.YtgcdilelbeobmaaGreatDoorTwinRow
namespace Go.Twin
open Go

mutual
def shV (d : Nat) : AV → AV
  | .p id o => .p (Nat.add id d) o
  | .sl id o l c x => .sl (Nat.add id d) o l c x
  | .m id => .m (Nat.add id d)
  | .fy id => .fy (Nat.add id d)
  | .f g a c => .f g (shVs d a) (shVs d c)
  | .ifc t v => .ifc t (shV d v)
  | .ag l => .ag (shVs d l)
  | .tu l => .tu (shVs d l)
  | v => v
def shVs (d : Nat) : List AV → List AV
  | [] => []
  | a :: l => shV d a :: shVs d l
end
section
variable {α : Nat → Value} {ρ ρ' : Rho} {d : Nat}
mutual
theorem VR.shift (h : ∀ id l, ρ id = some l → ρ' (id + d) = some l) : ∀ {a : AV} {v : Value}, VR α ρ a v → VR α ρ' (shV d a) v
  | _, _, .b x => .b x
  | _, _, .i k n => .i k n
  | _, _, .s l bs e => .s l bs e
  | _, _, .nilp => .nilp
  | _, _, .nils => .nils
  | _, _, .nilm => .nilm
  | _, _, .nilf => .nilf
  | _, _, .nili => .nili
  | _, _, .p id off l e => .p _ off l (h _ _ e)
  | _, _, .sl id off len cap x l o c e h1 h2 h3 h4 h5 => .sl _ off len cap x l o c (h _ _ e) h1 h2 h3 h4 h5
  | _, _, .m id l e => .m _ l (h _ _ e)
  | _, _, .f g a c a' c' h1 h2 => .f g _ _ a' c' (VRs.shift h h1) (VRs.shift h h2)
  | _, _, .fy id l e => .fy _ l (h _ _ e)
  | _, _, .ifc t v v' h1 => .ifc t _ v' (VR.shift h h1)
  | _, _, .ag l l' h1 => .ag _ l' (VRs.shift h h1)
  | _, _, .tu l l' h1 => .tu _ l' (VRs.shift h h1)
  | _, _, .atm i v e h1 => .atm i v e h1
theorem VRs.shift (h : ∀ id l, ρ id = some l → ρ' (id + d) = some l) : ∀ {a : List AV} {v : List Value}, VRs α ρ a v → VRs α ρ' (shVs d a) v
  | _, _, .nil => .nil
  | _, _, .cons a v l l' h1 h2 => .cons _ v _ l' (VR.shift h h1) (VRs.shift h h2)
end
theorem shVs_len : ∀ l : List AV, (shVs d l).length = l.length := by
  intro l
  induction l with
  | nil => rfl
  | cons a l ih => simp [shVs, ih]
theorem shVs_get : ∀ (l : List AV) (i : Nat), (shVs d l)[i]? = (l[i]?).map (shV d) := by
  intro l
  induction l with
  | nil => intro i; simp [shVs]
  | cons a l ih =>
    intro i
    cases i with
    | zero => simp [shVs]
    | succ i => simpa [shVs] using ih i
end

/-- leads nowhere -/
def flatA : AV → Bool
  | .b _ => true
  | .i _ _ => true
  | .s _ => true
  | .nilp => true
  | .nils => true
  | .nilm => true
  | .nilf => true
  | .nili => true
  | _ => false
theorem flatA_vr {α : Nat → Value} {ρ ρ' : Rho} {a : AV} {v : Value} (h : flatA a = true) (k : VR α ρ a v) : VR α ρ' a v := by
  cases k <;> first | (cases h; done) | skip
  · exact .b _
  · exact .i _ _
  · exact .s _ _ (by assumption)
  · exact .nilp
  · exact .nils
  · exact .nilm
  · exact .nilf
  · exact .nili
theorem flatAs_vr {α : Nat → Value} {ρ ρ' : Rho} : ∀ {a : List AV} {v : List Value}, a.all flatA = true → VRs α ρ a v → VRs α ρ' a v := by
  intro a
  induction a with
  | nil => intro v _ h; cases h; exact .nil
  | cons x a ih =>
    intro v h k
    simp only [List.all_cons, Bool.and_eq_true] at h
    cases k with
    | cons _ y _ l' h1 h2 => exact .cons _ _ _ _ (flatA_vr h.1 h1) (ih h.2 h2)

/-- numbers of one kind -/
def nums (k : IntKind) (l : List Nat) : List AV := l.map fun n => .i k (.ofNat n)
structure Lit where
  f : FuncId
  args : List AV
  v : AV
  /-- blocks by number, with their cells -/
  bs : List (Nat × List AV)
  cnt : Nat

noncomputable def sameCells (L : List AV) (t : Tr AV) (z : List AV) (zl n : Nat) : Nat → Bool :=
  List.rec (motive := fun _ => Nat → Bool) (fun _ => true) (fun a _ ih off => sameO (some a) (cellAt t z zl n off) && ih (Nat.succ off)) L
noncomputable def litBlk (H : AH) (x : Nat × List AV) : Bool :=
  match H.t.get x.1 with
  | some (.cells t z zl n) => Nat.beq n x.2.length && sameCells x.2 t z zl n 0
  | _ => false
/-- does a run come to what is written out? -/
noncomputable def litCk (o : Out) (L : Lit) : Bool :=
  Out.rec (motive := fun _ => Bool) (fun v _ H => sameV v L.v && Nat.ble H.next L.cnt && L.args.all flatA && L.bs.all (fun x => Nat.blt x.1 L.cnt && litBlk H x) && nodupN (L.bs.map (·.1))) (fun _ _ _ => false) (fun _ => false) o

noncomputable def litPut (d : Nat) (bs : List (Nat × List AV)) : Tr Blk → Tr Blk :=
  List.rec (motive := fun _ => Tr Blk → Tr Blk) (fun T => T) (fun x _ ih T => ih (T.put (Nat.add x.1 d) (some (.cells (listTr (shVs d x.2) .leaf 0) [] 0 (lenL x.2))))) bs
noncomputable def litS (ls : List Lit) (f : FuncId) (args : List AV) (H : AH) : Option (AV × AH) :=
  List.rec (motive := fun _ => Option (AV × AH)) none (fun L _ ih => bc (Nat.beq f L.f) (bc (sameLst sameV args L.args)
    (sN (Nat.add H.next L.cnt) fun nx => (litPut H.next L.bs H.t).sk fun T => some (shV H.next L.v, ⟨T, nx⟩)) ih) ih) ls

theorem sameCells_at {t : Tr AV} {z : List AV} {zl n : Nat} : ∀ (L : List AV) (off : Nat), sameCells L t z zl n off = true → ∀ i a, L[i]? = some a → cellAt t z zl n (off + i) = some a := by
  intro L
  induction L with
  | nil => intro off _ i a h; simp at h
  | cons x L ih =>
    intro off h i a hi
    have h' : (sameO (some x) (cellAt t z zl n off) && sameCells L t z zl n (off + 1)) = true := h
    rw [Bool.and_eq_true] at h'
    cases i with
    | zero =>
      simp at hi; subst hi
      exact (sameO_eq h'.1).symm
    | succ i =>
      have := ih (off + 1) h'.2 i a (by simpa using hi)
      rw [Nat.add_assoc, Nat.add_comm 1 i] at this
      exact this
theorem litPut_get (d : Nat) : ∀ (bs : List (Nat × List AV)) (T : Tr Blk) (j : Nat), (litPut d bs T).get j = T.get j ∧ (∀ x ∈ bs, x.1 + d ≠ j) ∨ ∃ x ∈ bs, x.1 + d = j ∧ (litPut d bs T).get j = some (.cells (listTr (shVs d x.2) .leaf 0) [] 0 x.2.length) := by
  intro bs
  induction bs with
  | nil => intro T j; exact .inl ⟨rfl, fun x h => by cases h⟩
  | cons x bs ih =>
    intro T j
    have e : litPut d (x :: bs) T = litPut d bs (T.put (x.1 + d) (some (.cells (listTr (shVs d x.2) .leaf 0) [] 0 x.2.length))) := by
      show litPut d bs (T.put (x.1 + d) (some (.cells (listTr (shVs d x.2) .leaf 0) [] 0 (lenL x.2)))) = _
      rw [lenL_eq]
    rw [e]
    rcases ih (T.put (x.1 + d) (some (.cells (listTr (shVs d x.2) .leaf 0) [] 0 x.2.length))) j with ⟨h1, h2⟩ | ⟨y, h1, h2, h3⟩
    · rw [Tr.get_put] at h1
      by_cases hj : j = x.1 + d
      · rw [if_pos hj] at h1
        exact .inr ⟨x, by simp, hj.symm, h1⟩
      · rw [if_neg hj] at h1
        refine .inl ⟨h1, fun y hy => ?_⟩
        rcases List.mem_cons.1 hy with rfl | hy
        · exact fun e => hj e.symm
        · exact h2 y hy
    · exact .inr ⟨y, by simp [h1], h2, h3⟩

theorem lit_known {E : Env} (hE : EnvOK E) {m : Nat} {L : Lit} (h : litCk (callC E m L.f L.args ⟨.leaf, 0⟩) L = true) {args : List AV} (ha : args = L.args) (H : AH) :
    Known E.P L.f args H (shV H.next L.v) ⟨litPut H.next L.bs H.t, H.next + L.cnt⟩ := by
  subst ha
  intro α ρ w args' hr hargs c rest
  unfold callC at h
  cases he : enterA E.P L.f L.args false with
  | none => rw [he] at h; cases h
  | some fr =>
    rw [he] at h
    have h' : litCk (goC E m fr .no ⟨.leaf, 0⟩) L = true := h
    cases ho : goC E m fr .no ⟨.leaf, 0⟩ with
    | bad why => rw [ho] at h'; cases h'
    | pan c rc H1 => rw [ho] at h'; cases h'
    | ret v rc H1 =>
      rw [ho] at h'
      have h2 : (sameV v L.v && Nat.ble H1.next L.cnt && L.args.all flatA && L.bs.all (fun x => Nat.blt x.1 L.cnt && litBlk H1 x) && nodupN (L.bs.map (·.1))) = true := h'
      simp only [Bool.and_eq_true] at h2
      obtain ⟨⟨⟨⟨c1, c2⟩, c3⟩, c4⟩, c5⟩ := h2
      have hv := sameV_eq c1
      subst hv
      have hnx := Nat.le_of_ble_eq_true c2
      have hargs0 : VRs α (fun _ => none) L.args args'.toList := flatAs_vr c3 hargs
      have hrel0 := rel_leaf α w 0
      have hfr := enterA_fr (d := false) hargs0 he
      have hres := goC_sound (α := α) hE m fr .no ⟨.leaf, 0⟩ _ w (c :: rest) (fun _ => none) hrel0 hfr (by rfl)
      rw [ho] at hres
      obtain ⟨v', w', ρ0, cs', g1, g2, g3, g4, _⟩ := hres
      obtain ⟨_, rfl⟩ := g3.no
      have g5 := g4 c rest rfl
      refine ⟨v', w', fun id => if id < H.next then ρ id else ρ0 (id - H.next), g5, ?_, ?_⟩
      · have hle : ρ.le (fun id => if id < H.next then ρ id else ρ0 (id - H.next)) := by
          intro id l e
          by_cases hid : id < H.next
          · show (if id < H.next then ρ id else ρ0 (id - H.next)) = some l
            rw [if_pos hid]; exact e
          · rw [hr.fresh id (by omega)] at e; cases e
        have hsh : ∀ id l, ρ0 id = some l → (fun id => if id < H.next then ρ id else ρ0 (id - H.next)) (id + H.next) = some l := by
          intro id l e
          simp only
          rw [if_neg (by omega), Nat.add_sub_cancel]; exact e
        have hkeep : ∀ b, b < w.heap.size → w'.heap[b]? = w.heap[b]? := fun b hb => g1.keep b hb fun _ _ _ e _ => by cases e
        have hnew : ∀ id B l, H1.t.get id = some B → ρ0 id = some l → w.heap.size ≤ l.b := by
          intro id B l e1 e2
          by_cases hlt : l.b < w.heap.size
          · obtain ⟨id0, B0, l0, f1, _⟩ := g1.orig id B l e1 e2 hlt
            cases f1
          · omega
        have hold : ∀ id B l, H.t.get id = some B → ρ id = some l → l.b < w.heap.size := by
          intro id B l e1 e2
          obtain ⟨l', o', f1, f2, _⟩ := hr.blk id B e1
          rw [e2] at f1; cases f1
          exact (Array.getElem?_eq_some_iff.1 f2).1
        have hidlt : ∀ id B, H.t.get id = some B → id < H.next := by
          intro id B e
          obtain ⟨l, o, f1, _⟩ := hr.blk id B e
          by_cases hid : id < H.next
          · exact hid
          · rw [hr.fresh id (by omega)] at f1; cases f1
        have hbs : ∀ x ∈ L.bs, x.1 < L.cnt ∧ ∃ t z zl n, H1.t.get x.1 = some (.cells t z zl n) ∧ n = x.2.length ∧ ∀ i a, x.2[i]? = some a → cellAt t z zl n i = some a := by
          intro x hx
          have := List.all_eq_true.1 c4 x hx
          rw [Bool.and_eq_true] at this
          obtain ⟨k1, k2⟩ := this
          refine ⟨blt_lt k1, ?_⟩
          unfold litBlk at k2
          split at k2
          · rename_i t z zl n hg
            rw [Bool.and_eq_true] at k2
            refine ⟨t, z, zl, n, hg, Nat.eq_of_beq_eq_true k2.1, fun i a hi => ?_⟩
            have := sameCells_at _ _ k2.2 i a hi
            rwa [Nat.zero_add] at this
          · cases k2
        -- each block, where it lies
        have hwhere : ∀ id B, (litPut H.next L.bs H.t).get id = some B → (H.t.get id = some B ∧ id < H.next) ∨ ∃ x ∈ L.bs, x.1 + H.next = id ∧ B = .cells (listTr (shVs H.next x.2) .leaf 0) [] 0 x.2.length := by
          intro id B e
          rcases litPut_get H.next L.bs H.t id with ⟨k1, _⟩ | ⟨x, k1, k2, k3⟩
          · rw [k1] at e; exact .inl ⟨e, hidlt _ _ e⟩
          · rw [k3] at e; cases e
            exact .inr ⟨x, k1, k2, rfl⟩
        refine ⟨⟨?_, ?_, ?_⟩, hle, g1.size, g1.os, g1.tape, g1.output, fun b hb _ => hkeep b hb, ?_⟩
        · intro id B e
          rcases hwhere id B e with ⟨k1, k2⟩ | ⟨x, k1, k2, k3⟩
          · obtain ⟨l, o, f1, f2, f3⟩ := hr.blk id B k1
            refine ⟨l, o, hle _ _ f1, ?_, f3.mono hle⟩
            rw [hkeep l.b (hold _ _ _ k1 f1)]; exact f2
          · obtain ⟨_, t, z, zl, n, q1, q2, q3⟩ := hbs x k1
            obtain ⟨l, o, f1, f2, f3⟩ := g1.rel.blk x.1 _ q1
            refine ⟨l, o, by rw [← k2]; exact hsh _ _ f1, f2, ?_⟩
            subst k3
            cases f3 with
            | cells _ _ _ _ cc e fz b sh N h1 h2 h3 h4 =>
              refine .cells _ _ _ _ _ _ _ _ _ _ (fun off a ha => ?_) h2 (by omega) h4
              have hlt := cellAt_lt ha
              have ha' : (x.2[off]?).map (shV H.next) = some a := by
                unfold cellAt at ha
                rw [listTr_get] at ha
                rw [show Nat.blt off x.2.length = true from Nat.ble_eq_true_of_le hlt, bc_eq, if_pos rfl] at ha
                have hl2 : (shVs H.next x.2).length = x.2.length := shVs_len _
                rw [if_pos (by omega), Nat.sub_zero, shVs_get, List.getElem?_eq_getElem hlt] at ha
                rw [List.getElem?_eq_getElem hlt]; exact ha
              rw [List.getElem?_eq_getElem hlt] at ha'
              simp only [Option.map_some, Option.some.injEq] at ha'
              subst ha'
              obtain ⟨u, u1, u2⟩ := h1 off _ (q3 off _ (List.getElem?_eq_getElem hlt))
              exact ⟨u, u1, u2.shift hsh⟩
        · intro i j Bi Bj li lj e1 e2 f1 f2 e
          try simp only at f1 f2
          rcases hwhere i Bi e1 with ⟨k1, k2⟩ | ⟨x, k1, k2, k3⟩ <;> rcases hwhere j Bj e2 with ⟨m1, m2⟩ | ⟨y, m1, m2, m3⟩
          · rw [if_pos k2] at f1; rw [if_pos m2] at f2
            exact hr.inj i j Bi Bj li lj k1 m1 f1 f2 e
          · rw [if_pos k2] at f1
            rw [if_neg (by omega)] at f2
            obtain ⟨_, t, z, zl, n, q1, _⟩ := hbs y m1
            have hj : j - H.next = y.1 := by omega
            rw [hj] at f2
            have := hnew _ _ _ q1 f2
            have := hold _ _ _ k1 f1
            omega
          · rw [if_neg (by omega)] at f1
            rw [if_pos m2] at f2
            obtain ⟨_, t, z, zl, n, q1, _⟩ := hbs x k1
            have hi : i - H.next = x.1 := by omega
            rw [hi] at f1
            have := hnew _ _ _ q1 f1
            have := hold _ _ _ m1 f2
            omega
          · rw [if_neg (by omega)] at f1
            rw [if_neg (by omega)] at f2
            obtain ⟨_, t, z, zl, n, q1, _⟩ := hbs x k1
            obtain ⟨_, t', z', zl', n', q1', _⟩ := hbs y m1
            have hi : i - H.next = x.1 := by omega
            have hj : j - H.next = y.1 := by omega
            rw [hi] at f1; rw [hj] at f2
            have := g1.rel.inj _ _ _ _ _ _ q1 q1' f1 f2 e
            omega
        · intro id hid
          have hid' : H.next + L.cnt ≤ id := hid
          try simp only
          rw [if_neg (by omega)]
          exact g1.rel.fresh _ (by omega)
        · intro id B l e1 e2 e3
          try simp only at e2
          rcases hwhere id B e1 with ⟨k1, k2⟩ | ⟨x, k1, k2, k3⟩
          · rw [if_pos k2] at e2
            exact ⟨id, B, l, k1, e2, rfl⟩
          · rw [if_neg (by omega)] at e2
            obtain ⟨_, t, z, zl, n, q1, _⟩ := hbs x k1
            have hi : id - H.next = x.1 := by omega
            rw [hi] at e2
            have := hnew _ _ _ q1 e2
            omega
      · refine g2.shift ?_
        intro id l e
        try simp only
        rw [if_neg (by omega), Nat.add_sub_cancel]; exact e

noncomputable def envL (P : Program) (ls : List Lit) : Env := ⟨P, litS ls⟩
/-- each of them reckoned by what is known of the ones behind it -/
def LitOK (P : Program) : List Lit → Prop
  | [] => True
  | L :: ls => LitOK P ls ∧ ∃ m, litCk (callC (envL P ls) m L.f L.args ⟨.leaf, 0⟩) L = true
theorem envL_ok {P : Program} (hm : P.follows .mixedOrders = true) : ∀ {ls : List Lit}, LitOK P ls → EnvOK (envL P ls) := by
  intro ls
  induction ls with
  | nil => intro _; exact ⟨fun _ _ _ _ _ h => (by cases h), hm⟩
  | cons L ls ih =>
    intro ⟨h1, m, h2⟩
    have hE := ih h1
    refine ⟨fun f args H v H' h => ?_, hm⟩
    have h' : bc (Nat.beq f L.f) (bc (sameLst sameV args L.args) (sN (Nat.add H.next L.cnt) fun nx => (litPut H.next L.bs H.t).sk fun T => some (shV H.next L.v, (⟨T, nx⟩ : AH))) (litS ls f args H)) (litS ls f args H) = some (v, H') := h
    rw [bc_eq] at h'
    split at h'
    · rename_i hf
      rw [bc_eq] at h'
      split at h'
      · rename_i ha
        rw [sN_eq, Tr.sk_eq] at h'
        cases h'
        cases Nat.eq_of_beq_eq_true hf
        exact lit_known hE h2 (sameLst_eq (fun a b => sameV_eq) ha) H
      · exact hE.S f args H v H' h'
    · exact hE.S f args H v H' h'
theorem litOK_cons {P : Program} {L : Lit} {ls : List Lit} (h : LitOK P ls) (m : Nat) (k : litCk (callC (envL P ls) m L.f L.args ⟨.leaf, 0⟩) L = true) : LitOK P (L :: ls) := ⟨h, m, k⟩
end Go.Twin
