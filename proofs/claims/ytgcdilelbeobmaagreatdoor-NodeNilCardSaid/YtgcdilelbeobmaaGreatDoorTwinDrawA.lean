/- A region that draws its order, run in the order of the text: what each operation came to. -/
import Derived.Test.YtgcdilelbeobmaaGreatDoorTwinMachC
import Derived.Test.YtgcdilelbeobmaaGreatDoorTwinLoc
namespace Go.Twin
open Go

noncomputable def putT (T : Tr AV) (d : Option Nat) (v : AV) : Tr AV :=
  match d with
  | none => T
  | some t => T.put t (some v)
theorem putT_get (T : Tr AV) (d : Option Nat) (v : AV) (t : Nat) : (putT T d v).get t = if d = some t then some v else T.get t := by
  cases d with
  | none => simp [putT]
  | some u =>
    simp only [putT, Tr.get_put, Option.some.injEq]
    by_cases h : t = u
    · subst h; simp
    · rw [if_neg h, if_neg (fun e => h e.symm)]

def ErTo (E : Env) (self : Self) (r : ER) (G : AH) (v : AV) (G' : AH) : Prop :=
  match r with
  | .val v1 G1 => v1 = v ∧ G1 = G'
  | .skip G1 => v = .tu [] ∧ G1 = G'
  | .enter f args => E.S f args G = some (v, G') ∨ (E.S f args G = none ∧ ∃ fr rc', enterA E.P f args false = some fr ∧ self fr .no G = .ret v rc' G')
  | .yield l args => ∃ st pe f0 T0 n0 ps assign body d T1 rc', G.t.get l = some (.loop st pe f0 T0 n0 ps assign body d) ∧ args.length = ps.size ∧ (E.P.funcs[f0]?).isSome = true ∧
      setParams n0 (ps.toList.zip args) T0 = some T1 ∧ self ⟨f0, n0, T1, [.code assign, .beginRound, .code body], [], .run, false, some l⟩ .no G = .ret v rc' G'
  | _ => False
/-- one operation, from a memory to the next -/
def Step1 (E : Env) (self : Self) (ops : List Oper) (o : Oper) (T : Tr AV) (G : AH) (v : AV) (G' : AH) : Prop :=
  (wantedA T ops o = some false ∧ v = .tu [] ∧ G' = G) ∨ (wantedA T ops o = some true ∧ ∃ r, opR E.P o.op T G = some r ∧ ErTo E self r G v G')

section
variable {E : Env} {self : Self} {fn n : Nat} {ops : List Oper} {o : Oper} {ro : Option Nat} {k : KR} {kp : List (AV × Bool) → KR} {T T' : Tr AV} {ds : List ADef} {rc : RC} {G : AH}
abbrev IsBad (o : Out) : Prop := ∃ why, o = .bad why

theorem dst_out (hd : ∀ t, o.dst = some t → t < n) (v : AV) (K : Tr AV → Out) : (dstC fn n o.dst).run v K T = K (putT T o.dst v) := by
  rw [dst_run]
  cases h : o.dst with
  | none => rfl
  | some t =>
    have := hd t h
    simp only
    rw [if_pos (show Nat.blt t n = true from Nat.ble_eq_true_of_le this)]; rfl

theorem opS_out (hm : mildOp o.op = true) (hd : ∀ t, o.dst = some t → t < n) (hkp : ∀ c T ds rc H, IsBad (kp c T ds rc H)) (hw : wantedA T ops o = some true) :
    IsBad ((opS E fn n o).run self ro k kp T ds rc G) ∨ ∃ v G', Step1 E self ops o T G v G' ∧ (opS E fn n o).run self ro k kp T ds rc G = k (putT T o.dst v) ds rc G' := by
  have hmild : ∀ r, opR E.P o.op T G = some r → Mild r := fun r h => opR_mild hm h
  have step : ∀ r v G', opR E.P o.op T G = some r → ErTo E self r G v G' → Step1 E self ops o T G v G' := fun r v G' h1 h2 => .inr ⟨hw, r, h1, h2⟩
  unfold opR at hmild step
  unfold opS
  cases hc : opC E.P o.op with
  | q f =>
    rw [hc] at step
    show IsBad (Option.rec (motive := fun _ => Out) (.bad [fn, 2, o.dst.getD 9999]) (fun v => (dstC fn n o.dst).run v (fun T => k T ds rc G) T) (f T)) ∨ ∃ v G', Step1 E self ops o T G v G' ∧
      (Option.rec (motive := fun _ => Out) (.bad [fn, 2, o.dst.getD 9999]) (fun v => (dstC fn n o.dst).run v (fun T => k T ds rc G) T) (f T)) = k (putT T o.dst v) ds rc G'
    cases hf : f T with
    | none => exact .inl ⟨_, rfl⟩
    | some v => exact .inr ⟨v, G, step (.val v G) v G (by simp only [hf]; rfl) ⟨rfl, rfl⟩, dst_out hd v _⟩
  | h f =>
    rw [hc] at step
    show IsBad (Option.rec (motive := fun _ => Out) (.bad [fn, 2, o.dst.getD 9999]) (fun v => (dstC fn n o.dst).run v (fun T => k T ds rc G) T) (f T G.t)) ∨ ∃ v G', Step1 E self ops o T G v G' ∧
      (Option.rec (motive := fun _ => Out) (.bad [fn, 2, o.dst.getD 9999]) (fun v => (dstC fn n o.dst).run v (fun T => k T ds rc G) T) (f T G.t)) = k (putT T o.dst v) ds rc G'
    cases hf : f T G.t with
    | none => exact .inl ⟨_, rfl⟩
    | some v => exact .inr ⟨v, G, step (.val v G) v G (by simp only [hf]; rfl) ⟨rfl, rfl⟩, dst_out hd v _⟩
  | s f =>
    rw [hc] at step
    show IsBad (Option.rec (motive := fun _ => Out) (.bad [fn, 2, o.dst.getD 9999]) (fun t' => t'.sk fun t' => (dstC fn n o.dst).run (.tu []) (fun T => k T ds rc ⟨t', G.next⟩) T) (f T G.t)) ∨ ∃ v G', Step1 E self ops o T G v G' ∧
      (Option.rec (motive := fun _ => Out) (.bad [fn, 2, o.dst.getD 9999]) (fun t' => t'.sk fun t' => (dstC fn n o.dst).run (.tu []) (fun T => k T ds rc ⟨t', G.next⟩) T) (f T G.t)) = k (putT T o.dst v) ds rc G'
    cases hf : f T G.t with
    | none => exact .inl ⟨_, rfl⟩
    | some t' =>
      refine .inr ⟨.tu [], ⟨t', G.next⟩, step (.skip ⟨t', G.next⟩) _ _ (by simp only [hf]; rfl) ⟨rfl, rfl⟩, ?_⟩
      show t'.sk _ = _
      rw [Tr.sk_eq]
      exact dst_out hd _ _
  | e f =>
    rw [hc] at step hmild
    show IsBad (Option.rec (motive := fun _ => Out) (.bad [fn, 2, o.dst.getD 9999]) (fun r => goER E self fn ro (dstC fn n o.dst) k kp T ds rc G r) (f T G)) ∨ ∃ v G', Step1 E self ops o T G v G' ∧
      (Option.rec (motive := fun _ => Out) (.bad [fn, 2, o.dst.getD 9999]) (fun r => goER E self fn ro (dstC fn n o.dst) k kp T ds rc G r) (f T G)) = k (putT T o.dst v) ds rc G'
    cases hf : f T G with
    | none => exact .inl ⟨_, rfl⟩
    | some r =>
      have hr := hmild r hf
      have step := fun v G' => step r v G' hf
      show IsBad (goER E self fn ro (dstC fn n o.dst) k kp T ds rc G r) ∨ ∃ v G', Step1 E self ops o T G v G' ∧ goER E self fn ro (dstC fn n o.dst) k kp T ds rc G r = k (putT T o.dst v) ds rc G'
      cases r with
      | val v G' => exact .inr ⟨v, G', step v G' ⟨rfl, rfl⟩, dst_out hd _ _⟩
      | skip G' => exact .inr ⟨_, G', step _ G' ⟨rfl, rfl⟩, dst_out hd _ _⟩
      | defer f a => exact absurd rfl (hr.1 f a)
      | recov => exact absurd rfl hr.2
      | pan v => exact .inl (hkp _ _ _ _ _)
      | enter f args =>
        show IsBad (goIn E self fn f args G (fun v H' => (dstC fn n o.dst).run v (fun T => k T ds rc H') T) (fun c H' => kp c T ds rc H')) ∨ ∃ v G', Step1 E self ops o T G v G' ∧
          goIn E self fn f args G (fun v H' => (dstC fn n o.dst).run v (fun T => k T ds rc H') T) (fun c H' => kp c T ds rc H') = k (putT T o.dst v) ds rc G'
        unfold goIn
        cases hS : E.S f args G with
        | some r => exact .inr ⟨r.1, r.2, step _ _ (.inl hS), dst_out hd _ _⟩
        | none =>
          cases he : enterA E.P f args false with
          | none => exact .inl ⟨_, rfl⟩
          | some fr =>
            dsimp only
            cases hs : self fr .no G with
            | bad why => exact .inl ⟨_, rfl⟩
            | pan c rc' G' => exact .inl (hkp _ _ _ _ _)
            | ret v rc' G' => exact .inr ⟨v, G', step _ _ (.inr ⟨hS, fr, rc', he, hs⟩), dst_out hd _ _⟩
      | yield l args =>
        unfold goER
        dsimp only
        split
        · rename_i st pe f0 T0 n0 ps assign body d hl
          rw [bc_eq]
          split
          · rename_i hb
            rw [Bool.and_eq_true] at hb
            cases hp : setParams n0 (ps.toList.zip args) T0 with
            | none => exact .inl ⟨_, rfl⟩
            | some T1 =>
              dsimp only
              cases hs : self ⟨f0, n0, T1, [.code assign, .beginRound, .code body], [], .run, false, some l⟩ .no G with
              | bad why => exact .inl ⟨_, rfl⟩
              | pan c rc' G' => exact .inl (hkp _ _ _ _ _)
              | ret v rc' G' => exact .inr ⟨v, G', step _ _ ⟨st, pe, f0, T0, n0, ps, assign, body, d, T1, rc', hl, Nat.eq_of_beq_eq_true hb.1, hb.2, hp, hs⟩, dst_out hd _ _⟩
          · exact .inl ⟨_, rfl⟩
        · exact .inl ⟨_, rfl⟩

theorem opG_out (hm : mildOp o.op = true) (hd : ∀ t, o.dst = some t → t < n) (hkp : ∀ c T ds rc H, IsBad (kp c T ds rc H)) :
    IsBad ((opG E fn n ops o).run self ro k kp T ds rc G) ∨ ∃ v G', Step1 E self ops o T G v G' ∧ (opG E fn n ops o).run self ro k kp T ds rc G = k (putT T o.dst v) ds rc G' := by
  unfold opG
  split
  · rename_i hg
    exact opS_out hm hd hkp (by unfold wantedA; rw [hg])
  · show IsBad (Option.rec (motive := fun _ => Out) (.bad [fn, 1]) (fun w => bc w ((opS E fn n o).run self ro k kp T ds rc G) ((dstC fn n o.dst).run (.tu []) (fun T => k T ds rc G) T)) (wantedA T ops o)) ∨ ∃ v G', Step1 E self ops o T G v G' ∧
      Option.rec (motive := fun _ => Out) (.bad [fn, 1]) (fun w => bc w ((opS E fn n o).run self ro k kp T ds rc G) ((dstC fn n o.dst).run (.tu []) (fun T => k T ds rc G) T)) (wantedA T ops o) = k (putT T o.dst v) ds rc G'
    cases hw : wantedA T ops o with
    | none => exact .inl ⟨_, rfl⟩
    | some b =>
      cases b with
      | true => exact opS_out hm hd hkp hw
      | false => exact .inr ⟨.tu [], G, .inl ⟨hw, rfl, rfl⟩, dst_out hd _ _⟩

/-- it looks at its operands and its guard alone -/
theorem Step1_loc {v : AV} {G' : AH} (h : Step1 E self ops o T G v G') (hl : ∀ t ∈ looks ops o, T.get t = T'.get t) : Step1 E self ops o T' G v G' := by
  have hw : wantedA T ops o = wantedA T' ops o := by
    unfold wantedA
    cases hg : o.guard with
    | none => rfl
    | some p =>
      obtain ⟨j, want⟩ := p
      dsimp only
      rw [lget_eq]
      cases hj : ops[j]? with
      | none => rfl
      | some oj =>
        dsimp only
        cases hd : oj.dst with
        | none => rfl
        | some d =>
          dsimp only
          rw [hl d (by simp [looks, guardTmps, hg, hj, hd])]
  have ho : opR E.P o.op T G = opR E.P o.op T' G := by
    refine opR_loc fun x hx => ev_loc fun t ht => hl t ?_
    refine List.mem_append.2 (.inl ?_)
    unfold opTmps
    exact List.mem_filterMap.2 ⟨x, hx, by rw [ht]⟩
  unfold Step1 at h ⊢
  rw [← hw, ← ho]
  exact h
theorem Step1_quiet {v : AV} {G' : AH} (hq : quietOp E.P o.op = true) (h : Step1 E self ops o T G v G') : G' = G := by
  rcases h with ⟨_, _, h⟩ | ⟨_, r, h1, h2⟩
  · exact h
  · obtain ⟨u, rfl⟩ := opR_quiet hq h1
    exact h2.2.symm
theorem Step1_pure {v : AV} {H : AH} (hq : pureOp E.P o.op = true) (h : Step1 E self ops o T G v G) : Step1 E self ops o T H v H := by
  rcases h with ⟨h1, h2, _⟩ | ⟨h1, r, h2, h3⟩
  · exact .inl ⟨h1, h2, rfl⟩
  · have hq2 : quietOp E.P o.op = true := by
      cases ho : o.op <;> rw [ho] at hq <;> first | rfl | (cases hq; done) | skip
      · simp only [pureOp] at hq
        simp only [quietOp]
        split at hq
        · rename_i e; rw [e]
        · cases hq
      · rename_i c
        simp only [pureOp] at hq
        simp only [quietOp]
        split at hq
        · rfl
        · rfl
        · rfl
        · rfl
        · cases hq
    obtain ⟨u, rfl⟩ := opR_quiet hq2 h2
    cases h3.1
    exact .inr ⟨h1, .val _ H, opR_pure hq h2, rfl, rfl⟩

/-- the run of a list of operations, with the memories behind its effects -/
inductive Tra (E : Env) (self : Self) (ops : List Oper) : List Oper → Tr AV → AH → List AH → Tr AV → AH → List AH → Prop
  | nil (T : Tr AV) (H : AH) (Gs : List AH) : Tra E self ops [] T H Gs T H Gs
  | cons (o : Oper) (rest : List Oper) (T : Tr AV) (H : AH) (Gs : List AH) (v : AV) (H1 : AH) (T' : Tr AV) (H' : AH) (Gs' : List AH) : Step1 E self ops o T H v H1 →
      Tra E self ops rest (putT T o.dst v) H1 (if quietOp E.P o.op = true then Gs else H1 :: Gs) T' H' Gs' → Tra E self ops (o :: rest) T H Gs T' H' Gs'

theorem drC_out (k : List AH → KR) : ∀ (rest : List Oper) (Gs : List AH) (T : Tr AV) (G : AH), (∀ o ∈ rest, mildOp o.op = true ∧ ∀ t, o.dst = some t → t < n) →
    IsBad ((drC E fn n ops rest).run self ro k Gs T ds rc G) ∨ ∃ T' G' Gs', Tra E self ops rest T G Gs T' G' Gs' ∧ (drC E fn n ops rest).run self ro k Gs T ds rc G = k Gs' T' ds rc G' := by
  intro rest
  induction rest with
  | nil => intro Gs T G _; exact .inr ⟨T, G, Gs, .nil _ _ _, rfl⟩
  | cons o rest ih =>
    intro Gs T G hr
    have h1 := hr o (by simp)
    have key := opG_out (E := E) (self := self) (fn := fn) (ops := ops) (ro := ro) (T := T) (ds := ds) (rc := rc) (G := G) (kp := fun _ _ _ _ _ => .bad [fn, 81]) h1.1 h1.2 (fun _ _ _ _ _ => ⟨_, rfl⟩)
      (k := fun T ds rc H => (drC E fn n ops rest).run self ro k (bc (quietOp E.P o.op) Gs (H :: Gs)) T ds rc H)
    rcases key with ⟨why, h2⟩ | ⟨v, G1, h2, h3⟩
    · exact .inl ⟨why, h2⟩
    · have e : (drC E fn n ops (o :: rest)).run self ro k Gs T ds rc G = (drC E fn n ops rest).run self ro k (bc (quietOp E.P o.op) Gs (G1 :: Gs)) (putT T o.dst v) ds rc G1 := h3
      rw [e, bc_eq]
      rcases ih (if quietOp E.P o.op = true then Gs else G1 :: Gs) (putT T o.dst v) G1 (fun x hx => hr x (by simp [hx])) with h4 | ⟨T', G', Gs', h4, h5⟩
      · exact .inl h4
      · exact .inr ⟨T', G', Gs', .cons _ _ _ _ _ v G1 _ _ _ h2 h4, h5⟩

theorem sameFl_eq {a b : AV} (h : sameFl a b = true) : a = b := by
  unfold sameFl at h
  split at h <;> first | rfl | (cases h; done) | skip
  · simp at h; rw [h]
  · simp only [Bool.and_eq_true, decide_eq_true_eq, ibeq_eq] at h; rw [h.1, h.2]
  · rw [neq_eq] at h; simp at h; rw [h]
  · simp only [Bool.and_eq_true] at h
    rw [Nat.eq_of_beq_eq_true h.1, Nat.eq_of_beq_eq_true h.2]
  · simp only [Bool.and_eq_true] at h
    obtain ⟨⟨⟨⟨h1, h2⟩, h3⟩, h4⟩, h5⟩ := h
    rw [Nat.eq_of_beq_eq_true h1, Nat.eq_of_beq_eq_true h2, Nat.eq_of_beq_eq_true h3, Nat.eq_of_beq_eq_true h4, Nat.eq_of_beq_eq_true h5]
  · rw [Nat.eq_of_beq_eq_true h]
theorem sameLst_eq {f : AV → AV → Bool} (hf : ∀ a b, f a b = true → a = b) : ∀ {a b : List AV}, sameLst f a b = true → a = b := by
  intro a
  induction a with
  | nil => intro b h; cases b with | nil => rfl | cons _ _ => cases h
  | cons x a ih =>
    intro b h
    cases b with
    | nil => cases h
    | cons y b =>
      simp only [sameLst, Bool.and_eq_true] at h
      rw [hf _ _ h.1, ih h.2]
theorem sameN_eq : ∀ (n : Nat) (a b : AV), sameN n a b = true → a = b := by
  intro n
  induction n with
  | zero => intro a b h; exact sameFl_eq h
  | succ n ih =>
    intro a b h
    unfold sameN at h
    split at h
    · rw [sameLst_eq ih h]
    · rw [sameLst_eq ih h]
    · simp only [Bool.and_eq_true] at h
      rw [Nat.eq_of_beq_eq_true h.1.1, sameLst_eq ih h.1.2, sameLst_eq ih h.2]
    · simp only [Bool.and_eq_true] at h
      rw [Nat.eq_of_beq_eq_true h.1, ih _ _ h.2]
    · exact sameFl_eq h
theorem sameV_eq {a b : AV} (h : sameV a b = true) : a = b := sameN_eq 4 a b h
theorem sameO_eq {a b : Option AV} (h : sameO a b = true) : a = b := by
  unfold sameO at h
  split at h
  · rw [sameV_eq h]
  · cases h

theorem ckOne_out (K : Out) (hm : mildOp o.op = true) (hd : ∀ t, o.dst = some t → t < n) : ∀ Gs : List AH, IsBad (ckOne E self fn n ops ro T ds rc o K Gs) ∨
    (ckOne E self fn n ops ro T ds rc o K Gs = K ∧ ∀ G ∈ Gs, ∃ v G', Step1 E self ops o T G v G' ∧ ob o.dst (putT T o.dst v).get = ob o.dst T.get) := by
  intro Gs
  induction Gs with
  | nil => exact .inr ⟨rfl, fun _ h => by cases h⟩
  | cons G Gs ih =>
    have key := opG_out (E := E) (self := self) (fn := fn) (ops := ops) (ro := ro) (T := T) (ds := ds) (rc := rc) (G := G) (kp := fun _ _ _ _ _ => .bad [fn, 83]) hm hd (fun _ _ _ _ _ => ⟨_, rfl⟩)
      (k := fun T' _ _ _ => bc (sameO (ob o.dst T'.get) (ob o.dst T.get)) (ckOne E self fn n ops ro T ds rc o K Gs) (.bad [fn, 82]))
    rcases key with ⟨why, h2⟩ | ⟨v, G1, h2, h3⟩
    · exact .inl ⟨why, h2⟩
    · have e : ckOne E self fn n ops ro T ds rc o K (G :: Gs) = bc (sameO (ob o.dst (putT T o.dst v).get) (ob o.dst T.get)) (ckOne E self fn n ops ro T ds rc o K Gs) (.bad [fn, 82]) := h3
      rw [e, bc_eq]
      split
      · rename_i hs
        rcases ih with h4 | ⟨h4, h5⟩
        · exact .inl h4
        · refine .inr ⟨h4, fun x hx => ?_⟩
          rcases List.mem_cons.1 hx with rfl | hx
          · exact ⟨v, G1, h2, sameO_eq hs⟩
          · exact h5 x hx
      · exact .inl ⟨_, rfl⟩
theorem ckAll_out (K : Out) (Gs : List AH) : ∀ l : List (Oper × Nat × Nat), (∀ x ∈ l, mildOp x.1.op = true ∧ ∀ t, x.1.dst = some t → t < n) → IsBad (ckAll E self fn n ops ro T ds rc Gs K l) ∨
    (ckAll E self fn n ops ro T ds rc Gs K l = K ∧ ∀ x ∈ l, ∀ G ∈ (Gs.drop x.2.1).take x.2.2, ∃ v G', Step1 E self ops x.1 T G v G' ∧ ob x.1.dst (putT T x.1.dst v).get = ob x.1.dst T.get) := by
  intro l
  induction l with
  | nil => intro _; exact .inr ⟨rfl, fun _ h => by cases h⟩
  | cons x l ih =>
    intro hx
    have e : ckAll E self fn n ops ro T ds rc Gs K (x :: l) = ckOne E self fn n ops ro T ds rc x.1 (ckAll E self fn n ops ro T ds rc Gs K l) ((Gs.drop x.2.1).take x.2.2) := rfl
    rw [e]
    have h1 := hx x (by simp)
    rcases ckOne_out (E := E) (self := self) (fn := fn) (ops := ops) (ro := ro) (T := T) (ds := ds) (rc := rc) (ckAll E self fn n ops ro T ds rc Gs K l) h1.1 h1.2 ((Gs.drop x.2.1).take x.2.2) with h2 | ⟨h2, h3⟩
    · exact .inl h2
    · rw [h2]
      rcases ih (fun y hy => hx y (by simp [hy])) with h4 | ⟨h4, h5⟩
      · exact .inl h4
      · refine .inr ⟨h4, fun y hy => ?_⟩
        rcases List.mem_cons.1 hy with rfl | hy
        · exact h3
        · exact h5 y hy
end
end Go.Twin
