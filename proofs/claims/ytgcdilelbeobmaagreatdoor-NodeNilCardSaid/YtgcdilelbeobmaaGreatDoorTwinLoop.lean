/- A map gone over, whatever the order: each round lays bytes over cells of its own. -/
import Derived.Test.YtgcdilelbeobmaaGreatDoorTwinNext
import Derived.Test.YtgcdilelbeobmaaGreatDoorTwinDrawE
namespace Go.Twin
open Go

section
variable {E : Env} {self : Self} {α : Nat → Value} {ρ ρ' : Rho} {G G' H H1 : AH} {w w' : World} {cs : List Frame} {n fn : Nat}

theorem allN_at {f : Nat → Bool} : ∀ {m : Nat}, allN f m = true → ∀ k, k < m → f k = true := by
  intro m
  induction m with
  | zero => intro _ k h; omega
  | succ m ih =>
    intro h k hk
    have h' : (f m && allN f m) = true := h
    rw [Bool.and_eq_true] at h'
    by_cases e : k = m
    · subst e; exact h'.1
    · exact ih h'.2 k (by omega)
theorem sameB_br {B B1 : Blk} {o : Obj} {l : Loc} (h : sameB B (some B1) = true) (k : BR α ρ B1 o l) : BR α ρ B o l := by
  cases B <;> cases B1 <;> first | (cases h; done) | skip
  rename_i t z zl n t' z' zl' n'
  have h' : (Nat.beq n n' && allN (fun off => sameO (cellAt t z zl n off) (cellAt t' z' zl' n' off)) n) = true := h
  rw [Bool.and_eq_true] at h'
  obtain ⟨h1, h2⟩ := h'
  cases Nat.eq_of_beq_eq_true h1
  cases k with
  | cells _ _ _ _ c e fz b sh N k1 k2 k3 k4 =>
    refine .cells _ _ _ _ _ _ _ _ _ _ (fun off a ha => ?_) k2 k3 k4
    have := sameO_eq (allN_at h2 off (cellAt_lt ha))
    rw [ha] at this
    exact k1 off a this.symm

theorem rel_at {ids : Nat} {Bs : Blk} (hG : Rel α ρ G w) (hids : G.t.get ids = some Bs) : Rel α ρ ⟨Tr.leaf.put ids (some Bs), G.next⟩ w := by
  refine ⟨?_, ?_, hG.fresh⟩
  · intro id B e
    simp only [Tr.get_put] at e
    by_cases h : id = ids
    · rw [if_pos h] at e; cases e; subst h; exact hG.blk _ _ hids
    · rw [if_neg h, Tr.get_leaf] at e; cases e
  · intro i j Bi Bj li lj e1 e2 f1 f2 e
    simp only [Tr.get_put] at e1 e2
    by_cases hi : i = ids
    · by_cases hj : j = ids
      · rw [hi, hj]
      · rw [if_neg hj, Tr.get_leaf] at e2; cases e2
    · rw [if_neg hi, Tr.get_leaf] at e1; cases e1

/-- what was done to a part is done to the whole -/
theorem frame_rule {ids : Nat} {Bs B1 : Blk} (hG : Rel α ρ G w) (hids : G.t.get ids = some Bs) (hev : Ev α ρ ⟨Tr.leaf.put ids (some Bs), G.next⟩ w ρ' H1 w') (hn : H1.next = G.next)
    (hB1 : H1.t.get ids = some B1) (hbr : ∀ o l, BR α ρ' B1 o l → BR α ρ' Bs o l) : Ev α ρ G w ρ' G w' := by
  have hsame : ∀ id B l, G.t.get id = some B → ρ' id = some l → ρ id = some l := by
    intro id B l e1 e2
    obtain ⟨l0, o0, f1, _⟩ := hG.blk id B e1
    have := hev.ext _ _ f1
    rw [e2] at this; cases this; exact f1
  refine ⟨⟨?_, ?_, ?_⟩, hev.ext, hev.size, hev.os, hev.tape, hev.output, ?_, ?_⟩
  · intro id B e
    obtain ⟨l, o, f1, f2, f3⟩ := hG.blk id B e
    by_cases h : id = ids
    · subst h
      rw [hids] at e; cases e
      obtain ⟨l1, o1, k1, k2, k3⟩ := hev.rel.blk _ _ hB1
      have := hev.ext _ _ f1
      rw [k1] at this; cases this
      exact ⟨_, o1, k1, k2, hbr _ _ k3⟩
    · refine ⟨l, o, hev.ext _ _ f1, ?_, f3.mono hev.ext⟩
      rw [hev.keep l.b (Array.getElem?_eq_some_iff.1 f2).1 ?_]
      · exact f2
      · intro id' B' l' e1 e2 e3
        simp only [Tr.get_put] at e1
        by_cases h' : id' = ids
        · subst h'
          exact h (hG.inj _ _ _ _ _ _ e hids f1 e2 e3.symm)
        · rw [if_neg h', Tr.get_leaf] at e1; cases e1
  · intro i j Bi Bj li lj e1 e2 f1 f2 e
    exact hG.inj i j Bi Bj li lj e1 e2 (hsame _ _ _ e1 f1) (hsame _ _ _ e2 f2) e
  · intro id hid
    exact hev.rel.fresh id (by omega)
  · intro b hb hk
    refine hev.keep b hb fun id B l e1 e2 => ?_
    simp only [Tr.get_put] at e1
    by_cases h' : id = ids
    · subst h'; exact hk _ _ _ hids e2
    · rw [if_neg h', Tr.get_leaf] at e1; cases e1
  · intro id B l e1 e2 _
    exact ⟨id, B, l, e1, hsame _ _ _ e1 e2, rfl⟩

theorem putO_eq (T : Tr AV) (d : Option Nat) (v : AV) : putO T d v = putT T d v := by cases d <;> rfl

section
variable {ops : Array Oper} {k' : List Item} {kd : CallKind} {ro' : Option Nat} {ds' : List Deferred} {Bs : Blk} {ids : Nat}
theorem strOne_mach (hE : EnvOK E) (ih : Sound E α self) {i : Nat} {rest : List Nat} {o : Oper} {T : Tr AV} {tm : Array Value} {v : AV} (ho : ops[i]? = some o) (hg : o.guard = none) (hm : mildOp o.op = true)
    (hG : Rel α ρ G w) (hids : G.t.get ids = some Bs) (hT : TR α ρ T n tm) (h : strOne E self Bs ids G.next o T = some v) :
    ∃ v' w' ρ', Steps E.P (lone (inReg fn tm ops (i :: rest) k' ds' kd ro') cs w) (lone (inReg fn (putV o.dst tm v') ops rest k' ds' kd ro') cs w') ∧ Ev α ρ G w ρ' G w' ∧ VR α ρ' v v' := by
  obtain ⟨r, h1, h2⟩ := ob_some.1 h
  have hsub := rel_at hG hids
  have hsp := evalOp_sound (P := E.P) hsub (evOK_frame (inReg fn tm ops (i :: rest) k' ds' kd ro') hT) h1
  have hw' : Region.wanted o (yielded ops tm) = true := by simp [Region.wanted, hg]
  have hd : ro' = none ∨ ∀ c, o.op ≠ .defer c := .inr fun c e => by rw [e] at hm; cases hm
  cases r with
  | val u H1 =>
    simp only at h2
    rw [bc_eq] at h2
    split at h2
    · rename_i hq
      cases h2
      obtain ⟨u', e⟩ := evalOp_quiet hq h1
      cases e
      obtain ⟨v', w', ρ', g1, g2, g3⟩ := er_mach hE ih (G' := ⟨Tr.leaf.put ids (some Bs), G.next⟩) (v := v) ho hw' hd hsub hsp ⟨rfl, rfl⟩
      exact ⟨v', w', ρ', g1, frame_rule (B1 := Bs) hG hids g2 rfl (by simp [Tr.get_put]) (fun _ _ h => h), g3⟩
    · cases h2
  | enter f args =>
    simp only at h2
    cases hS : E.S f args ⟨Tr.leaf.put ids (some Bs), G.next⟩ with
    | some q => rw [hS] at h2; cases h2
    | none =>
      rw [hS] at h2
      obtain ⟨fr, h3, h4⟩ := ob_some.1 h2
      split at h4
      · rename_i u rc1 H1 hs
        rw [bc_eq] at h4
        split at h4
        · rename_i hb
          cases h4
          rw [Bool.and_eq_true] at hb
          cases hB1 : H1.t.get ids with
          | none =>
            rw [hB1] at hb
            have := hb.2
            cases Bs <;> cases this
          | some B1 =>
            rw [hB1] at hb
            obtain ⟨v', w', ρ', g1, g2, g3⟩ := er_mach hE ih (G' := H1) (v := v) ho hw' hd hsub hsp (.inr ⟨hS, fr, rc1, h3, hs⟩)
            exact ⟨v', w', ρ', g1, frame_rule hG hids g2 (Nat.eq_of_beq_eq_true hb.1) hB1 (fun _ _ h => sameB_br hb.2 h), g3⟩
        · cases h4
      · cases h4
  | _ => cases h2

theorem strR_mach (hE : EnvOK E) (ih : Sound E α self) : ∀ (l suf : List Oper) (i : Nat) (T T1 : Tr AV) (tm : Array Value) (ρ : Rho) (w : World), ops.toList.drop i = l ++ suf → strR E self n Bs ids G.next l T = some T1 →
    Rel α ρ G w → G.t.get ids = some Bs → TR α ρ T n tm →
    ∃ tm1 w1 ρ1, Steps E.P (lone (inReg fn tm ops (List.range' i (l.length + suf.length)) k' ds' kd ro') cs w) (lone (inReg fn tm1 ops (List.range' (i + l.length) suf.length) k' ds' kd ro') cs w1) ∧
      Ev α ρ G w ρ1 G w1 ∧ TR α ρ1 T1 n tm1 ∧ (∀ t a, T.get t = some a → (∀ o ∈ l, o.dst ≠ some t) → T1.get t = some a) := by
  intro l
  induction l with
  | nil =>
    intro suf i T T1 tm ρ w _ h hr _ hT
    cases h
    simp only [List.length_nil, Nat.zero_add, Nat.add_zero]
    exact ⟨tm, w, ρ, .refl _ _, Ev.refl hr, hT, fun t a h _ => h⟩
  | cons o l ihl =>
    intro suf i T T1 tm ρ w hd h hr hids hT
    have h' : bc (strOK n o) (ob (strOne E self Bs ids G.next o T) fun v => strR E self n Bs ids G.next l (putO T o.dst v)) none = some T1 := h
    rw [bc_eq] at h'
    split at h'
    · rename_i hok
      unfold strOK at hok
      simp only [Bool.and_eq_true] at hok
      obtain ⟨⟨hg, hm⟩, hdst⟩ := hok
      obtain ⟨v, h1, h2⟩ := ob_some.1 h'
      have ho : ops[i]? = some o := by
        rw [← Array.getElem?_toList]
        have : (ops.toList.drop i)[0]? = some o := by rw [hd]; rfl
        rw [List.getElem?_drop] at this
        simpa using this
      have hi' : ops.toList.drop (i + 1) = l ++ suf := by
        rw [← List.drop_drop, hd]; rfl
      have er : List.range' i ((o :: l).length + suf.length) = i :: List.range' (i + 1) (l.length + suf.length) := by
        have : (o :: l).length + suf.length = (l.length + suf.length) + 1 := by simp; omega
        rw [this]; rfl
      rw [er]
      obtain ⟨v', w1, ρ1, g1, g2, g3⟩ := strOne_mach (fn := fn) (cs := cs) (k' := k') (kd := kd) (ro' := ro') (ds' := ds') (rest := List.range' (i + 1) (l.length + suf.length)) hE ih ho (by simpa using hg) hm hr hids hT h1
      rw [putO_eq] at h2
      have hdn : ∀ t, o.dst = some t → t < n := fun t e => by rw [e] at hdst; exact blt_lt hdst
      obtain ⟨tm2, w2, ρ2, k1, k2, k3, k4⟩ := ihl suf (i + 1) _ T1 _ ρ1 w1 hi' h2 g2.rel hids ((hT.mono g2.ext).putv hdn g3)
      have e2 : i + (o :: l).length = i + 1 + l.length := by simp; omega
      rw [e2]
      refine ⟨tm2, w2, ρ2, g1.trans k1, g2.trans k2, k3, fun t a ht hn => k4 t a ?_ fun o' ho' => hn o' (by simp [ho'])⟩
      rw [putT_get, if_neg (hn o (by simp))]
      exact ht
    · cases h'
end

/-! what the texts are -/
theorem lastOf_eq : ∀ {l r : List Oper} {x : Oper}, lastOf l = some (r, x) → l = r ++ [x] := by
  intro l
  induction l with
  | nil => intro r x h; cases h
  | cons o l ih =>
    intro r x h
    cases l with
    | nil => cases h; rfl
    | cons o' l' =>
      have h' : (match lastOf (o' :: l') with | some (r, x) => some (o :: r, x) | none => none) = some (r, x) := h
      cases hl : lastOf (o' :: l') with
      | none => rw [hl] at h'; cases h'
      | some q =>
        obtain ⟨r', x'⟩ := q
        rw [hl] at h'
        cases h'
        rw [ih hl]; rfl
structure Shp (n : Nat) (cd : Code) (s : MLS) : Prop where
  code : cd = .seq (.region s.i0 s.opsN false) (.seq (.cond (.tmp s.c) .skip (.exit s.bx)) (.block s.bb (.seq (.region s.i1 s.opsE false) (.region s.i2 s.opsB false))))
  oN : ∃ o, s.opsN.toList = o :: s.rN ∧ o.op = .next (.tmp s.it) false ∧ o.dst = some s.d1 ∧ o.guard = none
  oE : ∃ o, s.opsE.toList = o :: s.rE ∧ o.op = .entry (.tmp s.it) ∧ o.dst = some s.d3 ∧ o.guard = none
  oB : ∃ o, s.opsB.toList = s.rB ++ [o] ∧ o.op = .call ⟨.builtin .copy, ⟨[.tmp s.a1, .tmp s.a2]⟩, s.ts⟩ ∧ o.guard = none ∧ ∀ t, o.dst = some t → t < n
  d1 : s.d1 < n
  d3 : s.d3 < n
theorem nextOf_some {o : Oper} {x : Nat × Nat} (h : nextOf o = some x) : o.op = .next (.tmp x.1) false ∧ o.dst = some x.2 ∧ o.guard = none := by
  unfold nextOf at h
  split at h
  · rename_i it d h1 h2 h3
    cases h; exact ⟨h1, h2, h3⟩
  · cases h
theorem entryOf_some {o : Oper} {x : Nat × Nat} (h : entryOf o = some x) : o.op = .entry (.tmp x.1) ∧ o.dst = some x.2 ∧ o.guard = none := by
  unfold entryOf at h
  split at h
  · rename_i it d h1 h2 h3
    cases h; exact ⟨h1, h2, h3⟩
  · cases h
theorem copyOf_some {o : Oper} {x : Nat × Nat × Array TypeId} (h : copyOf o = some x) : o.op = .call ⟨.builtin .copy, ⟨[.tmp x.1, .tmp x.2.1]⟩, x.2.2⟩ ∧ o.guard = none := by
  unfold copyOf at h
  split at h
  · rename_i a b ts h1 h2
    cases h; exact ⟨h1, h2⟩
  · cases h
theorem shp_of {cd : Code} {s : MLS} (h : mlShape n cd = some s) : Shp n cd s := by
  unfold mlShape at h
  split at h
  · rename_i i0 opsN c bx bb i1 opsE i2 opsB
    split at h
    · rename_i oN rN oE rE rB oC h1 h2 h3
      split at h
      · rename_i it d1 it' d3 a1 a2 ts g1 g2 g3
        obtain ⟨n1, n2, n3⟩ := nextOf_some g1
        obtain ⟨e1, e2, e3⟩ := entryOf_some g2
        obtain ⟨c1, c2⟩ := copyOf_some g3
        cases hb : (Nat.beq it it' && Nat.blt d1 n && Nat.blt d3 n && dstOK n oC.dst) with
        | false => rw [hb] at h; cases h
        | true =>
          rw [hb] at h
          cases h
          simp only [Bool.and_eq_true] at hb
          obtain ⟨⟨⟨b1, b2⟩, b3⟩, b4⟩ := hb
          cases Nat.eq_of_beq_eq_true b1
          exact ⟨rfl, ⟨oN, h1, n1, n2, n3⟩, ⟨oE, h2, e1, e2, e3⟩, ⟨oC, lastOf_eq h3, c1, c2, fun t e => by rw [e] at b4; exact blt_lt b4⟩, blt_lt b2, blt_lt b3⟩
      · cases h
    · cases h
  · cases h

/-! what is laid -/
theorem layM_snoc (r : MRec) : ∀ (l : List MRec) (t : Tr AV), layM (l ++ [r]) t = listTr r.new (layM l t) r.off := by
  intro l
  induction l with
  | nil => intro t; rfl
  | cons a l ih => intro t; exact ih _
def inM (r : MRec) (j : Nat) : Prop := r.off ≤ j ∧ j < r.off + r.new.length
theorem layM_get {recs : List MRec} (hap : ∀ x ∈ recs, ∀ y ∈ recs, ∀ j, inM x j → inM y j → x = y) : ∀ (A : List MRec) (t : Tr AV), (∀ x ∈ A, x ∈ recs) →
    ∀ j, (∀ x ∈ A, inM x j → (layM A t).get j = x.new[j - x.off]?) ∧ ((∀ x ∈ A, ¬ inM x j) → (layM A t).get j = t.get j) := by
  intro A
  induction A with
  | nil => intro t _ j; exact ⟨fun x hx => (by cases hx), fun _ => rfl⟩
  | cons r A ih =>
    intro t hA j
    obtain ⟨i1, i2⟩ := ih (listTr r.new t r.off) (fun x hx => hA x (by simp [hx])) j
    have e : layM (r :: A) t = layM A (listTr r.new t r.off) := rfl
    rw [e]
    rw [listTr_get] at i2
    refine ⟨fun x hx hin => ?_, fun hn => ?_⟩
    · by_cases h : ∃ y ∈ A, inM y j
      · obtain ⟨y, hy, hyj⟩ := h
        rw [i1 y hy hyj, hap x (hA x hx) y (hA y (by simp [hy])) j hin hyj]
      · have hxr : x = r := (List.mem_cons.1 hx).resolve_right fun hx' => h ⟨x, hx', hin⟩
        subst hxr
        rw [i2 fun y hy hyj => h ⟨y, hy, hyj⟩]
        exact if_pos hin
    · rw [i2 fun y hy => hn y (by simp [hy])]
      exact if_neg (hn r (by simp))
theorem layM_eq {recs : List MRec} (hap : ∀ x ∈ recs, ∀ y ∈ recs, ∀ j, inM x j → inM y j → x = y) (t : Tr AV) {A : List MRec} (hA : ∀ x ∈ A, x ∈ recs) (hB : ∀ x ∈ recs, x ∈ A) (j : Nat) : (layM A t).get j = (layM recs t).get j := by
  obtain ⟨a1, a2⟩ := layM_get hap A t hA j
  obtain ⟨b1, b2⟩ := layM_get hap recs t (fun x h => h) j
  by_cases h : ∃ x ∈ recs, inM x j
  · obtain ⟨x, hx, hj⟩ := h
    rw [a1 x (hB x hx) hj, b1 x hx hj]
  · rw [a2 fun x hx hj => h ⟨x, hA x hx, hj⟩, b2 fun x hx hj => h ⟨x, hx, hj⟩]
theorem wrs_eq (m : Nat) : ∀ (new : List AV) (t : Tr AV) (off : Nat), new.all one1 = true → off + new.length ≤ m → wrs m new t off = some (listTr new t off) := by
  intro new
  induction new with
  | nil => intro t off _ _; rfl
  | cons a l ih =>
    intro t off h1 h2
    simp only [List.all_cons, Bool.and_eq_true] at h1
    rw [wrs_cons, listTr_cons]
    simp only [List.length_cons] at h2
    rw [bc_eq, if_pos h1.1, bc_eq, if_pos (show Nat.blt off m = true from Nat.ble_eq_true_of_le (by omega))]
    exact ih _ _ h1.2 (by omega)
theorem apartL_spec : ∀ {l : List MRec}, apartL l = true → (l.map (·.e.2.2)).Nodup → ∀ x ∈ l, ∀ y ∈ l, ∀ j, inM x j → inM y j → x = y := by
  intro l
  induction l with
  | nil => intro _ _ x hx; cases hx
  | cons a l ih =>
    intro h hn x hx y hy j hxj hyj
    simp only [apartL, Bool.and_eq_true] at h
    simp only [List.map_cons, List.nodup_cons] at hn
    have hap : ∀ z ∈ l, ¬ (inM a j ∧ inM z j) := by
      intro z hz ⟨h1, h2⟩
      have := List.all_eq_true.1 h.1 z hz
      unfold apartM at this
      rw [Bool.or_eq_true] at this
      unfold inM at h1 h2
      rcases this with g | g
      · have := Nat.le_of_ble_eq_true g
        have e : Nat.add a.off a.new.length = a.off + a.new.length := rfl
        omega
      · have := Nat.le_of_ble_eq_true g
        have e : Nat.add z.off z.new.length = z.off + z.new.length := rfl
        omega
    rcases List.mem_cons.1 hx with ex | hx'
    · subst ex
      rcases List.mem_cons.1 hy with ey | hy'
      · exact ey.symm
      · exact absurd ⟨hxj, hyj⟩ (hap y hy')
    · rcases List.mem_cons.1 hy with ey | hy'
      · subst ey
        exact absurd ⟨hyj, hxj⟩ (hap x hx')
      · exact ih h.2 hn.2 x hx' y hy' j hxj hyj
theorem nodupN_spec : ∀ {l : List Nat}, nodupN l = true → l.Nodup := by
  intro l
  induction l with
  | nil => intro _; exact List.nodup_nil
  | cons a l ih =>
    intro h
    simp only [nodupN, Bool.and_eq_true, Bool.not_eq_true'] at h
    refine List.nodup_cons.2 ⟨fun hm => ?_, ih h.2⟩
    have := h.1
    rw [memN_eq] at this
    simp [hm] at this
end
end Go.Twin
