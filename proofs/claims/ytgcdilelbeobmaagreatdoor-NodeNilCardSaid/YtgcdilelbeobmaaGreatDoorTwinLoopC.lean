/- A map gone over: the machine's road. -/
import Derived.Test.YtgcdilelbeobmaaGreatDoorTwinLoopB
namespace Go.Twin
open Go

section
variable {E : Env} {self : Self} {α : Nat → Value} {ρ ρ' : Rho} {G G' H H1 : AH} {w w' : World} {cs : List Frame} {n fn : Nat}

theorem TR.sub {T T' : Tr AV} {tm : Array Value} (h : TR α ρ T n tm) (hs : ∀ t a, T'.get t = some a → T.get t = some a) : TR α ρ T' n tm := ⟨h.1, fun t a e => h.2 t a (hs t a e)⟩
theorem range_eq (ops : Array Oper) : List.range ops.size = List.range' 0 ops.toList.length := by rw [List.range_eq_range', Array.length_toList]

section
variable {cd : Code} {s : MLS} {Bs : Blk} {ids : Nat} {Th Te : Tr AV} {r id since clock : Nat} {es : List (AV × AV × Nat)} {recs : List MRec} {idl : Nat} {t : Tr AV} {z : List AV} {zl nL : Nat}
variable (C : MC E self n cd s Bs ids H Th Te r id since clock es recs idl t z zl nL)
include C

theorem MC.round (hE : EnvOK E) (ih : Sound E α self) {A : List MRec} {tm : Array Value} {k : List Item} {ds' : List Deferred} {kd : CallKind} {ro' : Option Nat} (st : IsG H idl r id since clock t z zl nL A G)
    (hr : Rel α ρ G w) (hT : TR α ρ Th n tm) (hids : ids ≠ idl) :
    (∃ x ∈ recs, x.e.2.2 ∉ A.map (·.e.2.2) ∧ ∃ G' tm' w' ρ', IsG H idl r id since clock t z zl nL (A ++ [x]) G' ∧
      Steps E.P (lone ⟨fn, tm, .code cd :: .inLoop cd :: k, ds', .run, kd, ro'⟩ cs w) (lone ⟨fn, tm', .code cd :: .inLoop cd :: k, ds', .run, kd, ro'⟩ cs w') ∧ Ev α ρ G w ρ' G' w' ∧ TR α ρ' Th n tm') ∨
    ((∀ e ∈ es, e.2.2 ∈ A.map (·.e.2.2)) ∧ ∃ tm' w' ρ',
      Steps E.P (lone ⟨fn, tm, .code cd :: .inLoop cd :: k, ds', .run, kd, ro'⟩ cs w) (lone ⟨fn, tm', .code (.seq (.cond (.tmp s.c) .skip (.exit s.bx)) (.block s.bb (.seq (.region s.i1 s.opsE false) (.region s.i2 s.opsB false)))) :: .inLoop cd :: k, ds', .run, kd, ro'⟩ cs w') ∧
      Ev α ρ G w ρ' G w' ∧ TR α ρ' Te n tm') := by
  obtain ⟨oN, nN1, nN2, nN3, nN4⟩ := C.shp.oN
  obtain ⟨oE, nE1, nE2, nE3, nE4⟩ := C.shp.oE
  obtain ⟨oC, nC1, nC2, nC3, nC4⟩ := C.shp.oB
  have hcode := C.shp.code
  have freeN : ∀ o ∈ oN :: s.rN, ∀ d, o.dst = some d → Th.get d = none := fun o ho => C.free o (by rw [nN1]; exact List.mem_append.2 (.inl ho))
  have freeE : ∀ o ∈ oE :: s.rE, ∀ d, o.dst = some d → Th.get d = none := fun o ho => C.free o (by rw [nE1]; exact List.mem_append.2 (.inr (List.mem_append.2 (.inl ho))))
  have freeB : ∀ o ∈ s.rB ++ [oC], ∀ d, o.dst = some d → Th.get d = none := fun o ho => C.free o (by rw [nC1]; exact List.mem_append.2 (.inr (List.mem_append.2 (.inr ho))))
  have hitd : ∀ {d : Nat}, Th.get d = none → s.it ≠ d := fun {d} h e => by rw [← e, C.hit] at h; cases h
  -- the head of the round
  have p1 : Steps E.P (lone ⟨fn, tm, .code cd :: .inLoop cd :: k, ds', .run, kd, ro'⟩ cs w)
      (lone (inReg fn tm s.opsN (0 :: List.range' 1 (s.rN.length + ([] : List Oper).length)) (.code (.seq (.cond (.tmp s.c) .skip (.exit s.bx)) (.block s.bb (.seq (.region s.i1 s.opsE false) (.region s.i2 s.opsB false)))) :: .inLoop cd :: k) ds' kd ro') cs w) := by
    have e1 : List.range s.opsN.size = 0 :: List.range' 1 (s.rN.length + ([] : List Oper).length) := by rw [range_eq, nN1]; rfl
    have a1 : step E.P (lone ⟨fn, tm, .code cd :: .inLoop cd :: k, ds', .run, kd, ro'⟩ cs w) =
        .next (lone ⟨fn, tm, .code (.region s.i0 s.opsN false) :: .code (.seq (.cond (.tmp s.c) .skip (.exit s.bx)) (.block s.bb (.seq (.region s.i1 s.opsE false) (.region s.i2 s.opsB false)))) :: .inLoop cd :: k, ds', .run, kd, ro'⟩ cs w) := by
      have : Item.code cd = Item.code (.seq (.region s.i0 s.opsN false) (.seq (.cond (.tmp s.c) .skip (.exit s.bx)) (.block s.bb (.seq (.region s.i1 s.opsE false) (.region s.i2 s.opsB false))))) := by rw [← hcode]
      rw [this]
      exact s_seq
    refine Steps.head a1 (Steps.head s_region ?_)
    rw [e1]
    exact .refl _ _
  have hoN : s.opsN[0]? = some oN := by rw [← Array.getElem?_toList, nN1]; rfl
  have hwN : Region.wanted oN (yielded s.opsN tm) = true := by simp [Region.wanted, nN4]
  have hdN : ro' = none ∨ ∀ c, oN.op ≠ .defer c := .inr fun c e => by rw [nN2] at e; cases e
  have hx' := hT.2 s.it _ C.hit
  obtain ⟨last, hit1, hit2⟩ := st.it
  have hM : G.t.get id = some (.map es clock) := by rw [st.rest id C.id_ne_idl C.id_ne_r]; exact C.hid
  have hes : es ≠ [] := fun e => by have := C.two; rw [e] at this; simp at this
  have hg : (!(A.map (·.e.2.2)).isEmpty && !es.isEmpty && es.all fun e => Nat.ble last e.2.2) = false := by
    rcases hit2 with rfl | rfl
    · rfl
    · cases hq : es.all (fun e => Nat.ble last e.2.2) with
      | false => simp
      | true =>
        exfalso
        obtain ⟨e0, he0⟩ := List.exists_mem_of_ne_nil es hes
        have h1 := Nat.le_of_ble_eq_true (List.all_eq_true.1 hq e0 he0)
        have h2 := (C.old e0 he0).2
        omega
  have hC2 : (es.filter fun e => !memN e.2.2 (A.map (·.e.2.2))).filter (fun e => Nat.ble since e.2.2) = [] := by
    refine List.filter_eq_nil_iff.2 fun e he hb => ?_
    have h1 := Nat.le_of_ble_eq_true hb
    have h2 := (C.old e (List.mem_filter.1 he).1).1
    omega
  obtain ⟨nx1, nx2⟩ := next_many (P := E.P) (ty := oN.type) hr hx' hit1 hM hg hC2 rfl
  by_cases hem : (es.filter fun e => !memN e.2.2 (A.map (·.e.2.2))).filter (fun e => Nat.blt e.2.2 since) = []
  · -- none is left
    refine .inr ⟨fun e he => ?_, ?_⟩
    · have h1 := List.filter_eq_nil_iff.1 hem e
      by_cases hmem : e ∈ es.filter fun e => !memN e.2.2 (A.map (·.e.2.2))
      · exact absurd (Nat.ble_eq_true_of_le (C.old e he).1 : Nat.blt e.2.2 since = true) (h1 hmem)
      · have h2 : memN e.2.2 (A.map (·.e.2.2)) = true := by
          cases hq : memN e.2.2 (A.map (·.e.2.2)) with
          | true => rfl
          | false => exact absurd (List.mem_filter.2 ⟨he, by rw [hq]; rfl⟩) hmem
        rw [memN_eq] at h2
        simpa using h2
    · obtain ⟨w1, g1, g2⟩ := nx2 hem
      have hrun : (execOp (Frame.eval (inReg fn tm s.opsN (0 :: List.range' 1 (s.rN.length + ([] : List Oper).length)) (.code (.seq (.cond (.tmp s.c) .skip (.exit s.bx)) (.block s.bb (.seq (.region s.i1 s.opsE false) (.region s.i2 s.opsB false)))) :: .inLoop cd :: k) ds' kd ro')) oN).run E.P w = .ok (.value (.tuple #[.bool false])) w1 := by
        simp only [execOp, nN2, Frame.eval, Sem.run_bind, g1, Result.andThen_ok, Sem.run_pure]
      have p2 := s_opVal (P := E.P) (cs := cs) hoN hwN hdN hrun
      have hT1 : TR α ρ (Th.put s.d1 (some (.tu [.b false]))) n (putV oN.dst tm (.tuple #[.bool false])) := by
        rw [nN3]; exact hT.put C.shp.d1 (.tu _ _ (.cons _ _ _ _ (.b false) .nil))
      have hfin := C.fin
      rw [← st.next] at hfin
      have hidsG : G.t.get ids = some Bs := by rw [st.rest ids hids C.ids_r]; exact C.hids
      obtain ⟨tm2, w2, ρ2, q1, q2, q3, _⟩ := strR_mach (fn := fn) (cs := cs) (ops := s.opsN) (k' := (.code (.seq (.cond (.tmp s.c) .skip (.exit s.bx)) (.block s.bb (.seq (.region s.i1 s.opsE false) (.region s.i2 s.opsB false)))) :: .inLoop cd :: k)) (kd := kd) (ro' := ro') (ds' := ds') hE ih s.rN [] 1 _ _ _ ρ w1
        (by rw [nN1]; simp) hfin g2.rel hidsG hT1
      refine ⟨tm2, w2, ρ2, (p1.trans (Steps.head p2 q1)).trans (.one s_regionEnd), g2.trans q2, q3⟩
  · obtain ⟨e, he, v', w1, g1, g2, g3⟩ := nx1 hem
    have he1 := (List.mem_filter.1 he).1
    have hees := (List.mem_filter.1 he1).1
    have hnot : e.2.2 ∉ A.map (·.e.2.2) := by
      have := (List.mem_filter.1 he1).2
      rw [memN_eq] at this
      simpa using this
    obtain ⟨x, hx, hxe⟩ : ∃ x ∈ recs, x.e = e := by
      rw [← C.recsEq] at hees
      obtain ⟨x, h1, h2⟩ := List.mem_map.1 hees
      exact ⟨x, h1, h2⟩
    subst hxe
    obtain ⟨T1, T2, T3, len, cap, y, idv, offv, lenv, capv, xv, size, dt, el, tr, m1, m2, m3, m4, m5, m6, m7, m8, m9, m10, m11, m12, m13, m14, m15⟩ := C.round_facts hx
    refine .inl ⟨x, hx, hnot, ?_⟩
    have hrun : (execOp (Frame.eval (inReg fn tm s.opsN (0 :: List.range' 1 (s.rN.length + ([] : List Oper).length)) (.code (.seq (.cond (.tmp s.c) .skip (.exit s.bx)) (.block s.bb (.seq (.region s.i1 s.opsE false) (.region s.i2 s.opsB false)))) :: .inLoop cd :: k) ds' kd ro')) oN).run E.P w = .ok (.value v') w1 := by
      simp only [execOp, nN2, Frame.eval, Sem.run_bind, g1, Result.andThen_ok, Sem.run_pure]
    have p2 := s_opVal (P := E.P) (cs := cs) hoN hwN hdN hrun
    have hT1 : TR α ρ (Th.put s.d1 (some (.tu [.b true, x.e.1, x.e.2.1]))) n (putV oN.dst tm v') := by
      rw [nN3]; exact hT.put C.shp.d1 g3
    -- the memory behind the iterator's step
    generalize hG1 : G.set r (.mapIter (some id) since (A.map (·.e.2.2) ++ [x.e.2.2]) clock) = G1 at g2
    have n1 : G1.next = H.next := by rw [← hG1]; exact st.next
    have get1 : ∀ j, j ≠ r → G1.t.get j = G.t.get j := by
      intro j hj
      rw [← hG1]
      simp only [AH.set, Tr.get_put]
      rw [if_neg hj]
    have getr : G1.t.get r = some (.mapIter (some id) since (A.map (·.e.2.2) ++ [x.e.2.2]) clock) := by
      rw [← hG1]
      simp only [AH.set, Tr.get_put, if_true]
    have hidsG : G1.t.get ids = some Bs := by rw [get1 ids C.ids_r, st.rest ids hids C.ids_r]; exact C.hids
    have hM1 : G1.t.get id = some (.map es clock) := by rw [get1 id C.id_ne_r]; exact hM
    have hlay1 : G1.t.get idl = some (.cells (layM A t) z zl nL) := by rw [get1 idl (fun e => C.r_ne_idl e.symm)]; exact st.lay
    rw [← n1] at m1 m3 m4
    -- the rest of the first region
    obtain ⟨tm2, w2, ρ2, q1, q2, q3, q4⟩ := strR_mach (fn := fn) (cs := cs) (ops := s.opsN) (k' := (.code (.seq (.cond (.tmp s.c) .skip (.exit s.bx)) (.block s.bb (.seq (.region s.i1 s.opsE false) (.region s.i2 s.opsB false)))) :: .inLoop cd :: k)) (kd := kd) (ro' := ro') (ds' := ds') hE ih s.rN [] 1 _ _ _ ρ w1
      (by rw [nN1]; simp) m1 g2.rel hidsG hT1
    have hc : Frame.eval ⟨fn, tm2, .code (.cond (.tmp s.c) .skip (.exit s.bx)) :: .code (.block s.bb (.seq (.region s.i1 s.opsE false) (.region s.i2 s.opsB false))) :: .inLoop cd :: k, ds', .run, kd, ro'⟩ (.tmp s.c) = .bool true := by
      have := q3.2 s.c _ m2
      show tm2.getD s.c undef = _
      generalize tm2.getD s.c undef = U at this
      cases this; rfl
    have e2 : List.range s.opsE.size = 0 :: List.range' 1 (s.rE.length + ([] : List Oper).length) := by rw [range_eq, nE1]; rfl
    have p3 : Steps E.P (lone (inReg fn tm2 s.opsN (List.range' (1 + s.rN.length) ([] : List Oper).length) (.code (.seq (.cond (.tmp s.c) .skip (.exit s.bx)) (.block s.bb (.seq (.region s.i1 s.opsE false) (.region s.i2 s.opsB false)))) :: .inLoop cd :: k) ds' kd ro') cs w2)
        (lone (inReg fn tm2 s.opsE (0 :: List.range' 1 (s.rE.length + ([] : List Oper).length)) (.code (.region s.i2 s.opsB false) :: .inBlock s.bb :: .inLoop cd :: k) ds' kd ro') cs w2) := by
      refine Steps.head s_regionEnd (Steps.head s_seq (Steps.head (s_cond hc) (Steps.head s_skip (Steps.head s_block (Steps.head s_seq (Steps.head s_region ?_))))))
      rw [e2]
      exact .refl _ _
    -- the entry
    have hoE : s.opsE[0]? = some oE := by rw [← Array.getElem?_toList, nE1]; rfl
    have hwE : Region.wanted oE (yielded s.opsE tm2) = true := by simp [Region.wanted, nE4]
    have hdE : ro' = none ∨ ∀ c, oE.op ≠ .defer c := .inr fun c e => by rw [nE2] at e; cases e
    have hTh1 : ∀ u a, Th.get u = some a → T1.get u = some a := by
      intro u a hu
      refine q4 u a ?_ fun o ho hd => ?_
      · rw [Tr.get_put, if_neg fun e => by rw [e, freeN oN (by simp) s.d1 nN3] at hu; cases hu]
        exact hu
      · rw [freeN o (by simp [ho]) u hd] at hu; cases hu
    have hev : evalOp E.P T1 G1 (.entry (.tmp s.it)) = some (.val (.tu [x.e.1, x.e.2.1]) G1) := by
      show ob (T1.get s.it) (fun a => vq G1 (entryA G1 a)) = _
      rw [hTh1 s.it _ C.hit]
      show vq G1 (entryA G1 (.p r 0)) = _
      have : entryA G1 (.p r 0) = some (.tu [x.e.1, x.e.2.1]) := by
        unfold entryA
        simp only [getr]
        show ob ((A.map (·.e.2.2) ++ [x.e.2.2]).getLast?) (fun stamp => ob (G1.t.get id) fun M => match M with
          | .map es' clock' => bc (Nat.beq clock' clock) (ob (es'.find? fun e => Nat.beq e.2.2 stamp) fun e => some (AV.tu [e.1, e.2.1])) none
          | _ => none) = _
        rw [List.getLast?_append, hM1]
        show bc (Nat.beq clock clock) (ob (es.find? fun e => Nat.beq e.2.2 x.e.2.2) fun e => some (AV.tu [e.1, e.2.1])) none = _
        rw [Nat.beq_refl, bc_eq, if_pos rfl, C.find hees]
        rfl
      rw [this]; rfl
    have hspE := evalOp_sound (P := E.P) (o := oE) q2.rel (evOK_frame (inReg fn tm2 s.opsE (0 :: List.range' 1 (s.rE.length + ([] : List Oper).length)) (.code (.region s.i2 s.opsB false) :: .inBlock s.bb :: .inLoop cd :: k) ds' kd ro') q3) (r := .val (.tu [x.e.1, x.e.2.1]) G1) (by rw [nE2]; exact hev)
    obtain ⟨v3, w3, ρ3, u1, u2, u3⟩ := er_mach (cs := cs) hE ih (v := .tu [x.e.1, x.e.2.1]) (G' := G1) hoE hwE hdE q2.rel hspE ⟨rfl, rfl⟩
    have hT3 : TR α ρ3 (T1.put s.d3 (some (.tu [x.e.1, x.e.2.1]))) n (putV oE.dst tm2 v3) := by
      rw [nE3]; exact (q3.mono u2.ext).put C.shp.d3 u3
    obtain ⟨tm4, w4, ρ4, y1, y2, y3, y4⟩ := strR_mach (fn := fn) (cs := cs) (ops := s.opsE) (k' := (.code (.region s.i2 s.opsB false) :: .inBlock s.bb :: .inLoop cd :: k)) (kd := kd) (ro' := ro') (ds' := ds') hE ih s.rE [] 1 _ _ _ ρ3 w3
      (by rw [nE1]; simp) m3 u2.rel hidsG hT3
    -- the last region
    have e3 : List.range s.opsB.size = List.range' 0 (s.rB.length + [oC].length) := by rw [range_eq, nC1]; simp
    have p4 : Steps E.P (lone (inReg fn tm4 s.opsE (List.range' (1 + s.rE.length) ([] : List Oper).length) (.code (.region s.i2 s.opsB false) :: .inBlock s.bb :: .inLoop cd :: k) ds' kd ro') cs w4)
        (lone (inReg fn tm4 s.opsB (List.range' 0 (s.rB.length + [oC].length)) (.inBlock s.bb :: .inLoop cd :: k) ds' kd ro') cs w4) := by
      refine Steps.head s_regionEnd (Steps.head s_region ?_)
      rw [e3]
      exact .refl _ _
    obtain ⟨tm5, w5, ρ5, b1, b2, b3, b4⟩ := strR_mach (fn := fn) (cs := cs) (ops := s.opsB) (k' := (.inBlock s.bb :: .inLoop cd :: k)) (kd := kd) (ro' := ro') (ds' := ds') hE ih s.rB [oC] 0 _ _ _ ρ4 w4
      (by rw [nC1]; simp) m4 y2.rel hidsG y3
    have hoC : s.opsB[0 + s.rB.length]? = some oC := by
      rw [← Array.getElem?_toList, nC1, Nat.zero_add, List.getElem?_append_right (by omega)]
      simp
    have hwC : Region.wanted oC (yielded s.opsB tm5) = true := by simp [Region.wanted, nC3]
    have hdC : ro' = none ∨ ∀ c, oC.op ≠ .defer c := .inr fun c e => by rw [nC2] at e; cases e
    have hcp := C.copy_eval hx (A := A) (G := G1) hlay1 (fun j h1 h2 => by rw [get1 j h2, st.rest j h1 h2]) m5 m6 m7 m8 m9 m10 m11 m12 m13 m14
    have er3 : List.range' (0 + s.rB.length) [oC].length = (0 + s.rB.length) :: [] := rfl
    rw [er3] at b1
    have hspC := evalOp_sound (P := E.P) (o := oC) b2.rel (evOK_frame (inReg fn tm5 s.opsB ((0 + s.rB.length) :: []) (.inBlock s.bb :: .inLoop cd :: k) ds' kd ro') b3) (by rw [nC2]; exact hcp)
    obtain ⟨v6, w6, ρ6, c1, c2, c3⟩ := er_mach (cs := cs) hE ih (v := .i .i64 (.ofNat (bc (Nat.ble lenv len) lenv len))) hoC hwC hdC b2.rel hspC ⟨rfl, rfl⟩
    refine ⟨_, putV oC.dst tm5 v6, w6, ρ6, ?_, ?_, (((g2.trans q2).trans u2).trans (y2.trans b2)).trans c2, ?_⟩
    · refine ⟨n1, ?_, ⟨clock, ?_, .inr rfl⟩, ?_⟩
      · simp only [Tr.get_put, if_true]
      · simp only [Tr.get_put]
        rw [if_neg C.r_ne_idl, getr]
        simp
      · intro j h1 h2
        simp only [Tr.get_put]
        rw [if_neg h1, get1 j h2, st.rest j h1 h2]
    · refine ((((p1.trans (Steps.head p2 q1)).trans p3).trans (u1.trans y1)).trans p4).trans ((b1.trans c1).trans ?_)
      exact Steps.head s_regionEnd (Steps.head s_inBlock (Steps.head s_inLoop (.refl _ _)))
    · have hTR := (b3.mono c2.ext).putv nC4 c3
      refine hTR.sub fun u a hu => ?_
      have hne : ∀ {o : Oper} {l : List Oper}, o ∈ l → (∀ o ∈ l, ∀ d, o.dst = some d → Th.get d = none) → o.dst ≠ some u := fun {o l} ho hf hd => by rw [hf o ho u hd] at hu; cases hu
      rw [putT_get, if_neg (hne (l := s.rB ++ [oC]) (by simp) freeB)]
      refine b4 u a (y4 u a ?_ fun o ho => hne (l := oE :: s.rE) (by simp [ho]) freeE) fun o ho => hne (l := s.rB ++ [oC]) (by simp [ho]) freeB
      rw [Tr.get_put, if_neg fun e => hne (o := oE) (l := oE :: s.rE) (by simp) freeE (by rw [nE3, e])]
      exact hTh1 u a hu
end
end
end Go.Twin
