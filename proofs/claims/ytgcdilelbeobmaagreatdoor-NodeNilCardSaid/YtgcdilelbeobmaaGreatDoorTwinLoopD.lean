/- A map gone over: all rounds, the rule. -/
import Derived.Test.YtgcdilelbeobmaaGreatDoorTwinLoopC
import Derived.Test.YtgcdilelbeobmaaGreatDoorTwinMachD
namespace Go.Twin
open Go

section
variable {E : Env} {self : Self} {α : Nat → Value} {ρ ρ' : Rho} {G G' H H' H1 : AH} {w w' : World} {cs : List Frame} {n fn : Nat}

section
variable {cd : Code} {s : MLS} {Bs : Blk} {ids : Nat} {Th Te : Tr AV} {r id since clock : Nat} {es : List (AV × AV × Nat)} {recs : List MRec} {idl : Nat} {t : Tr AV} {z : List AV} {zl nL : Nat}
variable (C : MC E self n cd s Bs ids H Th Te r id since clock es recs idl t z zl nL)
include C

theorem MC.rounds (hE : EnvOK E) (ih : Sound E α self) {k : List Item} {ds' : List Deferred} {kd : CallKind} {ro' : Option Nat} (hids : ids ≠ idl) : ∀ (m : Nat) (A : List MRec) (G : AH) (tm : Array Value) (ρ : Rho) (w : World),
    (recs.filter fun x => !memN x.e.2.2 (A.map (·.e.2.2))).length ≤ m → IsG H idl r id since clock t z zl nL A G → (∀ x ∈ A, x ∈ recs) → Rel α ρ G w → TR α ρ Th n tm →
    ∃ A' G' tm' w' ρ', IsG H idl r id since clock t z zl nL A' G' ∧ (∀ x ∈ A', x ∈ recs) ∧ (∀ e ∈ es, e.2.2 ∈ A'.map (·.e.2.2)) ∧
      Steps E.P (lone ⟨fn, tm, .code cd :: .inLoop cd :: k, ds', .run, kd, ro'⟩ cs w) (lone ⟨fn, tm', .code (.seq (.cond (.tmp s.c) .skip (.exit s.bx)) (.block s.bb (.seq (.region s.i1 s.opsE false) (.region s.i2 s.opsB false)))) :: .inLoop cd :: k, ds', .run, kd, ro'⟩ cs w') ∧
      Ev α ρ G w ρ' G' w' ∧ TR α ρ' Te n tm' := by
  intro m
  induction m with
  | zero =>
    intro A G tm ρ w hm st hA hr hT
    rcases C.round (fn := fn) (cs := cs) (k := k) (ds' := ds') (kd := kd) (ro' := ro') hE ih st hr hT hids with ⟨x, hx, hn, _⟩ | ⟨h1, tm', w', ρ', h2, h3, h4⟩
    · exfalso
      have : x ∈ recs.filter fun x => !memN x.e.2.2 (A.map (·.e.2.2)) := by
        refine List.mem_filter.2 ⟨hx, ?_⟩
        rw [memN_eq]; simpa using hn
      have := List.length_pos_of_mem this
      omega
    · exact ⟨A, G, tm', w', ρ', st, hA, h1, h2, h3, h4⟩
  | succ m ihm =>
    intro A G tm ρ w hm st hA hr hT
    rcases C.round (fn := fn) (cs := cs) (k := k) (ds' := ds') (kd := kd) (ro' := ro') hE ih st hr hT hids with ⟨x, hx, hn, G', tm', w', ρ', h1, h2, h3, h4⟩ | ⟨h1, tm', w', ρ', h2, h3, h4⟩
    · have hlt : (recs.filter fun y => !memN y.e.2.2 ((A ++ [x]).map (·.e.2.2))).length < (recs.filter fun y => !memN y.e.2.2 (A.map (·.e.2.2))).length := by
        have e1 : (recs.filter fun y => !memN y.e.2.2 ((A ++ [x]).map (·.e.2.2))) = (recs.filter fun y => !memN y.e.2.2 (A.map (·.e.2.2))).filter fun y => decide (y.e.2.2 ≠ x.e.2.2) := by
          rw [List.filter_filter]
          refine List.filter_congr fun y _ => ?_
          rw [memN_eq, memN_eq]
          simp only [List.map_append, List.map_cons, List.map_nil, List.contains_append]
          by_cases e : y.e.2.2 = x.e.2.2
          · simp [e]
          · simp [e]
        rw [e1]
        refine List.length_filter_lt_length_iff_exists.2 ⟨x, ?_, by simp⟩
        refine List.mem_filter.2 ⟨hx, ?_⟩
        rw [memN_eq]; simpa using hn
      obtain ⟨A2, G2, tm2, w2, ρ2, k1, k2, k3, k4, k5, k6⟩ := ihm (A ++ [x]) G' tm' ρ' w' (by omega) h1 (fun y hy => by
        rcases List.mem_append.1 hy with h | h
        · exact hA y h
        · rw [List.mem_singleton.1 h]; exact hx) h3.rel h4
      exact ⟨A2, G2, tm2, w2, ρ2, k1, k2, k3, h2.trans k4, h3.trans k5, k6⟩
    · exact ⟨A, G, tm', w', ρ', st, hA, h1, h2, h3, h4⟩
end

/-- known less, or the same told otherwise -/
theorem Ev.less (hr : Rel α ρ G w) (hn : H'.next = G.next) (hb : ∀ id B, H'.t.get id = some B → ∃ B0, G.t.get id = some B0 ∧ ∀ o l, BR α ρ B0 o l → BR α ρ B o l) : Ev α ρ G w ρ H' w := by
  refine ⟨⟨?_, ?_, ?_⟩, .refl ρ, Nat.le_refl _, rfl, rfl, rfl, fun _ _ _ => rfl, ?_⟩
  · intro id B e
    obtain ⟨B0, h1, h2⟩ := hb id B e
    obtain ⟨l, o, f1, f2, f3⟩ := hr.blk id B0 h1
    exact ⟨l, o, f1, f2, h2 _ _ f3⟩
  · intro i j Bi Bj li lj e1 e2 f1 f2 e
    obtain ⟨B1, h1, _⟩ := hb i Bi e1
    obtain ⟨B2, h2, _⟩ := hb j Bj e2
    exact hr.inj i j B1 B2 li lj h1 h2 f1 f2 e
  · intro id hid; exact hr.fresh id (by omega)
  · intro id B l e1 e2 _
    obtain ⟨B0, h1, _⟩ := hb id B e1
    exact ⟨id, B0, l, h1, e2, rfl⟩

theorem forget_get : ∀ (l : List Nat) (T : Tr AV) (j : Nat) (a : AV), (forget l T).get j = some a → T.get j = some a := by
  intro l
  induction l with
  | nil => intro T j a h; exact h
  | cons d l ih =>
    intro T j a h
    have := ih (T.put d none) j a h
    rw [Tr.get_put] at this
    split at this
    · cases this
    · exact this
theorem dsts_mem {l : List Oper} {o : Oper} {d : Nat} (ho : o ∈ l) (hd : o.dst = some d) : d ∈ dsts l := by
  unfold dsts
  exact List.mem_filterMap.2 ⟨o, ho, hd⟩
theorem mlRound_e {s : MLS} {Bs : Blk} {ids : Nat} {Th : Tr AV} {e : AV × AV × Nat} {x : Nat × MRec} (h : mlRound E self n s Bs ids H Th e = some x) : x.2.e = e ∧ ids ≠ x.1 := by
  unfold mlRound at h
  obtain ⟨T1, h1, h⟩ := ob_some.1 h
  split at h
  · obtain ⟨T2, h2, h⟩ := ob_some.1 h
    obtain ⟨T3, h3, h⟩ := ob_some.1 h
    split at h
    · split at h
      · obtain ⟨size, hs, h⟩ := ob_some.1 h
        rw [sN_eq] at h
        obtain ⟨new, hn, h⟩ := ob_some.1 h
        rw [bc_eq] at h
        split at h
        · rename_i hb
          simp only [Bool.and_eq_true, Bool.not_eq_true'] at hb
          cases h
          refine ⟨rfl, fun e => ?_⟩
          have := hb.2
          rw [e, Nat.beq_refl] at this; cases this
        · cases h
      · cases h
    · cases h
  · cases h

theorem mapLoop_res (hE : EnvOK E) (ih : Sound E α self) {cd : Code} {T Te : Tr AV} {s : MLS} {tm : Array Value} {k : List Item} {ds' : List Deferred} {kd : CallKind} {ro' : Option Nat} (hr : Rel α ρ H w) (hT : TR α ρ T n tm)
    (h : mapLoop E self n cd T H = some (s, Te, H')) :
    ∃ tm' w' ρ', Steps E.P (lone ⟨fn, tm, .code cd :: .inLoop cd :: k, ds', .run, kd, ro'⟩ cs w) (lone ⟨fn, tm', .code (.seq (.cond (.tmp s.c) .skip (.exit s.bx)) (.block s.bb (.seq (.region s.i1 s.opsE false) (.region s.i2 s.opsB false)))) :: .inLoop cd :: k, ds', .run, kd, ro'⟩ cs w') ∧
      Ev α ρ H w ρ' H' w' ∧ TR α ρ' Te n tm' := by
  unfold mapLoop at h
  split at h
  · cases h
  · rename_i s0 hs0
    have hshp := shp_of hs0
    split at h
    · rename_i r ids offi hit h0
      split at h
      · rename_i id since last Bs hr0 hids0
        split at h
        · rename_i es clock hid
          rw [bc_eq] at h
          split at h
          · rename_i hb1
            simp only [Bool.and_eq_true, Bool.not_eq_true'] at hb1
            obtain ⟨⟨⟨b1, b2⟩, b3⟩, b4⟩ := hb1
            obtain ⟨rcs, hobs, h⟩ := ob_some.1 h
            split at h
            · cases h
            · rename_i x xs
              split at h
              · rename_i t z zl nL hl
                rw [bc_eq] at h
                split at h
                · rename_i hb2
                  simp only [Bool.and_eq_true] at hb2
                  obtain ⟨⟨⟨c1, c2⟩, c3⟩, c4⟩ := hb2
                  obtain ⟨Te', hfin, h⟩ := ob_some.1 h
                  split at h
                  · rename_i hfc
                    cases h
                    obtain ⟨o1, o2⟩ := obs_some hobs
                    have hin : ∀ y ∈ x :: xs, ∃ e ∈ es, mlRound E self n s Bs ids H (forget (dsts (s.opsN.toList ++ (s.opsE.toList ++ s.opsB.toList))) T) e = some y := by
                      intro y hy
                      obtain ⟨i, hi⟩ := List.mem_iff_getElem?.1 hy
                      have hlt : i < es.length := by rw [← o1]; exact (List.getElem?_eq_some_iff.1 hi).1
                      exact ⟨es[i], List.getElem_mem hlt, o2 i _ _ (List.getElem?_eq_getElem hlt) hi⟩
                    have hids1 : ∀ y ∈ x :: xs, y.1 = x.1 := fun y hy => Nat.eq_of_beq_eq_true (List.all_eq_true.1 c1 y hy)
                    have hrecs : ((x :: xs).map (·.2)).map (·.e) = es := by
                      apply List.ext_getElem?
                      intro i
                      rw [List.map_map, List.getElem?_map]
                      cases hi : (x :: xs)[i]? with
                      | none =>
                        rw [List.getElem?_eq_none_iff, o1] at hi
                        rw [List.getElem?_eq_none_iff.2 hi]; rfl
                      | some y =>
                        have hlt : i < es.length := by rw [← o1]; exact (List.getElem?_eq_some_iff.1 hi).1
                        have := mlRound_e (o2 i _ _ (List.getElem?_eq_getElem hlt) hi)
                        rw [List.getElem?_eq_getElem hlt, ← this.1]; rfl
                    have hnod := nodupN_spec b3
                    have C : MC E self n cd s Bs ids H (forget (dsts (s.opsN.toList ++ (s.opsE.toList ++ s.opsB.toList))) T) Te r id since clock es ((x :: xs).map (·.2)) x.1 t z zl nL := by
                      refine ⟨hshp, hit, hids0, hid, ⟨last, hr0⟩, hl, ?_, hnod, Nat.le_of_ble_eq_true b1, ?_, hrecs, ?_, ?_, ?_, ?_, hfin, hfc⟩
                      · intro e he
                        have := List.all_eq_true.1 b2 e he
                        rw [Bool.and_eq_true] at this
                        exact ⟨blt_lt this.1, blt_lt this.2⟩
                      · intro e; rw [e, Nat.beq_refl] at b4; cases b4
                      · intro m hm
                        obtain ⟨y, hy, rfl⟩ := List.mem_map.1 hm
                        obtain ⟨e, he, hy2⟩ := hin y hy
                        rw [(mlRound_e hy2).1, hy2, ← hids1 y hy]
                      · refine apartL_spec c2 ?_
                        have : ((x :: xs).map (·.2)).map (·.e.2.2) = es.map fun e => e.2.2 := by
                          rw [← hrecs, List.map_map, List.map_map, List.map_map]; rfl
                        rw [this]; exact hnod
                      · intro m hm
                        obtain ⟨y, hy, rfl⟩ := List.mem_map.1 hm
                        exact Nat.le_of_ble_eq_true (List.all_eq_true.1 c3 y hy)
                      · intro o ho d hd
                        have := List.all_eq_true.1 c4 d (dsts_mem ho hd)
                        simpa using this
                    have hidx : ids ≠ x.1 := by
                      obtain ⟨e, _, hy2⟩ := hin x (by simp)
                      exact (mlRound_e hy2).2
                    have hTh : TR α ρ (forget (dsts (s.opsN.toList ++ (s.opsE.toList ++ s.opsB.toList))) T) n tm := hT.sub fun u a hu => forget_get _ _ _ _ hu
                    have st0 : IsG H x.1 r id since clock t z zl nL [] H := ⟨rfl, hl, ⟨last, hr0, .inl rfl⟩, fun _ _ _ => rfl⟩
                    obtain ⟨A, G, tm', w', ρ', k1, k2, k3, k4, k5, k6⟩ := C.rounds (fn := fn) (cs := cs) (k := k) (ds' := ds') (kd := kd) (ro' := ro') hE ih hidx _ [] H tm ρ w (Nat.le_refl _) st0 (fun _ h => by cases h) hr hTh
                    refine ⟨tm', w', ρ', k4, k5.trans (Ev.less k5.rel k1.next.symm ?_), k6⟩
                    intro j B hj
                    simp only [Tr.get_put] at hj
                    by_cases hjr : j = r
                    · rw [if_pos hjr] at hj; cases hj
                    · rw [if_neg hjr] at hj
                      by_cases hjl : j = x.1
                      · rw [if_pos hjl] at hj
                        cases hj
                        refine ⟨_, by rw [hjl]; exact k1.lay, fun o l hbr => ?_⟩
                        cases hbr with
                        | cells _ _ _ _ c e fz b sh N h1 h2 h3 h4 =>
                          refine .cells _ _ _ _ _ _ _ _ _ _ (fun off a ha => h1 off a ?_) h2 h3 h4
                          rw [← ha]
                          unfold cellAt
                          rw [layM_eq C.apart t k2 ?_ off]
                          intro m hm
                          have hme : m.e ∈ es := by rw [← C.recsEq]; exact List.mem_map.2 ⟨m, hm, rfl⟩
                          obtain ⟨m', hm', he'⟩ := List.mem_map.1 (k3 m.e hme)
                          have hnd : (((x :: xs).map (·.2)).map (·.e.2.2)).Nodup := by
                            have : ((x :: xs).map (·.2)).map (·.e.2.2) = es.map fun e => e.2.2 := by
                              rw [← C.recsEq, List.map_map, List.map_map, List.map_map]; rfl
                            rw [this]; exact hnod
                          have : m' = m := by
                            have h5 := k2 m' hm'
                            obtain ⟨i, hi⟩ := List.mem_iff_getElem?.1 h5
                            obtain ⟨i2, hi2⟩ := List.mem_iff_getElem?.1 hm
                            have l1 := (List.getElem?_eq_some_iff.1 hi).1
                            have l2 := (List.getElem?_eq_some_iff.1 hi2).1
                            have g1 : (((x :: xs).map (·.2)).map (·.e.2.2))[i]? = some m'.e.2.2 := by rw [List.getElem?_map, hi]; rfl
                            have g2 : (((x :: xs).map (·.2)).map (·.e.2.2))[i2]? = some m.e.2.2 := by rw [List.getElem?_map, hi2]; rfl
                            have : i = i2 := by
                              refine (List.getElem?_inj (by rw [List.length_map]; exact l1) hnd).1 ?_
                              rw [g1, g2, he']
                            subst this
                            rw [hi] at hi2; cases hi2; rfl
                          rw [← this]; exact hm'
                      · rw [if_neg hjl] at hj
                        exact ⟨B, by rw [k1.rest j hjl hjr]; exact hj, fun _ _ h => h⟩
                  · cases h
                · cases h
              · cases h
          · cases h
        · cases h
      · cases h
    · cases h

theorem loopC_res (hE : EnvOK E) (ih : Sound E α self) {c : Code} {cc : CC} {T : Tr AV} {tm : Array Value} {ds : List ADef} {ds' : List Deferred} {de : Bool} {ro ro' : Option Nat} {k : List AItem} {k' : List Item} {rc : RC}
    (hro : RR ρ ro ro') (hfn : ∃ F, E.P.funcs[fn]? = some F) (hde : ro ≠ none → de = false) (hr : Rel α ρ H w) (hT : TR α ρ T n tm) (hds : DRs α ρ ds ds') (hk : IRs ρ k k') (hrc : RCS α ρ rc (kindOf de) cs)
    (hcc : Res E.P α ρ H w ⟨fn, tm, .code c :: .inLoop c :: k', ds', .run, kindOf de, ro'⟩ cs rc (cc.run self fn n de ro T ds (.inLoop c :: k) rc H)) :
    Res E.P α ρ H w ⟨fn, tm, .code c :: .inLoop c :: k', ds', .run, kindOf de, ro'⟩ cs rc (loopC E self fn n de ro T ds k rc H c cc) := by
  unfold loopC
  cases hm : mapLoop E self n c T H with
  | none => exact hcc
  | some x =>
    obtain ⟨s, Te, H'⟩ := x
    obtain ⟨tm', w', ρ', h1, h2, h3⟩ := mapLoop_res (fn := fn) (cs := cs) (k := k') (ds' := ds') (kd := kindOf de) (ro' := ro') hE ih hr hT hm
    refine Res.of_steps h1 h2 (Turned.refl _ _) rfl rfl rfl ?_
    exact ih _ rc H' _ w' cs ρ' h2.rel (.mk _ _ _ _ _ _ _ _ _ _ _ _ _ h3 (fun _ => .code _ _ _ (.inLoop _ _ _ (hk.mono h2.ext))) (hds.mono h2.ext) .run (hro.mono h2.ext) hfn hde) (hrc.mono h2.ext)
end
end Go.Twin
