/- Ranging over functions, code, the whole: the machine follows. -/
import Derived.Test.YtgcdilelbeobmaaGreatDoorTwinMachE
import Derived.Test.YtgcdilelbeobmaaGreatDoorTwinDrawE
import Derived.Test.YtgcdilelbeobmaaGreatDoorTwinLoopD
namespace Go.Twin
open Go

section
variable {E : Env} {α : Nat → Value} {ρ : Rho} {H : AH} {w : World} {cs : List Frame} {rc : RC} {n fn : Nat} {self : Self} {P : Program}

noncomputable def rangeGo (P : Program) (self : Self) (fn n : Nat) (T : Tr AV) (de : Bool) (ro : Option Nat) (rc : RC) (f : Operand) (ps : Array Tmp) (a b : Code) (k : List AItem) (H1 : AH) (d : Nat) (ds : List ADef) : Out :=
  sN H1.next fun l =>
    let H2 : AH := ⟨H1.t.put l (some (.loop .ready none fn T n ps a b d)), Nat.succ l⟩
    match ev T f with
    | none => .bad [fn, 40]
    | some g => match calleeA P g [.fy l] with
      | none => .bad [fn, 41]
      | some (h, args) => match enterA P h args false with
        | none => .bad [fn, 42]
        | some g' => match self g' .no H2 with
          | .ret _ _ H' => self ⟨fn, n, T, .endRF l :: k, ds, .run, de, ro⟩ rc H'
          | .pan c _ H' => self ⟨fn, n, T, k, ds, .pan c, de, ro⟩ rc H'
          | .bad why => .bad (fn :: why)

theorem rangeGo_res (ih : Sound E α self) {T : Tr AV} {tm : Array Value} {ds1 : List ADef} {ds' mark : List Deferred} {de : Bool} {ro ro' : Option Nat} {k : List AItem} {k' : List Item} {f : Operand} {ps : Array Tmp} {a b : Code}
    {ρ1 : Rho} {H1 : AH} {w1 : World} {d : Nat} {ld : Loc}
    (hro : RR ρ ro ro') (hfn : ∃ F, E.P.funcs[fn]? = some F) (hde : ro ≠ none → de = false) (hT : TR α ρ T n tm) (hk : IRs ρ k k') (hrc : RCS α ρ rc (kindOf de) cs)
    (hev : Ev α ρ H w ρ1 H1 w1) (hd : ρ1 d = some ld) (hds : DRs α ρ1 ds1 (mark ++ ds'))
    (hen : (Instr.enterLoop fn tm ps a b ro').run E.P w = .ok (w1.heap.size, mark) { w1 with heap := w1.heap.push (.loop { state := .ready, pending := none, fn := fn, tmps := tm, params := ps, assign := a, body := b, defers := ld.b }) }) :
    Res E.P α ρ H w ⟨fn, tm, .code (.rangeFunc f ps a b) :: k', ds', .run, kindOf de, ro'⟩ cs rc (rangeGo E.P self fn n T de ro rc f ps a b k H1 d ds1) := by
  unfold rangeGo
  rw [sN_eq]
  simp only
  have hnext := hev.rel.fresh H1.next (Nat.le_refl _)
  have hle1 : ρ1.le (upd ρ1 H1.next ⟨w1.heap.size, 0, 0⟩) := upd_le hnext
  have hev2 := Ev.new hev.rel (.loop .ready none fn T n ps a b d) (.loop { state := .ready, pending := none, fn := fn, tmps := tm, params := ps, assign := a, body := b, defers := ld.b }) 0
    (.loop _ _ _ _ _ _ _ _ _ _ ld _ ((hT.mono hev.ext).mono hle1) (hle1 _ _ hd))
  have hall := hev.trans hev2
  split
  · trivial
  · rename_i g hg
    split
    · trivial
    · rename_i h args hc
      split
      · trivial
      · rename_i g' hg'
        have hgv := (evOK_frame (α := α) (ρ := ρ) (n := n) ⟨fn, tm, .code (.rangeFunc f ps a b) :: k', ds', .run, kindOf de, ro'⟩ hT) _ _ hg
        have hargs : VRs α (upd ρ1 H1.next ⟨w1.heap.size, 0, 0⟩) [AV.fy H1.next] [Value.func (.yield w1.heap.size) ⟨[]⟩ ⟨[]⟩] := .cons _ _ _ _ (.fy _ ⟨w1.heap.size, 0, 0⟩ (upd_self _ _ _)) .nil
        obtain ⟨hb, df, q1, q2⟩ := callee_spec (P := E.P) (hgv.mono hall.ext) hargs hc
        obtain ⟨args', q3, q4⟩ := q2.invoke hb
        have hst := s_rangeFunc (P := E.P) (cs := cs) (kd := kindOf de) (ro := ro') (ds := ds') (k := k') (x := f) hen (q1 _) (q3 _)
        have hfr := enterA_fr (P := E.P) (d := false) q4 hg'
        have hres := ih g' .no _ _ _ (⟨fn, tm, .inRangeFunc w1.heap.size :: k', mark ++ ds', .run, kindOf de, ro'⟩ :: cs) _ hev2.rel hfr (by rfl)
        cases hout : self g' .no ⟨H1.t.put H1.next (some (.loop .ready none fn T n ps a b d)), Nat.succ H1.next⟩ with
        | bad why => trivial
        | ret v rc' H' =>
          rw [hout] at hres
          obtain ⟨v', w', ρ', cs', g1, g2, g3, g4, _⟩ := hres
          obtain ⟨rfl, rfl⟩ := g3.no
          have g5 := g4 _ cs rfl
          have ha := hall.trans g1
          refine Res.of_steps (Steps.head hst g5) ha (Turned.refl _ _) rfl rfl rfl ?_
          refine ih _ rc H' _ w' cs ρ' g1.rel (.mk _ _ _ _ _ _ _ _ _ _ _ _ _ (hT.mono ha.ext) (fun _ => ?_) ((hds.mono hle1).mono g1.ext) .run (hro.mono ha.ext) hfn hde) (hrc.mono ha.ext)
          exact .endRF H1.next ⟨w1.heap.size, 0, 0⟩ _ _ (g1.ext _ _ (upd_self _ _ _)) (hk.mono ha.ext)
        | pan c rc' H' =>
          rw [hout] at hres
          obtain ⟨c', w', ρ', cs', g1, g2, g3, g4⟩ := hres
          obtain ⟨rfl, rfl⟩ := g3.no
          have g5 := g4 _ cs rfl
          have ha := hall.trans g1
          refine Res.of_steps (Steps.head hst g5) ha (Turned.refl _ _) rfl rfl rfl ?_
          exact ih _ rc H' _ w' cs ρ' g1.rel (.mk _ _ _ _ _ _ _ _ _ _ _ _ _ (hT.mono ha.ext) (fun e => by cases e) ((hds.mono hle1).mono g1.ext) (.pan _ _ g2) (hro.mono ha.ext) hfn hde) (hrc.mono ha.ext)

theorem rangeA_eq (P : Program) (self : Self) (fn n : Nat) (T : Tr AV) (td : List AItem) (ds : List ADef) (de : Bool) (ro : Option Nat) (rc : RC) (H : AH) (f : Operand) (ps : Array Tmp) (a b : Code) (k : List AItem) :
    rangeA' P self ⟨fn, n, T, td, ds, .run, de, ro⟩ rc H f ps a b k = (match ro with
      | none => sN H.next fun r => rangeGo P self fn n T de ro rc f ps a b k ⟨H.t.put r (some (.deferred (some []))), Nat.succ r⟩ r (.coll r :: ds)
      | some l0 => match H.t.get l0 with
        | some (.loop _ _ _ _ _ _ _ _ d) => rangeGo P self fn n T de ro rc f ps a b k H d ds
        | _ => .bad [fn, 43]) := by
  cases ro <;> rfl

theorem range_res (ih : Sound E α self) {T : Tr AV} {tm : Array Value} {ds : List ADef} {ds' : List Deferred} {de : Bool} {ro ro' : Option Nat} {k td : List AItem} {k' : List Item} {f : Operand} {ps : Array Tmp} {a b : Code}
    (hro : RR ρ ro ro') (hfn : ∃ F, E.P.funcs[fn]? = some F) (hde : ro ≠ none → de = false) (hr : Rel α ρ H w) (hT : TR α ρ T n tm) (hds : DRs α ρ ds ds') (hk : IRs ρ k k') (hrc : RCS α ρ rc (kindOf de) cs) :
    Res E.P α ρ H w ⟨fn, tm, .code (.rangeFunc f ps a b) :: k', ds', .run, kindOf de, ro'⟩ cs rc (rangeA' E.P self ⟨fn, n, T, td, ds, .run, de, ro⟩ rc H f ps a b k) := by
  rw [rangeA_eq]
  cases hro with
  | none =>
    simp only
    rw [sN_eq]
    have hev := Ev.new hr (.deferred (some [])) (.deferred (some [])) 0 (.def1 _ _ _ .nil)
    refine rangeGo_res (ld := ⟨w.heap.size, 0, 0⟩) (mark := [{ target := .collected w.heap.size, args := #[] }]) ih .none hfn hde hT hk hrc hev (upd_self _ _ _) (.coll H.next ⟨w.heap.size, 0, 0⟩ _ _ _ (upd_self _ _ _) (hds.mono hev.ext)) ?_
    simp [Instr.enterLoop]
    rfl
  | some l lo hlo =>
    simp only
    split
    · rename_i st pe f0 T0 n0 ps0 a0 b0 d hl
      obtain ⟨l2, ob, b1, b2, b3⟩ := hr.blk l _ hl
      rw [hlo] at b1; cases b1
      cases b3 with
      | loop _ _ _ _ _ tmps _ _ _ _ ld _ c1 c2 =>
        have hg := getObj_run (P := E.P) b2 (by intro c e f; simp)
        refine rangeGo_res (ld := ld) (mark := []) ih (.some l lo hlo) hfn hde hT hk hrc (Ev.refl hr) c2 hds ?_
        simp [Instr.enterLoop, Instr.getLoop, hg]
    · trivial

theorem code_res (hE : EnvOK E) (ih : Sound E α self) : ∀ (c : Code) {T : Tr AV} {tm : Array Value} {ds : List ADef} {ds' : List Deferred} {de : Bool} {ro ro' : Option Nat} {k : List AItem} {k' : List Item} {ρ : Rho} {H : AH} {w : World},
    RR ρ ro ro' → (∃ F, E.P.funcs[fn]? = some F) → (ro ≠ none → de = false) → Rel α ρ H w → TR α ρ T n tm → DRs α ρ ds ds' → IRs ρ k k' → RCS α ρ rc (kindOf de) cs →
    Res E.P α ρ H w ⟨fn, tm, .code c :: k', ds', .run, kindOf de, ro'⟩ cs rc ((codeC E c).run self fn n de ro T ds k rc H) := by
  intro c
  induction c with
  | skip =>
    intro T tm ds ds' de ro ro' k k' ρ H w hro hfn hde hr hT hds hk hrc
    exact Res.quiet hr s_skip rfl rfl rfl (ih _ rc H _ w cs ρ hr (.mk _ _ _ _ _ _ _ _ _ _ _ _ _ hT (fun _ => hk) hds .run hro hfn hde) hrc)
  | label l =>
    intro T tm ds ds' de ro ro' k k' ρ H w hro hfn hde hr hT hds hk hrc
    exact Res.quiet hr s_label rfl rfl rfl (ih _ rc H _ w cs ρ hr (.mk _ _ _ _ _ _ _ _ _ _ _ _ _ hT (fun _ => hk) hds .run hro hfn hde) hrc)
  | region id ops draw =>
    intro T tm ds ds' de ro ro' k k' ρ H w hro hfn hde hr hT hds hk hrc
    cases draw with
    | true =>
      show Res E.P α ρ H w _ cs rc ((drawC E fn n ops.toList).run self ro (fun T ds rc H => self (.mk fn n T k ds .run de ro) rc H) (fun c T ds rc H => self (.mk fn n T k ds (.pan c) de ro) rc H) T ds rc H)
      refine drawC_res hE ih ⟨?_, ?_⟩ hr hT hds hrc
      · intro T1 ds1 rc1 H1 tm1 ds1' w1 cs1 ρ1 hle hr1 hT1 hds1 hrc1
        exact Res.quiet hr1 s_regionEnd rfl rfl rfl (ih _ rc1 H1 _ w1 cs1 ρ1 hr1 (.mk _ _ _ _ _ _ _ _ _ _ _ _ _ hT1 (fun _ => hk.mono hle) hds1 .run (hro.mono hle) hfn hde) hrc1)
      · intro c c' T1 ds1 rc1 H1 tm1 ds1' w1 cs1 ρ1 td hle hr1 hT1 hds1 hrc1 hp
        exact ih _ rc1 H1 _ w1 cs1 ρ1 hr1 (.mk _ _ _ _ _ _ _ _ _ _ _ _ _ hT1 (fun e => by cases e) hds1 (.pan _ _ hp) (hro.mono hle) hfn hde) hrc1
    | false =>
      refine Res.quiet hr s_region rfl rfl rfl ?_
      have hl : List.range ops.size = List.range' 0 ops.toList.length := by rw [List.range_eq_range', Array.length_toList]
      rw [hl]
      show Res E.P α ρ H w (inReg fn tm ops (List.range' 0 ops.toList.length) k' ds' (kindOf de) ro') cs rc ((regC E fn n ops.toList ops.toList).run self ro (fun T ds rc H => self (.mk fn n T k ds .run de ro) rc H) (fun c T ds rc H => self (.mk fn n T k ds (.pan c) de ro) rc H) T ds rc H)
      refine regC_res hE ih kind_ne hfn ops.toList 0 rfl ρ H w cs rc T tm ds ds' ⟨?_, ?_⟩ hro hr hT hds hrc
      · intro T1 ds1 rc1 H1 tm1 ds1' w1 cs1 ρ1 hle hr1 hT1 hds1 hrc1
        exact Res.quiet hr1 s_regionEnd rfl rfl rfl (ih _ rc1 H1 _ w1 cs1 ρ1 hr1 (.mk _ _ _ _ _ _ _ _ _ _ _ _ _ hT1 (fun _ => hk.mono hle) hds1 .run (hro.mono hle) hfn hde) hrc1)
      · intro c c' T1 ds1 rc1 H1 tm1 ds1' w1 cs1 ρ1 td hle hr1 hT1 hds1 hrc1 hp
        exact ih _ rc1 H1 _ w1 cs1 ρ1 hr1 (.mk _ _ _ _ _ _ _ _ _ _ _ _ _ hT1 (fun e => by cases e) hds1 (.pan _ _ hp) (hro.mono hle) hfn hde) hrc1
  | seq a b iha ihb =>
    intro T tm ds ds' de ro ro' k k' ρ H w hro hfn hde hr hT hds hk hrc
    exact Res.quiet hr s_seq rfl rfl rfl (iha hro hfn hde hr hT hds (.code _ _ _ hk) hrc)
  | cond x a b iha ihb =>
    intro T tm ds ds' de ro ro' k k' ρ H w hro hfn hde hr hT hds hk hrc
    show Res E.P α ρ H w _ cs rc (Option.rec (motive := fun _ => Out) (.bad [fn, 50]) (fun v => v.asB (fun q => bc q ((codeC E a).run self fn n de ro T ds k rc H) ((codeC E b).run self fn n de ro T ds k rc H)) (.bad [fn, 50])) ((opdC x).run T))
    rw [opdC_run]
    cases hx : ev T x with
    | none => trivial
    | some v =>
      have hv := (evOK_frame (α := α) (ρ := ρ) (n := n) ⟨fn, tm, .code (.cond x a b) :: k', ds', .run, kindOf de, ro'⟩ hT) _ _ hx
      cases v with
      | b q =>
        generalize hE2 : Frame.eval ⟨fn, tm, .code (.cond x a b) :: k', ds', .run, kindOf de, ro'⟩ x = U at hv
        cases hv
        refine Res.quiet hr (s_cond hE2) rfl rfl rfl ?_
        cases q with
        | true => exact iha hro hfn hde hr hT hds hk hrc
        | false => exact ihb hro hfn hde hr hT hds hk hrc
      | _ => trivial
  | block id c ihc =>
    intro T tm ds ds' de ro ro' k k' ρ H w hro hfn hde hr hT hds hk hrc
    exact Res.quiet hr s_block rfl rfl rfl (ihc hro hfn hde hr hT hds (.inBlock _ _ _ hk) hrc)
  | loop c ihc =>
    intro T tm ds ds' de ro ro' k k' ρ H w hro hfn hde hr hT hds hk hrc
    exact Res.quiet hr s_loop rfl rfl rfl (loopC_res hE ih hro hfn hde hr hT hds hk hrc (ihc hro hfn hde hr hT hds (.inLoop _ _ _ hk) hrc))
  | rangeFunc f ps a b _ _ =>
    intro T tm ds ds' de ro ro' k k' ρ H w hro hfn hde hr hT hds hk hrc
    exact range_res ih hro hfn hde hr hT hds hk hrc
  | exit id =>
    intro T tm ds ds' de ro ro' k k' ρ H w hro hfn hde hr hT hds hk hrc
    obtain ⟨x1, x2⟩ := exitTo_sound id hk
    show Res E.P α ρ H w _ cs rc (match exitToA id k with
      | some k' => self (.mk fn n T k' ds .run de ro) rc H
      | none => leaveA self (.mk fn n T k ds .run de ro) rc H (some (.exit id)))
    cases hx : exitToA id k with
    | some r =>
      obtain ⟨r', y1, y2⟩ := x1 r hx
      exact Res.quiet hr (s_exit y1) rfl rfl rfl (ih _ rc H _ w cs ρ hr (.mk _ _ _ _ _ _ _ _ _ _ _ _ _ hT (fun _ => y2) hds .run hro hfn hde) hrc)
    | none => exact leave_res ih (.inr (.inr (.inl ⟨id, rfl, rfl, x2 hx⟩))) hro hfn hde hr hT hds hrc
  | scope c ihc =>
    intro T tm ds ds' de ro ro' k k' ρ H w hro hfn hde hr hT hds hk hrc
    exact Res.quiet hr s_scope rfl rfl rfl (ihc hro hfn hde hr hT hds (.inScope _ _ _ hk) hrc)
  | goto id =>
    intro T tm ds ds' de ro ro' k k' ρ H w hro hfn hde hr hT hds hk hrc
    obtain ⟨x1, x2⟩ := gotoIn_sound id hk
    show Res E.P α ρ H w _ cs rc (match gotoInA id k with
      | some k' => self (.mk fn n T k' ds .run de ro) rc H
      | none => leaveA self (.mk fn n T k ds .run de ro) rc H (some (.goto id)))
    cases hx : gotoInA id k with
    | some r =>
      obtain ⟨r', y1, y2⟩ := x1 r hx
      exact Res.quiet hr (s_goto y1) rfl rfl rfl (ih _ rc H _ w cs ρ hr (.mk _ _ _ _ _ _ _ _ _ _ _ _ _ hT (fun _ => y2) hds .run hro hfn hde) hrc)
    | none => exact leave_res ih (.inr (.inr (.inr ⟨id, rfl, rfl, x2 hx⟩))) hro hfn hde hr hT hds hrc
  | ret =>
    intro T tm ds ds' de ro ro' k k' ρ H w hro hfn hde hr hT hds hk hrc
    exact leave_res ih (.inr (.inl ⟨rfl, rfl⟩)) hro hfn hde hr hT hds hrc
  | refuse why =>
    intro T tm ds ds' de ro ro' k k' ρ H w hro hfn hde hr hT hds hk hrc
    trivial

theorem pend_irs (pe : Option Code) : IRs ρ (match pe with | some c => [.code c] | none => []) (pe.map Item.code).toList := by
  cases pe with
  | none => exact .nil
  | some c => exact .code _ _ _ .nil
theorem pop_res (hE : EnvOK E) (ih : Sound E α self) {T : Tr AV} {tm : Array Value} {ds : List ADef} {ds' : List Deferred} {de : Bool} {ro ro' : Option Nat} {k : List AItem} {k' : List Item}
    (hro : RR ρ ro ro') (hfn : ∃ F, E.P.funcs[fn]? = some F) (hde : ro ≠ none → de = false) (hr : Rel α ρ H w) (hT : TR α ρ T n tm) (hds : DRs α ρ ds ds') (hk : IRs ρ k k') (hrc : RCS α ρ rc (kindOf de) cs) :
    Res E.P α ρ H w ⟨fn, tm, k', ds', .run, kindOf de, ro'⟩ cs rc (popC E self fn n T k ds de ro rc H) := by
  have fin : ∀ {k : List AItem} {k' : List Item} {ρ : Rho} {H : AH} {w : World}, RR ρ ro ro' → Rel α ρ H w → TR α ρ T n tm → DRs α ρ ds ds' → IRs ρ k k' → RCS α ρ rc (kindOf de) cs →
      Res E.P α ρ H w ⟨fn, tm, k', ds', .run, kindOf de, ro'⟩ cs rc (self ⟨fn, n, T, k, ds, .run, de, ro⟩ rc H) := fun a1 a2 a3 a4 a5 a6 =>
    ih _ rc _ _ _ cs _ a2 (.mk _ _ _ _ _ _ _ _ _ _ _ _ _ a3 (fun _ => a5) a4 .run a1 hfn hde) a6
  cases hk with
  | nil => exact leave_res (k := []) ih (.inl ⟨rfl, rfl⟩) hro hfn hde hr hT hds hrc
  | code c l l' hl => exact code_res hE ih c hro hfn hde hr hT hds hl hrc
  | inBlock id l l' hl => exact Res.quiet hr s_inBlock rfl rfl rfl (fin hro hr hT hds hl hrc)
  | inLoop c l l' hl => exact Res.quiet hr s_inLoop rfl rfl rfl (loopC_res hE ih hro hfn hde hr hT hds hl hrc (code_res hE ih c hro hfn hde hr hT hds (.inLoop _ _ _ hl) hrc))
  | inScope c l l' hl => exact Res.quiet hr s_inScope rfl rfl rfl (fin hro hr hT hds hl hrc)
  | endRF id lo l l' hlo hl =>
    show Res E.P α ρ H w _ cs rc (match H.t.get id with
        | some (.loop st pe f0 T0 n0 ps a b d) => match st with
          | .busy => .bad [fn, 61]
          | _ => self (.mk fn n T ((match pe with | some c => [.code c] | none => []) ++ l) ds .run de ro) rc (H.set id (.loop .exhausted pe f0 T0 n0 ps a b d))
        | _ => .bad [fn, 62])
    split
    · rename_i st pe f0 T0 n0 ps a b d hB
      obtain ⟨l2, ob, b1, b2, b3⟩ := hr.blk id _ hB
      rw [hlo] at b1; cases b1
      cases b3 with
      | loop _ _ _ _ _ tmps _ _ _ _ ld _ c1 c2 =>
        have hg := getObj_run (P := E.P) b2 (by intro c e f; simp)
        have hs := setObj_run (P := E.P) (o' := .loop { state := .exhausted, pending := pe, fn := f0, tmps := tmps, params := ps, assign := a, body := b, defers := ld.b }) b2 (by intro c e f; simp)
        have hrun : st ≠ .busy → (Instr.endLoop lo.b).run E.P w = .ok pe { w with heap := w.heap.setIfInBounds lo.b (.loop { state := .exhausted, pending := pe, fn := f0, tmps := tmps, params := ps, assign := a, body := b, defers := ld.b }) } := by
          intro hne
          have hb : (st == LoopState.busy) = false := by cases st <;> first | rfl | exact absurd rfl hne
          simp only [Instr.endLoop, Instr.getLoop, Sem.run_bind, hg, Result.andThen_ok, Sem.run_pure, hb, Bool.false_eq_true, if_false]
          rw [hs]; rfl
        have hev := turn_obj hr hB hlo b2 (BR.loop .exhausted pe f0 T0 n0 tmps ps a b d ld lo c1 c2)
        have main : ∀ q : List AItem, IRs ρ q (pe.map Item.code).toList → st ≠ .busy → Res E.P α ρ H w ⟨fn, tm, .endRangeFunc lo.b :: l', ds', .run, kindOf de, ro'⟩ cs rc (self (.mk fn n T (q ++ l) ds .run de ro) rc (H.set id (.loop .exhausted pe f0 T0 n0 ps a b d))) := by
          intro q hq hne
          refine Res.of_step (s_endRange (hrun hne)) hev (Turned.refl _ _) rfl rfl rfl ?_
          exact fin hro hev.rel hT hds (hq.append hl) hrc
        cases st with
        | busy => trivial
        | _ => exact main _ (pend_irs pe) (by simp)
    · trivial
  | beginRound l l' hl =>
    cases hro with
    | none => trivial
    | some l0 lo hlo =>
      show Res E.P α ρ H w _ cs rc (match H.t.get l0 with
          | some (.loop .ready pe f0 T0 n0 ps a b d) => self (.mk fn n T l ds .run de (some l0)) rc (H.set l0 (.loop .busy pe f0 T0 n0 ps a b d))
          | _ => .bad [fn, 64])
      split
      · rename_i pe f0 T0 n0 ps a b d hB
        obtain ⟨l2, ob, b1, b2, b3⟩ := hr.blk l0 _ hB
        rw [hlo] at b1; cases b1
        cases b3 with
        | loop _ _ _ _ _ tmps _ _ _ _ ld _ c1 c2 =>
          have hg := getObj_run (P := E.P) b2 (by intro c e f; simp)
          have hs := setObj_run (P := E.P) (o' := .loop { state := .busy, pending := pe, fn := f0, tmps := tmps, params := ps, assign := a, body := b, defers := ld.b }) b2 (by intro c e f; simp)
          have hrun : (Instr.beginRound lo.b).run E.P w = .ok () { w with heap := w.heap.setIfInBounds lo.b (.loop { state := .busy, pending := pe, fn := f0, tmps := tmps, params := ps, assign := a, body := b, defers := ld.b }) } := by
            simp only [Instr.beginRound, Instr.getLoop, Sem.run_bind, hg, Result.andThen_ok, Sem.run_pure]
            rw [hs]; rfl
          have hev := turn_obj hr hB hlo b2 (BR.loop .busy pe f0 T0 n0 tmps ps a b d ld lo c1 c2)
          refine Res.of_step (s_beginRound hrun) hev (Turned.refl _ _) rfl rfl rfl ?_
          exact fin (.some l0 lo hlo) hev.rel hT hds hl hrc
      · trivial

/-- the quick executor is sound, however long it runs -/
theorem goC_sound (hE : EnvOK E) : ∀ m, Sound E α (goC E m) := by
  intro m
  induction m with
  | zero => intro fr rc H g w cs ρ _ _ _; trivial
  | succ m ih =>
    intro fr rc H g w cs ρ hr hfr hrc
    show Res E.P α ρ H w g cs rc (stepC E (goC E m) fr rc H)
    cases hfr with
    | mk fn n T todo ds mode de ro tm todo' ds' mode' ro' h1 h2 h3 h4 h5 h6 h7 =>
      cases h4 with
      | run => exact pop_res hE ih h5 h6 h7 hr h1 h3 (h2 rfl) hrc
      | ret => exact unwind_res ih .ret (by simp) h5 h6 h7 hr h1 h3 hrc
      | pan c c' hp => exact unwind_res ih (.pan c c' hp) (by simp) h5 h6 h7 hr h1 h3 hrc

/-- A run to its end, told of the model's call. -/
theorem callC_calls (hE : EnvOK E) {m : Nat} {f : FuncId} {args : List AV} {args' : Array Value} {v : AV} {rc' : RC} {H' : AH} (hr : Rel α ρ H w) (ha : VRs α ρ args args'.toList)
    (h : callC E m f args H = .ret v rc' H') : Calls E.P f args' w fun e w' => ∃ v' ρ', e = .returned v' ∧ VR α ρ' v v' ∧ Ev α ρ H w ρ' H' w' := by
  intro cs
  unfold callC at h
  cases he : enterA E.P f args false with
  | none => rw [he] at h; cases h
  | some fr =>
    rw [he] at h
    have hfr := enterA_fr (d := false) ha he
    have hres := goC_sound (α := α) hE m fr .no H _ w cs ρ hr hfr (by cases cs <;> rfl)
    have h' : goC E m fr .no H = .ret v rc' H' := h
    rw [h'] at hres
    obtain ⟨v', w', ρ', cs', g1, g2, g3, g4, g5⟩ := hres
    obtain ⟨_, rfl⟩ := g3.no
    obtain ⟨g', k1, k2, k3, k4, k5, fn, k6, k7⟩ := g5 rfl
    exact ⟨.returned v', w', g', ⟨v', ρ', rfl, g2, g1⟩, k1, k3, k4, k5, k2, fn, k6, k7⟩
end
end Go.Twin
