/- Operations, regions: the machine follows. -/
import Derived.Test.YtgcdilelbeobmaaGreatDoorTwinMach
namespace Go.Twin
open Go

section
variable {E : Env} {α : Nat → Value} {ρ : Rho} {H : AH} {w : World} {cs : List Frame} {rc : RC} {n fn : Nat} {self : Self}

/-- a call: out of a frame that waits for it -/
theorem goIn_res (hE : EnvOK E) (ih : Sound E α self) {g : Frame} {f : FuncId} {args : List AV} {args' : Array Value} {k : AV → AH → Out} {kp : List (AV × Bool) → AH → Out} (hr : Rel α ρ H w)
    (ha : VRs α ρ args args'.toList) (hs : step E.P (lone g cs w) = .next (lone (Frame.enter E.P f args' .normal) (g :: cs) w)) (hgr : g.mode = .run)
    (hk : ∀ v v' H1 w1 ρ1, ρ.le ρ1 → Rel α ρ1 H1 w1 → VR α ρ1 v v' → Res E.P α ρ1 H1 w1 (g.finish v') cs rc (k v H1))
    (hkp : ∀ c c' H1 w1 ρ1, ρ.le ρ1 → Rel α ρ1 H1 w1 → PRs α ρ1 c c' → Res E.P α ρ1 H1 w1 { g with mode := .panicking c' } cs rc (kp c H1))
    (hfk : ∀ v, (g.finish v).kind = g.kind ∧ (g.finish v).fn = g.fn ∧ (g.finish v).roundOf = g.roundOf) :
    Res E.P α ρ H w g cs rc (goIn E self fn f args H k kp) := by
  unfold goIn
  cases hS : E.S f args H with
  | some r =>
    obtain ⟨v, H'⟩ := r
    obtain ⟨v', w', ρ', h1, h2, h3⟩ := hE.S f args H v H' hS α ρ w args' hr ha g cs
    exact Res.of_steps (Steps.head hs h1) h2 (Turned.refl _ _) (hfk v').1 (hfk v').2.1 (hfk v').2.2 (hk v v' H' w' ρ' h2.ext h2.rel h3)
  | none =>
    cases he : enterA E.P f args false with
    | none => trivial
    | some fr =>
      have hfr := enterA_fr (d := false) ha he
      have hres := ih fr .no H (Frame.enter E.P f args' .normal) w (g :: cs) ρ hr hfr (by
        show recOf (Frame.enter E.P f args' .normal).kind (g :: cs) = none
        rfl)
      show Res E.P α ρ H w g cs rc (Out.rec (motive := fun _ => Out) (fun v _ H' => k v H') (fun c _ H' => kp c H') (fun why => .bad (fn :: why)) (self fr .no H))
      cases ho : self fr .no H with
      | bad why => trivial
      | ret v rc' H' =>
        rw [ho] at hres
        obtain ⟨v', w', ρ', cs', h1, h2, h3, h4, _⟩ := hres
        obtain ⟨_, rfl⟩ := h3.no
        exact Res.of_steps (Steps.head hs (h4 g cs rfl)) h1 (Turned.refl _ _) (hfk v').1 (hfk v').2.1 (hfk v').2.2 (hk v v' H' w' ρ' h1.ext h1.rel h2)
      | pan c rc' H' =>
        rw [ho] at hres
        obtain ⟨c', w', ρ', cs', h1, h2, h3, h4⟩ := hres
        obtain ⟨_, rfl⟩ := h3.no
        have hraise : g.raise c' = { g with mode := .panicking c' } := by simp [Frame.raise, hgr]
        have := h4 g cs rfl
        rw [hraise] at this
        exact Res.of_steps (Steps.head hs this) h1 (Turned.refl _ _) rfl rfl rfl (hkp c c' H' w' ρ' h1.ext h1.rel h2)

/-- the frame in a region -/
abbrev inReg (fn : FuncId) (tm : Array Value) (ops : Array Oper) (l : List Nat) (k : List Item) (ds : List Deferred) (kd : CallKind) (ro : Option Nat) : Frame := ⟨fn, tm, .inRegion ops l :: k, ds, .run, kd, ro⟩

/-- what lies behind an operation, whatever it came to -/
structure Cont (E : Env) (α : Nat → Value) (ρ : Rho) (n fn : Nat) (ops : Array Oper) (l : List Nat) (k' : List Item) (kd : CallKind) (ro' : Option Nat) (k : KR) (kp : List (AV × Bool) → KR) : Prop where
  go : ∀ T ds rc H tm ds' w cs ρ1, ρ.le ρ1 → Rel α ρ1 H w → TR α ρ1 T n tm → DRs α ρ1 ds ds' → RCS α ρ1 rc kd cs → Res E.P α ρ1 H w (inReg fn tm ops l k' ds' kd ro') cs rc (k T ds rc H)
  pan : ∀ c c' T ds rc H tm ds' w cs ρ1 td, ρ.le ρ1 → Rel α ρ1 H w → TR α ρ1 T n tm → DRs α ρ1 ds ds' → RCS α ρ1 rc kd cs → PRs α ρ1 c c' → Res E.P α ρ1 H w ⟨fn, tm, td, ds', .panicking c', kd, ro'⟩ cs rc (kp c T ds rc H)
theorem Cont.mono {ρ1 : Rho} {ops : Array Oper} {l : List Nat} {k' : List Item} {kd : CallKind} {ro' : Option Nat} {k : KR} {kp : List (AV × Bool) → KR} (h : Cont E α ρ n fn ops l k' kd ro' k kp) (hle : ρ.le ρ1) : Cont E α ρ1 n fn ops l k' kd ro' k kp :=
  ⟨fun T ds rc H tm ds' w cs ρ2 h1 => h.go T ds rc H tm ds' w cs ρ2 (hle.trans h1), fun c c' T ds rc H tm ds' w cs ρ2 td h1 => h.pan c c' T ds rc H tm ds' w cs ρ2 td (hle.trans h1)⟩

theorem setParams_sound : ∀ (l : List (Nat × AV)) (l' : List (Nat × Value)) (T T1 : Tr AV) (tm : Array Value), l.map (·.1) = l'.map (·.1) → VRs α ρ (l.map (·.2)) (l'.map (·.2)) → TR α ρ T n tm → setParams n l T = some T1 →
    TR α ρ T1 n (l'.foldl (fun tm p => tm.setIfInBounds p.1 p.2) tm) := by
  intro l
  induction l with
  | nil =>
    intro l' T T1 tm h1 h2 h3 h4
    cases l' with
    | nil => cases h4; exact h3
    | cons p l' => simp at h1
  | cons p l ihl =>
    intro l' T T1 tm h1 h2 h3 h4
    cases l' with
    | nil => simp at h1
    | cons p' l' =>
      simp only [List.map_cons, List.cons.injEq] at h1
      simp only [List.map_cons] at h2
      cases h2 with
      | cons _ _ _ _ g1 g2 =>
        have h4' : bc (Nat.blt p.1 n) (setParams n l (T.put p.1 (some p.2))) none = some T1 := h4
        rw [bc_eq] at h4'
        split at h4'
        · rename_i hlt
          have := h3.put (blt_lt hlt) g1
          refine ihl l' _ T1 _ h1.2 g2 ?_ h4'
          show TR α ρ _ n (tm.setIfInBounds p'.1 p'.2)
          rw [← h1.1]; exact this
        · cases h4'

theorem yield_run {lo : Loc} {args' : Array Value} {r : Loop} (h : w.heap[lo.b]? = some (.loop r)) (hs : args'.size = r.params.size) :
    (Instr.yield lo.b args').run E.P w = .ok (.round lo.b r.fn ((r.params.zip args').foldl (fun tmps (t, a) => tmps.setIfInBounds t a) r.tmps) r.assign r.body) w := by
  have hg := getObj_run (P := E.P) h (by intro c e f; simp)
  simp [Instr.yield, Instr.getLoop, hg, hs]

theorem goER_res (hE : EnvOK E) (ih : Sound E α self) {ops : Array Oper} {i : Nat} {rest : List Nat} {k' : List Item} {kd : CallKind} {ro ro' : Option Nat} {k : KR} {kp : List (AV × Bool) → KR} {o : Oper}
    {T : Tr AV} {tm : Array Value} {ds : List ADef} {ds' : List Deferred} {r : ER}
    (hc : Cont E α ρ n fn ops rest k' kd ro' k kp) (ho : ops[i]? = some o) (hw : Region.wanted o (yielded ops tm) = true) (hkd : kd ≠ .wrapped) (hro : RR ρ ro ro') (hfn : ∃ F, E.P.funcs[fn]? = some F)
    (hnd : ro' = none ∨ (∀ c, o.op ≠ .defer c) ∨ ∃ f a, r = .defer f a)
    (hr : Rel α ρ H w) (hT : TR α ρ T n tm) (hds : DRs α ρ ds ds') (hrc : RCS α ρ rc kd cs)
    (hsp : OpSpec E.P α ρ H w (execOp (Frame.eval (inReg fn tm ops (i :: rest) k' ds' kd ro')) o) r) :
    Res E.P α ρ H w (inReg fn tm ops (i :: rest) k' ds' kd ro') cs rc (goER E self fn ro (dstC fn n o.dst) k kp T ds rc H r) := by
  cases r with
  | val v H' =>
    obtain ⟨v', w', ρ', h1, h2, h3⟩ := hsp
    have hd : ro' = none ∨ ∀ c, o.op ≠ .defer c := by
      rcases hnd with h | h | ⟨f, a, h⟩
      · exact .inl h
      · exact .inr h
      · cases h
    refine Res.of_step (s_opVal ho hw hd h1) h2 (Turned.refl _ _) rfl rfl rfl ?_
    exact dst_res (hT.mono h2.ext) h3 fun T' hT' => hc.go _ _ _ _ _ _ _ _ _ h2.ext h2.rel hT' (hds.mono h2.ext) (hrc.mono h2.ext)
  | skip H' =>
    obtain ⟨w', ρ', h1, h2⟩ := hsp
    have hd : ro' = none ∨ ∀ c, o.op ≠ .defer c := by
      rcases hnd with h | h | ⟨f, a, h⟩
      · exact .inl h
      · exact .inr h
      · cases h
    refine Res.of_step (s_opUnit ho hw hd h1) h2 (Turned.refl _ _) rfl rfl rfl ?_
    exact dst_res (hT.mono h2.ext) undef_vr fun T' hT' => hc.go _ _ _ _ _ _ _ _ _ h2.ext h2.rel hT' (hds.mono h2.ext) (hrc.mono h2.ext)
  | enter f args =>
    obtain ⟨args', h1, h2⟩ := hsp
    have hd : ro' = none ∨ ∀ c, o.op ≠ .defer c := by
      rcases hnd with h | h | ⟨f, a, h⟩
      · exact .inl h
      · exact .inr h
      · cases h
    refine goIn_res hE ih hr h2 (s_opEnter ho hw hd h1) rfl ?_ ?_ ?_
    · intro v v' H1 w1 ρ1 hle hr1 hv
      rw [s_opFinish ho]
      exact dst_res (hT.mono hle) hv fun T' hT' => hc.go _ _ _ _ _ _ _ _ _ hle hr1 hT' (hds.mono hle) (hrc.mono hle)
    · intro c c' H1 w1 ρ1 hle hr1 hp
      exact hc.pan c c' _ _ _ _ _ _ _ _ _ _ hle hr1 (hT.mono hle) (hds.mono hle) (hrc.mono hle) hp
    · intro v
      rw [s_opFinish ho]
      exact ⟨rfl, rfl, rfl⟩
  | yield l args =>
    obtain ⟨lo, args', h1, h2, h3⟩ := hsp
    have hd : ro' = none ∨ ∀ c, o.op ≠ .defer c := by
      rcases hnd with h | h | ⟨f, a, h⟩
      · exact .inl h
      · exact .inr h
      · cases h
    unfold goER
    simp only
    split
    · rename_i st pe f0 T0 n0 ps assign body d hl
      rw [bc_eq]
      split
      · rename_i hsz
        rw [Bool.and_eq_true] at hsz
        obtain ⟨hsz1, hsz2⟩ := hsz
        have hsz1' : args.length = ps.size := Nat.eq_of_beq_eq_true hsz1
        cases hset : setParams n0 (ps.toList.zip args) T0 with
        | none => trivial
        | some T1 =>
          obtain ⟨l2, ob, b1, b2, b3⟩ := hr.blk l _ hl
          rw [h1] at b1; cases b1
          cases b3 with
          | loop _ _ _ _ _ tmps _ _ _ _ ld _ c1 c2 =>
            have hlen : args'.size = ps.size := by have := h3.length; rw [← hsz1', this, Array.length_toList]
            rw [yield_run (E := E) b2 hlen] at h2
            have hstep := s_opRound (P := E.P) (f := fn) (tm := tm) (ds := ds') (kd := kd) (ro := ro') (k := k') (cs := cs) (w := w) ho hw hd h2
            have hz : (ps.zip args').foldl (fun tmps (t, a) => tmps.setIfInBounds t a) tmps = (ps.toList.zip args'.toList).foldl (fun tm p => tm.setIfInBounds p.1 p.2) tmps := by
              rw [← Array.foldl_toList, Array.toList_zip]
            have hl1 : (ps.toList.zip args).map (·.1) = (ps.toList.zip args'.toList).map (·.1) := by
              have e1 : ps.toList.length = args.length := by rw [Array.length_toList, hsz1']
              have e2 : ps.toList.length = args'.toList.length := by rw [Array.length_toList, Array.length_toList, hlen]
              rw [List.map_fst_zip (by omega), List.map_fst_zip (by omega)]
            have hl2 : VRs α ρ ((ps.toList.zip args).map (·.2)) ((ps.toList.zip args'.toList).map (·.2)) := by
              have e1 : ps.toList.length = args.length := by rw [Array.length_toList, hsz1']
              have e2 : ps.toList.length = args'.toList.length := by rw [Array.length_toList, Array.length_toList, hlen]
              rw [List.map_snd_zip (by omega), List.map_snd_zip (by omega)]
              exact h3
            have hT1 := setParams_sound _ _ T0 T1 tmps hl1 hl2 c1 hset
            have hfr : FrR E.P α ρ ⟨f0, n0, T1, [.code assign, .beginRound, .code body], [], .run, false, some l⟩ (Frame.round lo.b f0 ((ps.toList.zip args'.toList).foldl (fun tm p => tm.setIfInBounds p.1 p.2) tmps) assign body .normal) :=
              .mk _ _ _ _ _ _ _ _ _ _ _ _ _ hT1 (fun _ => .code _ _ _ (.beginRound _ _ (.code _ _ _ .nil))) .nil .run (.some l lo h1) (Option.isSome_iff_exists.1 hsz2) (fun _ => rfl)
            rw [hz] at hstep
            have hres := ih _ .no H _ w (inReg fn tm ops (i :: rest) k' ds' kd ro' :: cs) ρ hr hfr (by rfl)
            show Res E.P α ρ H w _ cs rc (match self ⟨f0, n0, T1, [.code assign, .beginRound, .code body], [], .run, false, some l⟩ .no H with
              | .ret v _ H' => (dstC fn n o.dst).run v (fun T => k T ds rc H') T
              | .pan c _ H' => kp c T ds rc H'
              | .bad why => .bad (fn :: why))
            cases hout : self ⟨f0, n0, T1, [.code assign, .beginRound, .code body], [], .run, false, some l⟩ .no H with
            | bad why => trivial
            | ret v rc' H' =>
              rw [hout] at hres
              obtain ⟨v', w', ρ', cs', g1, g2, g3, g4, _⟩ := hres
              obtain ⟨_, rfl⟩ := g3.no
              have g5 := g4 _ cs rfl
              have g6 : popF (Frame.round lo.b f0 ((ps.toList.zip args'.toList).foldl (fun tm p => tm.setIfInBounds p.1 p.2) tmps) assign body .normal).kind (inReg fn tm ops (i :: rest) k' ds' kd ro') v' =
                  inReg fn (putV o.dst tm v') ops rest k' ds' kd ro' := s_opFinish ho
              rw [g6] at g5
              refine Res.of_steps (Steps.head hstep g5) g1 (Turned.refl _ _) rfl rfl rfl ?_
              exact dst_res (hT.mono g1.ext) g2 fun T' hT' => hc.go _ _ _ _ _ _ _ _ _ g1.ext g1.rel hT' (hds.mono g1.ext) (hrc.mono g1.ext)
            | pan c rc' H' =>
              rw [hout] at hres
              obtain ⟨c', w', ρ', cs', g1, g2, g3, g4⟩ := hres
              obtain ⟨_, rfl⟩ := g3.no
              have g5 := g4 _ cs rfl
              refine Res.of_steps (Steps.head hstep g5) g1 (Turned.refl _ _) rfl rfl rfl ?_
              exact hc.pan c c' _ _ _ _ _ _ _ _ _ _ g1.ext g1.rel (hT.mono g1.ext) (hds.mono g1.ext) (hrc.mono g1.ext) g2
      · trivial
    · trivial
  | defer f args =>
    obtain ⟨hb, d, h1, h2⟩ := hsp
    cases hro with
    | some l lo e => trivial
    | none =>
      refine Res.of_step (s_opDefer ho hw h1) (Ev.refl hr) (Turned.refl _ _) rfl rfl rfl ?_
      exact dst_res hT undef_vr fun T' hT' => hc.go _ _ _ _ _ _ _ _ _ (.refl ρ) hr hT' (.call _ _ _ _ _ h2 hds) hrc
  | recov =>
    have h1 : (execOp (Frame.eval (inReg fn tm ops (i :: rest) k' ds' kd ro')) o).run E.P w = .ok .recover w := hsp
    cases hro with
    | some l lo e => trivial
    | none =>
      cases rc with
      | no =>
        have hq : recOf kd cs = none := hrc
        refine Res.of_step (s_opRecover hkd ho hw h1 hq) (Ev.refl hr) (Turned.refl _ _) rfl rfl rfl ?_
        exact dst_res hT .nili fun T' hT' => hc.go _ _ _ _ _ _ _ _ _ (.refl ρ) hr hT' hds hrc
      | done =>
        have hq : recOf kd cs = none := hrc
        refine Res.of_step (s_opRecover hkd ho hw h1 hq) (Ev.refl hr) (Turned.refl _ _) rfl rfl rfl ?_
        exact dst_res hT .nili fun T' hT' => hc.go _ _ _ _ _ _ _ _ _ (.refl ρ) hr hT' hds hrc
      | can v =>
        obtain ⟨q1, c, rest', v', older, q2, q3, q4⟩ := hrc
        subst q1 q2
        have hq : recOf .deferred (c :: rest') = some (v', { c with mode := .panicking ({ v := v', recovered := true } :: older) } :: rest') := by
          simp only [recOf, q3]
        refine Res.of_step (s_opRecover hkd ho hw h1 hq) (Ev.refl hr) (.inr ⟨v, c, rest', v', older, rfl, rfl, rfl, q3, rfl⟩) rfl rfl rfl ?_
        refine dst_res hT q4 fun T' hT' => hc.go _ _ .done _ _ _ _ _ _ (.refl ρ) hr hT' hds ?_
        show recOf .deferred _ = none
        simp only [recOf]
  | pan v =>
    obtain ⟨v', h1, h2⟩ := hsp
    have hd : ro' = none ∨ ∀ c, o.op ≠ .defer c := by
      rcases hnd with h | h | ⟨f, a, h⟩
      · exact .inl h
      · exact .inr h
      · cases h
    refine Res.of_step (s_opPanic ho hw hd h1) (Ev.refl hr) (Turned.refl _ _) rfl rfl rfl ?_
    exact hc.pan _ _ _ _ _ _ _ _ _ _ _ _ (.refl ρ) hr hT hds hrc (.cons _ _ _ _ _ h2 .nil)
end
end Go.Twin
