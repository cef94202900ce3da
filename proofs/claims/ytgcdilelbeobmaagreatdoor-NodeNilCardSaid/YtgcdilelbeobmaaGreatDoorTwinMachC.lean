/- Regions: the machine follows. -/
import Derived.Test.YtgcdilelbeobmaaGreatDoorTwinMachB
namespace Go.Twin
open Go

section
variable {E : Env} {α : Nat → Value} {ρ : Rho} {H : AH} {w : World} {cs : List Frame} {rc : RC} {n fn : Nat} {self : Self}

theorem wantedA_sound {T : Tr AV} {tm : Array Value} {ops : Array Oper} {o : Oper} {b : Bool} (hT : TR α ρ T n tm) (h : wantedA T ops.toList o = some b) : Region.wanted o (yielded ops tm) = b := by
  unfold wantedA at h
  unfold Region.wanted
  split at h
  · rename_i hg; rw [hg]; cases h; rfl
  · rename_i j want hg
    rw [hg]
    simp only
    rw [lget_eq, Array.getElem?_toList] at h
    unfold yielded
    cases hj : ops[j]? with
    | none => rw [hj] at h; cases h; rfl
    | some oj =>
      rw [hj] at h
      simp only at h
      cases hd : oj.dst with
      | none => rw [hd] at h; cases h; simp [hd]
      | some d =>
        rw [hd] at h
        simp only at h
        simp only [Option.bind_some, hd]
        cases ht : T.get d with
        | none => rw [ht] at h; cases h
        | some a =>
          have hv := hT.2 d a ht
          rw [Array.getD_eq_getD_getElem?] at hv
          rw [ht] at h
          cases hq : tm[d]? with
          | none =>
            rw [hq] at hv
            simp only [Option.getD_none] at hv
            cases a <;> first | (cases h; rfl) | (cases h; done) | (cases hv; done)
          | some u =>
            rw [hq] at hv
            simp only [Option.getD_some] at hv
            cases hv <;> first | (cases h; rfl) | (cases h; done)

theorem evalOp_defer {P : Program} {T : Tr AV} {c : Call} {r : ER} (h : evalOp P T H (.defer c) = some r) : ∃ f a, r = .defer f a := by
  have h' : deferA P T c = some r := h
  unfold deferA at h'
  obtain ⟨args, h1, h2⟩ := ob_some.1 h'
  split at h2
  · obtain ⟨g, h3, h4⟩ := ob_some.1 h2
    obtain ⟨q, h5, h6⟩ := ob_some.1 h4
    cases h6
    exact ⟨_, _, rfl⟩
  · cases h2

theorem opS_res (hE : EnvOK E) (ih : Sound E α self) {ops : Array Oper} {i : Nat} {rest : List Nat} {k' : List Item} {kd : CallKind} {ro ro' : Option Nat} {k : KR} {kp : List (AV × Bool) → KR} {o : Oper}
    {T : Tr AV} {tm : Array Value} {ds : List ADef} {ds' : List Deferred}
    (hc : Cont E α ρ n fn ops rest k' kd ro' k kp) (ho : ops[i]? = some o) (hw : Region.wanted o (yielded ops tm) = true) (hkd : kd ≠ .wrapped) (hro : RR ρ ro ro') (hfn : ∃ F, E.P.funcs[fn]? = some F)
    (hr : Rel α ρ H w) (hT : TR α ρ T n tm) (hds : DRs α ρ ds ds') (hrc : RCS α ρ rc kd cs) :
    Res E.P α ρ H w (inReg fn tm ops (i :: rest) k' ds' kd ro') cs rc ((opS E fn n o).run self ro k kp T ds rc H) := by
  have hs := opC_sound (P := E.P) hr (evOK_frame (inReg fn tm ops (i :: rest) k' ds' kd ro') hT) o
  have key : ∀ r, (ro' = none ∨ (∀ c, o.op ≠ .defer c) ∨ ∃ f a, r = .defer f a) → OpSpec E.P α ρ H w (execOp (Frame.eval (inReg fn tm ops (i :: rest) k' ds' kd ro')) o) r →
      Res E.P α ρ H w (inReg fn tm ops (i :: rest) k' ds' kd ro') cs rc (goER E self fn ro (dstC fn n o.dst) k kp T ds rc H r) :=
    fun r hnd hsp => goER_res hE ih hc ho hw hkd hro hfn hnd hr hT hds hrc hsp
  have hdef : ∀ c, o.op = .defer c → opC E.P o.op = .e fun T H => evalOp E.P T H o.op := by intro c e; rw [e]; rfl
  unfold opS
  cases hco : opC E.P o.op with
  | q f =>
    rw [hco] at hs hdef
    show Res E.P α ρ H w _ cs rc (Option.rec (motive := fun _ => Out) (.bad [fn, 2, o.dst.getD 9999]) (fun v => (dstC fn n o.dst).run v (fun T => k T ds rc H) T) (f T))
    cases hf : f T with
    | none => trivial
    | some v => exact key (.val v H) (.inr (.inl fun c e => by cases hdef c e)) (hs v hf)
  | h f =>
    rw [hco] at hs hdef
    show Res E.P α ρ H w _ cs rc (Option.rec (motive := fun _ => Out) (.bad [fn, 2, o.dst.getD 9999]) (fun v => (dstC fn n o.dst).run v (fun T => k T ds rc H) T) (f T H.t))
    cases hf : f T H.t with
    | none => trivial
    | some v => exact key (.val v H) (.inr (.inl fun c e => by cases hdef c e)) (hs v hf)
  | s f =>
    rw [hco] at hs hdef
    show Res E.P α ρ H w _ cs rc (Option.rec (motive := fun _ => Out) (.bad [fn, 2, o.dst.getD 9999]) (fun t' => t'.sk fun t' => (dstC fn n o.dst).run (.tu []) (fun T => k T ds rc ⟨t', H.next⟩) T) (f T H.t))
    cases hf : f T H.t with
    | none => trivial
    | some t' =>
      show Res E.P α ρ H w _ cs rc (t'.sk fun t' => (dstC fn n o.dst).run (.tu []) (fun T => k T ds rc ⟨t', H.next⟩) T)
      rw [Tr.sk_eq]
      exact key (.skip ⟨t', H.next⟩) (.inr (.inl fun c e => by cases hdef c e)) (hs t' hf)
  | e f =>
    rw [hco] at hs hdef
    show Res E.P α ρ H w _ cs rc (Option.rec (motive := fun _ => Out) (.bad [fn, 2, o.dst.getD 9999]) (fun r => goER E self fn ro (dstC fn n o.dst) k kp T ds rc H r) (f T H))
    cases hf : f T H with
    | none => trivial
    | some r =>
      refine key r ?_ (hs r hf)
      by_cases hd : ∃ c, o.op = .defer c
      · obtain ⟨c, e⟩ := hd
        have := hdef c e
        cases this
        rw [e] at hf
        exact .inr (.inr (evalOp_defer hf))
      · exact .inr (.inl fun c e => hd ⟨c, e⟩)

theorem opG_res (hE : EnvOK E) (ih : Sound E α self) {ops : Array Oper} {i : Nat} {rest : List Nat} {k' : List Item} {kd : CallKind} {ro ro' : Option Nat} {k : KR} {kp : List (AV × Bool) → KR} {o : Oper}
    {T : Tr AV} {tm : Array Value} {ds : List ADef} {ds' : List Deferred}
    (hc : Cont E α ρ n fn ops rest k' kd ro' k kp) (ho : ops[i]? = some o) (hkd : kd ≠ .wrapped) (hro : RR ρ ro ro') (hfn : ∃ F, E.P.funcs[fn]? = some F)
    (hr : Rel α ρ H w) (hT : TR α ρ T n tm) (hds : DRs α ρ ds ds') (hrc : RCS α ρ rc kd cs) :
    Res E.P α ρ H w (inReg fn tm ops (i :: rest) k' ds' kd ro') cs rc ((opG E fn n ops.toList o).run self ro k kp T ds rc H) := by
  unfold opG
  split
  · rename_i hg
    exact opS_res hE ih hc ho (by simp [Region.wanted, hg]) hkd hro hfn hr hT hds hrc
  · show Res E.P α ρ H w _ cs rc (Option.rec (motive := fun _ => Out) (.bad [fn, 1]) (fun w => bc w ((opS E fn n o).run self ro k kp T ds rc H) ((dstC fn n o.dst).run (.tu []) (fun T => k T ds rc H) T)) (wantedA T ops.toList o))
    cases hwa : wantedA T ops.toList o with
    | none => trivial
    | some b =>
      have hw := wantedA_sound hT hwa
      cases b with
      | true => exact opS_res hE ih hc ho hw hkd hro hfn hr hT hds hrc
      | false =>
        refine Res.quiet (g1 := inReg fn (putV o.dst tm undef) ops rest k' ds' kd ro') hr (s_opSkip ho hw) rfl rfl rfl ?_
        exact dst_res hT undef_vr fun T' hT' => hc.go _ _ _ _ _ _ _ _ _ (.refl ρ) hr hT' hds hrc

theorem regC_res (hE : EnvOK E) (ih : Sound E α self) {ops : Array Oper} {k' : List Item} {kd : CallKind} {ro ro' : Option Nat} {k : KR} {kp : List (AV × Bool) → KR} (hkd : kd ≠ .wrapped) (hfn : ∃ F, E.P.funcs[fn]? = some F) :
    ∀ (rest : List Oper) (i : Nat), ops.toList.drop i = rest → ∀ (ρ : Rho) (H : AH) (w : World) (cs : List Frame) (rc : RC) (T : Tr AV) (tm : Array Value) (ds : List ADef) (ds' : List Deferred),
    Cont E α ρ n fn ops [] k' kd ro' k kp → RR ρ ro ro' → Rel α ρ H w → TR α ρ T n tm → DRs α ρ ds ds' → RCS α ρ rc kd cs →
    Res E.P α ρ H w (inReg fn tm ops (List.range' i rest.length) k' ds' kd ro') cs rc ((regC E fn n ops.toList rest).run self ro k kp T ds rc H) := by
  intro rest
  induction rest with
  | nil =>
    intro i _ ρ H w cs rc T tm ds ds' hc hro hr hT hds hrc
    exact hc.go T ds rc H tm ds' w cs ρ (.refl ρ) hr hT hds hrc
  | cons o rest ihr =>
    intro i hi ρ H w cs rc T tm ds ds' hc hro hr hT hds hrc
    have ho : ops[i]? = some o := by
      rw [← Array.getElem?_toList]
      have : (ops.toList.drop i)[0]? = some o := by rw [hi]; rfl
      rw [List.getElem?_drop] at this
      simpa using this
    have hi' : ops.toList.drop (i + 1) = rest := by
      rw [← List.drop_drop, hi]; rfl
    have e : List.range' i (o :: rest).length = i :: List.range' (i + 1) rest.length := rfl
    rw [e]
    show Res E.P α ρ H w _ cs rc ((opG E fn n ops.toList o).run self ro (fun T ds rc H => (regC E fn n ops.toList rest).run self ro k kp T ds rc H) kp T ds rc H)
    refine opG_res hE ih ⟨?_, hc.pan⟩ ho hkd hro hfn hr hT hds hrc
    intro T1 ds1 rc1 H1 tm1 ds1' w1 cs1 ρ1 hle hr1 hT1 hds1 hrc1
    exact ihr (i + 1) hi' ρ1 H1 w1 cs1 rc1 T1 tm1 ds1 ds1' (hc.mono hle) (hro.mono hle) hr1 hT1 hds1 hrc1
end
end Go.Twin
