/- What an operation comes to: values, calls, panics. -/
import Derived.Test.YtgcdilelbeobmaaGreatDoorTwinOpsI
namespace Go.Twin
open Go

section
variable {α : Nat → Value} {ρ : Rho} {H H' : AH} {w : World} {P : Program}

/-- what an operation's run is, by what the reckoning says of it -/
def OpSpec (P : Program) (α : Nat → Value) (ρ : Rho) (H : AH) (w : World) (s : Sem Next) : ER → Prop
  | .val v H' => ∃ v' w' ρ', s.run P w = .ok (.value v') w' ∧ Ev α ρ H w ρ' H' w' ∧ VR α ρ' v v'
  | .skip H' => ∃ w' ρ', s.run P w = .ok .skip w' ∧ Ev α ρ H w ρ' H' w'
  | .enter f args => ∃ args', s.run P w = .ok (.enter f args') w ∧ VRs α ρ args args'.toList
  | .yield l args => ∃ lo args', ρ l = some lo ∧ s.run P w = (Instr.yield lo.b args').run P w ∧ VRs α ρ args args'.toList
  | .defer f args => hasBody P f = true ∧ ∃ d, s.run P w = .ok (.defer d) w ∧ DR α ρ f args d
  | .recov => s.run P w = .ok .recover w
  | .pan v => ∃ v', s.run P w = .halt (.panic v') w ∧ VR α ρ v v'

theorem vq_spec {o : Option AV} {s : Sem Value} {r : ER} (hr : Rel α ρ H w) (hs : ∀ v, o = some v → QV P α ρ w s v) (h : vq H o = some r) :
    OpSpec P α ρ H w (do pure (.value (← s))) r := by
  obtain ⟨v, h1, h2⟩ := ob_some.1 h
  cases h2
  obtain ⟨v', g1, g2⟩ := hs v h1
  exact ⟨v', w, ρ, by simp [g1], Ev.refl hr, g2⟩
theorem ve_spec {o : Option (AV × AH)} {s : Sem Value} {r : ER} (hs : ∀ v H', o = some (v, H') → EV P α ρ H w s v H') (h : ve o = some r) :
    OpSpec P α ρ H w (do pure (.value (← s))) r := by
  obtain ⟨⟨v, H'⟩, h1, h2⟩ := ob_some.1 h
  cases h2
  obtain ⟨v', w', ρ', g1, g2, g3⟩ := hs v H' h1
  exact ⟨v', w', ρ', by simp [g1], g2, g3⟩
theorem vs_spec {o : Option AH} {s : Sem Unit} {r : ER} (hs : ∀ H', o = some H' → ES P α ρ H w s H') (h : vs o = some r) :
    OpSpec P α ρ H w (do s; pure .skip) r := by
  obtain ⟨H', h1, h2⟩ := ob_some.1 h
  cases h2
  obtain ⟨w', ρ', g1, g2⟩ := hs H' h1
  exact ⟨w', ρ', by simp [g1], g2⟩

theorem hasBody_spec {f : FuncId} (h : hasBody P f = true) : ∀ args w, (callFunc f args).run P w = .ok (.enter f args) w := by
  intro args w
  unfold hasBody at h
  split at h
  · rename_i fn hf
    simp only [Bool.and_eq_true, Bool.not_eq_true'] at h
    obtain ⟨h1, h2⟩ := h
    have h3 : fn.body ≠ none := by
      intro hb; rw [hb] at h1; cases h1
    have h2' : fn.name ≠ "runtime.NumGoroutine" := by simpa using h2
    simp [callFunc, hf, h2', h3]
  · cases h

theorem callee_spec {g : AV} {g' : Value} {args : List AV} {args' : List Value} {f : FuncId} {as : List AV} (hg : VR α ρ g g') (ha : VRs α ρ args args') (h : calleeA P g args = some (f, as)) :
    hasBody P f = true ∧ ∃ d : Deferred, (∀ w, (Deferred.ofValue g' ⟨args'⟩).run P w = .ok d w) ∧ DR α ρ f as d := by
  unfold calleeA at h
  split at h
  · cases hg with
    | f _ a c a' c' h1 h2 =>
      rw [bc_eq] at h
      split at h
      · rename_i hb
        cases h
        refine ⟨hb, ⟨.fn (.func f) ⟨c'⟩, ⟨a' ++ args'⟩⟩, fun w => by simp [Deferred.ofValue], ⟨c'⟩, rfl, ?_⟩
        simpa using h1.append (ha.append h2)
      · cases h
  · cases h
theorem DR.invoke {f : FuncId} {as : List AV} {d : Deferred} (hb : hasBody P f = true) (h : DR α ρ f as d) :
    ∃ args', (∀ w, (invoke d.target d.args).run P w = .ok (.enter f args') w) ∧ VRs α ρ as args'.toList := by
  obtain ⟨cap, h1, h2⟩ := h
  refine ⟨d.args ++ cap, fun w => ?_, by simpa using h2⟩
  rw [h1]
  exact hasBody_spec hb _ w

theorem nilCheck_spec {x v : AV} {e : Operand → Value} {X : Operand} {o : Oper} (hr : Rel α ρ H w) (ho : o.op = .nilCheck X) (hx : VR α ρ x (e X)) (h : nilCheckA x = some v) :
    ∃ v', (execOp e o).run P w = .ok (.value v') w ∧ VR α ρ v v' := by
  unfold nilCheckA at h
  refine ⟨e X, ?_, ?_⟩
  · split at h <;> first | (cases h; done) | (generalize hE : e X = E at hx; cases hx <;> simp [execOp, ho, hE])
  · split at h <;> first | (cases h; done) | (cases h; exact hx)

theorem method_spec {t : TypeId} {v u : AV} {v' : Value} {name : String} {f : FuncId} (hv : VR α ρ v v') (h : methodA P t v name = some (f, u)) :
    hasBody P f = true ∧ ∃ u', (∀ n w, (method (n + 1) t v' name).run P w = .ok (f, u') w) ∧ VR α ρ u u' := by
  obtain ⟨i, h1, h2⟩ := ob_some.1 h
  have hti : ∀ w, (typeInfo t).run P w = .ok i w := fun w => by simp [typeInfo, h1]
  split at h2
  · rename_i m hm
    split at h2
    · rename_i f0 pr hp hf
      have hu : ∀ d, P.underlying t = some d → ∀ w, (underlying t).run P w = .ok d w := fun d hd w => by simp [underlying, hd]
      have key : ∀ d, P.underlying t = some d → ((∃ e, d = .pointer e) ↔ pr = true) → ∀ n w, (method (n + 1) t v' name).run P w = .ok (f0, v') w := by
        intro d hd hpr n w
        have : ∀ q, (receiverAt t (.val v') pr q).run P w = .ok v' w := by
          intro q
          cases pr with
          | true =>
            obtain ⟨e, rfl⟩ := hpr.2 rfl
            simp [receiverAt, hu _ hd, Place.get]
          | false =>
            have hne : ∀ e, d ≠ .pointer e := fun e he => by simpa using hpr.1 ⟨e, he⟩
            cases d <;> first | (exact absurd rfl (hne _)) | simp [receiverAt, hu _ hd, Place.get]
        simp [method, hti, hm, hp, hf, follow, this]
      cases hd : P.underlying t with
      | none => rw [hd] at h2; cases pr <;> cases h2
      | some d =>
        rw [hd] at h2
        have h3 : ((∃ e, d = .pointer e) ↔ pr = true) ∧ bc (hasBody P f0) (some (f0, v)) none = some (f, u) := by
          cases d <;> cases pr <;> first | (cases h2; done) | exact ⟨by simp, h2⟩
        obtain ⟨h3, h4⟩ := h3
        rw [bc_eq] at h4
        split at h4
        · rename_i hb; cases h4
          exact ⟨hb, v', key _ hd h3, hv⟩
        · cases h4
    · cases h2
  · cases h2

theorem delete2 (hr : Rel α ρ H w) {t : TypeId} {ts : List TypeId} {ty : TypeId} {m k : AV} {as' : List Value} (ha : VRs α ρ [m, k] as') (h : deleteA P H t m k = some H') :
    EV P α ρ H w (Builtin.delete_ ⟨t :: ts⟩ ty ⟨as'⟩) (.tu []) H' := by
  cases ha with | cons _ m' _ l h1 h2 => cases h2 with | cons _ k' _ l2 h3 h4 => cases h4; exact delete_sound hr h1 h3 h
theorem builtin_spec (hr : Rel α ρ H w) {b : Builtin} {ts : List TypeId} {ty : TypeId} {cs : Array Bool} {args : List AV} {args' : List Value} {r : ER} (ha : VRs α ρ args args')
    (h : builtinA P H b ts args = some r) : OpSpec P α ρ H w (builtin b ⟨ts⟩ ty cs ⟨args'⟩) r := by
  unfold builtinA at h
  split at h
  · exact ve_spec (fun v H' h => append_sound hr ha h) h
  · exact ve_spec (fun v H' h => copy_sound hr ha h) h
  · split at h
    · cases ha with | cons _ x' _ l h1 h2 => cases h2; exact vq_spec hr (fun v h => len_sound hr h1 h) h
    · cases h
  · split at h
    · cases ha with | cons _ x' _ l h1 h2 => cases h2; exact vq_spec hr (fun v h => cap_sound h1 h) h
    · cases h
  · exact vq_spec hr (fun v h => min_sound (b := true) (ts := ⟨ts⟩) (ty := ty) ha h) h
  · exact vq_spec hr (fun v h => min_sound (b := false) (ts := ⟨ts⟩) (ty := ty) ha h) h
  · exact ve_spec (fun v H' h => clear_sound hr ha h) h
  · split at h
    · obtain ⟨H', h1, h2⟩ := ob_some.1 h
      cases h2
      exact ve_spec (o := some (.tu [], H')) (fun v H'' h => by cases h; exact delete2 hr ha h1) rfl
    · cases h
  · cases h; rfl
  · cases h

theorem call_spec (hr : Rel α ρ H w) {T : Tr AV} {e : Operand → Value} (he : EvOK α ρ T e) {c : Call} {ty : TypeId} {r : ER} (h : callA P T H c = some r) :
    OpSpec P α ρ H w (do let d ← resolve e c ty; invoke d.target d.args) r := by
  obtain ⟨args, h1, h⟩ := ob_some.1 h
  have ha := evs_sound he h1
  have hargs : c.args.map e = ⟨c.args.toList.map e⟩ := by apply Array.ext'; simp
  split at h
  · rename_i b hc
    have := builtin_spec (ty := ty) (cs := c.args.map fun | .const _ => true | _ => false) hr ha h
    have e1 : (do let d ← resolve e c ty; invoke d.target d.args) = builtin b ⟨c.argTypes.toList⟩ ty (c.args.map fun | .const _ => true | _ => false) ⟨c.args.toList.map e⟩ := by
      simp only [resolve, hc, hargs]
      rfl
    rw [e1]; exact this
  · rename_i f hc
    obtain ⟨g, h2, h⟩ := ob_some.1 h
    have hg := he _ _ h2
    have e1 : (do let d ← resolve e c ty; invoke d.target d.args) = (do let d ← Deferred.ofValue (e f) ⟨c.args.toList.map e⟩; invoke d.target d.args) := by
      simp only [resolve, hc, hargs]
    rw [e1]
    split at h
    · cases h
      generalize e f = E at hg
      cases hg with
      | fy _ lo hlo =>
        refine ⟨lo, ⟨c.args.toList.map e⟩, hlo, ?_, ha⟩
        simp [Deferred.ofValue, invoke]
    · obtain ⟨⟨f1, as⟩, h3, h4⟩ := ob_some.1 h
      cases h4
      obtain ⟨hb, d, k1, k2⟩ := callee_spec hg ha h3
      obtain ⟨args', k3, k4⟩ := k2.invoke hb
      exact ⟨args', by simp [k1, k3], k4⟩
  · rename_i x name hc
    obtain ⟨g, h2, h⟩ := ob_some.1 h
    have hg := he _ _ h2
    split at h
    · rename_i t v
      obtain ⟨⟨f, u⟩, h3, h4⟩ := ob_some.1 h
      cases h4
      generalize hE : e x = E at hg
      cases hg with
      | ifc _ _ v' hv =>
        obtain ⟨hb, u', k1, k2⟩ := method_spec hv h3
        refine ⟨#[u'] ++ ⟨c.args.toList.map e⟩, ?_, by simpa using VRs.cons _ _ _ _ k2 ha⟩
        have e2 : (P.types.size + Made.depth) = (P.types.size + (Made.depth - 1)) + 1 := rfl
        have k3 := k1 (P.types.size + (Made.depth - 1)) w
        rw [← e2] at k3
        have k4 := hasBody_spec hb (#[u'] ++ ⟨c.args.toList.map e⟩) w
        simp only [resolve, hc, hargs, hE, Sem.run_bind, Sem.run_pure, Result.andThen_ok, invoke]
        have e3 : (#[Value.iface t v'] ++ (⟨c.args.toList.map e⟩ : Array Value))[0]? = some (.iface t v') := by simp
        have e4 : (#[Value.iface t v'] ++ (⟨c.args.toList.map e⟩ : Array Value)).extract 1 (#[Value.iface t v'] ++ (⟨c.args.toList.map e⟩ : Array Value)).size = ⟨c.args.toList.map e⟩ := by
          apply Array.ext'; simp
          exact List.take_of_length_le (by simp)
        simp only [e3, e4, callMethod]
        have hp : ∀ w, Sem.run P Go.program w = .ok P w := fun w => rfl
        simp only [Sem.run_bind, hp, Result.andThen_ok, k3]
        exact k4
    · cases h

theorem map_list {β γ : Type} (f : β → γ) (a : Array β) : a.map f = ⟨a.toList.map f⟩ := by apply Array.ext'; simp
theorem panic_spec {v : AV} {v' : Value} {t : TypeId} (hv : VR α ρ (.ifc t v) v') : ∃ u, (Instr.panic v').run P w = .halt (.panic u) w ∧ VR α ρ (.ifc t v) u := by
  cases hv with
  | ifc _ _ u h => exact ⟨_, rfl, .ifc _ _ _ h⟩

theorem evalOp_sound (hr : Rel α ρ H w) {T : Tr AV} {e : Operand → Value} (he : EvOK α ρ T e) {o : Oper} {r : ER} (h : evalOp P T H o.op = some r) : OpSpec P α ρ H w (execOp e o) r := by
  unfold evalOp at h
  split at h <;> rename_i ho
  · obtain ⟨v, h1, h2⟩ := ob_some.1 h; cases h2
    exact ⟨_, w, ρ, by simp only [execOp, ho]; rfl, Ev.refl hr, he _ _ h1⟩
  · obtain ⟨v, h1, h2⟩ := ob_some.1 h; cases h2
    exact ⟨_, w, ρ, by simp only [execOp, ho]; rfl, Ev.refl hr, he _ _ h1⟩
  · simp only [execOp, ho]
    obtain ⟨u, h1, h⟩ := ob_some.1 h
    cases h
    obtain ⟨c, h2, h⟩ := ob_some.1 h1
    have hc := he _ _ h2
    split at h
    · generalize e _ = E at hc; cases hc
      exact ⟨_, w, ρ, by simp [asBool], Ev.refl hr, he _ _ h⟩
    · generalize e _ = E at hc; cases hc
      exact ⟨_, w, ρ, by simp [asBool], Ev.refl hr, he _ _ h⟩
    · cases h
  · simp only [execOp, ho]
    exact ve_spec (fun v H' h => alloc_sound hr h) h
  · simp only [execOp, ho]
    obtain ⟨a, h1, h⟩ := ob_some.1 h
    exact ve_spec (fun v H' h => box_sound hr (he _ _ h1) h) h
  · simp only [execOp, ho]
    obtain ⟨a, h1, h⟩ := ob_some.1 h
    obtain ⟨k1, k2⟩ := partsA_sound he h1
    refine vq_spec hr (fun v h => ?_) h
    have := build_sound (w := w) k1 k2 h
    rw [map_list]; exact this
  · simp only [execOp, ho]
    obtain ⟨a, h1, h⟩ := ob_some.1 h
    obtain ⟨k1, k2⟩ := partsA_sound he h1
    refine ve_spec (fun v H' h => ?_) h
    have := buildSlice_sound hr k1 k2 h
    rw [map_list]; exact this
  · simp only [execOp, ho]
    obtain ⟨a, h1, h⟩ := ob_some.1 h
    exact vq_spec hr (fun v h => load_sound hr (he _ _ h1) h) h
  · simp only [execOp, ho]
    obtain ⟨a, h1, h⟩ := ob_some.1 h
    obtain ⟨b, h2, h⟩ := ob_some.1 h
    exact vs_spec (fun H' h => store_sound hr (he _ _ h1) (he _ _ h2) h) h
  · obtain ⟨a, h1, h⟩ := ob_some.1 h
    obtain ⟨v, h2, h⟩ := ob_some.1 h
    cases h
    obtain ⟨v', k1, k2⟩ := nilCheck_spec hr ho (he _ _ h1) h2
    exact ⟨v', w, ρ, k1, Ev.refl hr, k2⟩
  · simp only [execOp, ho]
    obtain ⟨a, h1, h⟩ := ob_some.1 h
    obtain ⟨b, h2, h⟩ := ob_some.1 h
    exact vq_spec hr (fun v h => bop_sound (he _ _ h1) (he _ _ h2) h) h
  · simp only [execOp, ho]
    obtain ⟨a, h1, h⟩ := ob_some.1 h
    exact vq_spec hr (fun v h => uop_sound (he _ _ h1) h) h
  · simp only [execOp, ho]
    obtain ⟨a, h1, h⟩ := ob_some.1 h
    exact ve_spec (fun v H' h => conv_sound hr (he _ _ h1) h) h
  · simp only [execOp, ho]
    obtain ⟨a, h1, h⟩ := ob_some.1 h
    exact vq_spec hr (fun v h => iface_sound (he _ _ h1) h) h
  · simp only [execOp, ho]
    obtain ⟨a, h1, h⟩ := ob_some.1 h
    obtain ⟨b, h2, h⟩ := ob_some.1 h
    split at h
    · cases h
      refine ⟨_, w, ρ, ?_, Ev.refl hr, .f _ _ _ _ _ (evs_sound he h1) (evs_sound he h2)⟩
      rw [map_list, map_list]
      simp [Instr.makeFunc]
    · cases h
  · simp only [execOp, ho]
    exact ve_spec (fun v H' h => makeMap_sound hr h) h
  · simp only [execOp, ho]
    obtain ⟨a, h1, h⟩ := ob_some.1 h
    obtain ⟨b, h2, h⟩ := ob_some.1 h
    exact ve_spec (fun v H' h => makeSlice_sound hr (he _ _ h1) (he _ _ h2) h) h
  · simp only [execOp, ho]
    obtain ⟨a, h1, h⟩ := ob_some.1 h
    obtain ⟨b, h2, h⟩ := ob_some.1 h
    obtain ⟨c, h3, h⟩ := ob_some.1 h
    obtain ⟨d, h4, h⟩ := ob_some.1 h
    exact vq_spec hr (fun v h => slice_sound (he _ _ h1) (opt_sound he h2) (opt_sound he h3) (opt_sound he h4) h) h
  · simp only [execOp, ho]
    obtain ⟨a, h1, h⟩ := ob_some.1 h
    exact vq_spec hr (fun v h => fieldAddr_sound (he _ _ h1) h) h
  · simp only [execOp, ho]
    obtain ⟨a, h1, h⟩ := ob_some.1 h
    exact vq_spec hr (fun v h => field_sound (he _ _ h1) h) h
  · simp only [execOp, ho]
    obtain ⟨a, h1, h⟩ := ob_some.1 h
    obtain ⟨b, h2, h⟩ := ob_some.1 h
    exact vq_spec hr (fun v h => indexAddr_sound (he _ _ h1) (he _ _ h2) h) h
  · simp only [execOp, ho]
    obtain ⟨a, h1, h⟩ := ob_some.1 h
    obtain ⟨b, h2, h⟩ := ob_some.1 h
    exact vq_spec hr (fun v h => index_sound (he _ _ h1) (he _ _ h2) h) h
  · simp only [execOp, ho]
    obtain ⟨a, h1, h⟩ := ob_some.1 h
    obtain ⟨b, h2, h⟩ := ob_some.1 h
    exact vq_spec hr (fun v h => lookup_sound hr (he _ _ h1) (he _ _ h2) h) h
  · simp only [execOp, ho]
    obtain ⟨a, h1, h⟩ := ob_some.1 h
    obtain ⟨b, h2, h⟩ := ob_some.1 h
    obtain ⟨c, h3, h⟩ := ob_some.1 h
    exact vs_spec (fun H' h => mapUpdate_sound hr (he _ _ h1) (he _ _ h2) (he _ _ h3) h) h
  · simp only [execOp, ho]
    obtain ⟨a, h1, h⟩ := ob_some.1 h
    obtain ⟨b, h2, h⟩ := ob_some.1 h
    obtain ⟨c, h3, h⟩ := ob_some.1 h
    exact vs_spec (fun H' h => mapUpdate_sound hr (he _ _ h1) (he _ _ h2) (he _ _ h3) h) h
  · simp only [execOp, ho]
    obtain ⟨a, h1, h⟩ := ob_some.1 h
    exact ve_spec (fun v H' h => range_sound hr (he _ _ h1) h) h
  · simp only [execOp, ho]
    obtain ⟨a, h1, h⟩ := ob_some.1 h
    exact ve_spec (fun v H' h => next_sound hr (he _ _ h1) h) h
  · simp only [execOp, ho]
    obtain ⟨a, h1, h⟩ := ob_some.1 h
    exact vq_spec hr (fun v h => entry_sound hr (he _ _ h1) h) h
  · simp only [execOp, ho]
    obtain ⟨a, h1, h⟩ := ob_some.1 h
    exact vq_spec hr (fun v h => typeAssert_sound (he _ _ h1) h) h
  · simp only [execOp, ho]
    obtain ⟨a, h1, h⟩ := ob_some.1 h
    exact vq_spec hr (fun v h => extract_sound (he _ _ h1) h) h
  · simp only [execOp, ho]
    exact call_spec hr he h
  · simp only [execOp, ho]
    obtain ⟨args, h1, h⟩ := ob_some.1 h
    split at h
    · rename_i f hc
      obtain ⟨g, h2, h⟩ := ob_some.1 h
      obtain ⟨⟨f1, as⟩, h3, h⟩ := ob_some.1 h
      cases h
      obtain ⟨hb, d, k1, k2⟩ := callee_spec (he _ _ h2) (evs_sound he h1) h3
      refine ⟨hb, d, ?_, k2⟩
      simp only [resolve, hc, map_list, Sem.run_bind, k1, Result.andThen_ok, Sem.run_pure]
    · cases h
  · simp only [execOp, ho]
    obtain ⟨a, h1, h⟩ := ob_some.1 h
    split at h
    · cases h
      obtain ⟨u, k1, k2⟩ := panic_spec (P := P) (w := w) (he _ _ h1)
      exact ⟨u, by simp [k1], k2⟩
    · cases h
  · cases h
end
end Go.Twin
