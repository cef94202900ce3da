/- Leaving, unwinding, ranging, code: the machine follows. -/
import Derived.Test.YtgcdilelbeobmaaGreatDoorTwinMachD
namespace Go.Twin
open Go

section
variable {E : Env} {α : Nat → Value} {ρ : Rho} {H : AH} {w : World} {cs : List Frame} {rc : RC} {n fn : Nat} {self : Self} {P : Program}

theorem exitTo_sound : ∀ {k : List AItem} {k' : List Item} (id : Nat), IRs ρ k k' → (∀ r, exitToA id k = some r → ∃ r', exitTo id k' = some r' ∧ IRs ρ r r') ∧ (exitToA id k = none → exitTo id k' = none) := by
  intro k
  induction k with
  | nil => intro k' id h; cases h; exact ⟨fun r e => by simp [exitToA] at e, fun _ => rfl⟩
  | cons a k ih =>
    intro k' id h
    cases h with
    | code c _ l' h => have := ih id h; simpa only [exitToA, exitTo] using this
    | inBlock j _ l' h =>
      simp only [exitToA, exitTo]
      by_cases hj : j = id
      · subst hj
        have : Nat.beq j j = true := Nat.beq_refl j
        simp only [this, cond_true, beq_self_eq_true, if_true]
        exact ⟨fun r e => by cases e; exact ⟨_, rfl, h⟩, fun e => by cases e⟩
      · have h1 : Nat.beq j id = false := nat_beq_false hj
        have h2 : (j == id) = false := by simpa using hj
        simp only [h1, cond_false, h2, Bool.false_eq_true, if_false]
        exact ih id h
    | inLoop c _ l' h => have := ih id h; simpa only [exitToA, exitTo] using this
    | inScope c _ l' h => have := ih id h; simpa only [exitToA, exitTo] using this
    | endRF i lo _ l' e h => have := ih id h; simpa only [exitToA, exitTo] using this
    | beginRound _ l' h => have := ih id h; simpa only [exitToA, exitTo] using this
theorem gotoIn_sound : ∀ {k : List AItem} {k' : List Item} (id : Nat), IRs ρ k k' → (∀ r, gotoInA id k = some r → ∃ r', gotoIn id k' = some r' ∧ IRs ρ r r') ∧ (gotoInA id k = none → gotoIn id k' = none) := by
  intro k
  induction k with
  | nil => intro k' id h; cases h; exact ⟨fun r e => by simp [gotoInA] at e, fun _ => rfl⟩
  | cons a k ih =>
    intro k' id h
    cases h with
    | code c _ l' h => have := ih id h; simpa only [gotoInA, gotoIn] using this
    | inBlock j _ l' h => have := ih id h; simpa only [gotoInA, gotoIn] using this
    | inLoop c _ l' h => have := ih id h; simpa only [gotoInA, gotoIn] using this
    | inScope c _ l' h =>
      simp only [gotoInA, gotoIn]
      cases findLabel c id with
      | none => exact ih id h
      | some rest => exact ⟨fun r e => by cases e; exact ⟨_, rfl, .code _ _ _ (.inScope _ _ _ h)⟩, fun e => by cases e⟩
    | endRF i lo _ l' e h => have := ih id h; simpa only [gotoInA, gotoIn] using this
    | beginRound _ l' h => have := ih id h; simpa only [gotoInA, gotoIn] using this

/-- leaving a function or a round -/
theorem leave_res (ih : Sound E α self) {T : Tr AV} {tm : Array Value} {ds : List ADef} {ds' : List Deferred} {de : Bool} {ro ro' : Option Nat} {td : List Item} {k : List Item} {tdA : List AItem} {j : Option Code}
    (ht : (td = [] ∧ j = none) ∨ (td = .code .ret :: k ∧ j = some .ret) ∨ (∃ id, td = .code (.exit id) :: k ∧ j = some (.exit id) ∧ exitTo id k = none) ∨ (∃ id, td = .code (.goto id) :: k ∧ j = some (.goto id) ∧ gotoIn id k = none))
    (hro : RR ρ ro ro') (hfn : ∃ F, E.P.funcs[fn]? = some F) (hde : ro ≠ none → de = false) (hr : Rel α ρ H w) (hT : TR α ρ T n tm) (hds : DRs α ρ ds ds') (hrc : RCS α ρ rc (kindOf de) cs) :
    Res E.P α ρ H w ⟨fn, tm, td, ds', .run, kindOf de, ro'⟩ cs rc (leaveA self ⟨fn, n, T, tdA, ds, .run, de, ro⟩ rc H j) := by
  unfold leaveA
  cases hro with
  | none =>
    have go : ∀ td', step E.P (lone ⟨fn, tm, td, ds', .run, kindOf de, none⟩ cs w) = .next (lone ⟨fn, tm, td', ds', .returning, kindOf de, none⟩ cs w) →
        Res E.P α ρ H w ⟨fn, tm, td, ds', .run, kindOf de, none⟩ cs rc (self ⟨fn, n, T, tdA, ds, .ret, de, none⟩ rc H) := fun td' hs =>
      Res.quiet hr hs rfl rfl rfl (ih _ rc H _ w cs ρ hr (.mk _ _ _ _ _ _ _ _ _ _ _ _ _ hT (fun e => by cases e) hds .ret .none hfn (fun h => absurd rfl h)) hrc)
    rcases ht with ⟨rfl, rfl⟩ | ⟨rfl, rfl⟩ | ⟨id, rfl, rfl, hx⟩ | ⟨id, rfl, rfl, hx⟩
    · exact go _ s_end
    · exact go _ s_ret
    · trivial
    · trivial
  | some l lo hlo =>
    have hk : de = false := hde (by simp)
    subst hk
    simp only
    split
    · rename_i st pe f0 T0 n0 ps a b d hl
      obtain ⟨l2, ob, b1, b2, b3⟩ := hr.blk l _ hl
      rw [hlo] at b1; cases b1
      cases b3 with
      | loop _ _ _ _ _ tmps _ _ _ _ ld _ c1 c2 =>
        have hg := getObj_run (P := E.P) b2 (by intro c e f; simp)
        have hs := setObj_run (P := E.P) (o' := .loop { state := if j.isNone then .ready else .done, pending := j, fn := f0, tmps := tmps, params := ps, assign := a, body := b, defers := ld.b }) b2 (by intro c e f; simp)
        have hrun : (Instr.endRound lo.b j).run E.P w = .ok (.bool j.isNone) { w with heap := w.heap.setIfInBounds lo.b (.loop { state := if j.isNone then .ready else .done, pending := j, fn := f0, tmps := tmps, params := ps, assign := a, body := b, defers := ld.b }) } := by
          simp only [Instr.endRound, Instr.getLoop, Sem.run_bind, hg, Result.andThen_ok, Sem.run_pure]
          rw [hs]; rfl
        have hev := turn_obj hr hl hlo b2 (BR.loop (if j.isNone then .ready else .done) j f0 T0 n0 tmps ps a b d ld lo c1 c2)
        have hev2 : ∀ q, q = (if j.isNone then LoopState.ready else .done) → Ev α ρ H w ρ (H.set l (.loop q j f0 T0 n0 ps a b d)) { w with heap := w.heap.setIfInBounds lo.b (.loop { state := if j.isNone then .ready else .done, pending := j, fn := f0, tmps := tmps, params := ps, assign := a, body := b, defers := ld.b }) } := by
          rintro q rfl; exact hev
        refine ⟨.bool j.isNone, _, ρ, cs, hev2 _ (by cases j <;> rfl), .b _, Turned.refl _ _, ?_, fun e => by cases e⟩
        intro c rest e
        subst e
        exact .one (s_leaveRound ht hrun)
    · trivial

theorem raise_run {g : Frame} {c : List PanicEntry} (h : g.mode = .returning) : g.raise c = { g with mode := .panicking c } := by
  obtain ⟨_, _, _, _, _, _, _⟩ := g
  simp only at h
  subst h
  rfl
theorem raise_pan {g : Frame} {c old : List PanicEntry} (h : g.mode = .panicking old) : g.raise c = { g with mode := .panicking (c ++ old) } := by
  obtain ⟨_, _, _, _, _, _, _⟩ := g
  simp only at h
  subst h
  rfl
theorem CRs.defs {calls : List (FuncId × List AV)} {l : List Deferred} (h : CRs α ρ calls l) : DRs α ρ (calls.map fun c => .call c.1 c.2) l := by
  induction h with
  | nil => exact .nil
  | cons f as d l l' h1 _ ih => exact .call _ _ _ _ _ h1 ih
theorem kind_ne {de : Bool} : kindOf de ≠ .wrapped := by cases de <;> simp [kindOf]

/-- leaving a frame by its deferred calls -/
theorem unwind_res (ih : Sound E α self) {T : Tr AV} {tm : Array Value} {ds : List ADef} {ds' : List Deferred} {de : Bool} {ro ro' : Option Nat} {td : List Item} {tdA : List AItem} {mode : AMode} {mode' : FrameMode}
    (hm : MR α ρ mode mode') (hnr : mode ≠ .run) (hro : RR ρ ro ro') (hfn : ∃ F, E.P.funcs[fn]? = some F) (hde : ro ≠ none → de = false) (hr : Rel α ρ H w) (hT : TR α ρ T n tm) (hds : DRs α ρ ds ds') (hrc : RCS α ρ rc (kindOf de) cs) :
    Res E.P α ρ H w ⟨fn, tm, td, ds', mode', kindOf de, ro'⟩ cs rc (unwindA E.P self ⟨fn, n, T, tdA, ds, mode, de, ro⟩ rc H) := by
  have hnr' : mode' ≠ .run := by cases hm <;> first | exact absurd rfl hnr | simp
  cases hds with
  | coll b lo as l l' hb hl =>
    unfold unwindA
    simp only
    split
    · rename_i calls hB
      obtain ⟨l2, ob, b1, b2, b3⟩ := hr.blk b _ hB
      rw [hb] at b1; cases b1
      cases b3 with
      | def1 _ dsr _ hcs =>
        have hg := getObj_run (P := E.P) b2 (by intro c e f; simp)
        have hs := setObj_run (P := E.P) (o' := .deferred none) b2 (by intro c e f; simp)
        have hrun : (Instr.takeDeferred lo.b).run E.P w = .ok dsr { w with heap := w.heap.setIfInBounds lo.b (.deferred none) } := by
          simp only [Instr.takeDeferred, Sem.run_bind, hg, Result.andThen_ok]
          rw [hs]; rfl
        have hev := turn_obj hr hB hb b2 (BR.def0 (α := α) (ρ := ρ) lo)
        have hst := s_collected (P := E.P) (cs := cs) (fr := ⟨fn, tm, td, { target := .collected lo.b, args := as } :: l', mode', kindOf de, ro'⟩) hnr' rfl hrun
        refine Res.of_step hst hev (Turned.refl _ _) rfl rfl rfl ?_
        exact ih _ rc _ _ _ cs ρ hev.rel (.mk _ _ _ _ _ _ _ _ _ _ _ _ _ hT (fun e => absurd e hnr) (hcs.defs.append hl) hm hro hfn hde) hrc
    · trivial
  | call f args d l l' hd hl =>
    unfold unwindA
    simp only
    split
    · trivial
    · rename_i g hg
      rw [bc_eq] at hg
      split at hg
      · rename_i hb
        obtain ⟨args', k1, k2⟩ := hd.invoke hb
        obtain ⟨cap, k3, _⟩ := hd
        have hst := step_defer (P := E.P) (fr := ⟨fn, tm, td, d :: l', mode', kindOf de, ro'⟩) (cs := cs) (w := w) hnr' rfl k3 (k1 w)
        have hfr := enterA_fr (P := E.P) (α := α) (ρ := ρ) (d := true) k2 hg
        have hkk : (Frame.enter E.P f args' (kindOf true)).kind = .deferred := rfl
        cases hm with
        | run => exact absurd rfl hnr
        | ret =>
          simp only
          have hres := ih g .no H _ w (⟨fn, tm, td, l', .returning, kindOf de, ro'⟩ :: cs) ρ hr hfr (by rfl)
          cases hout : self g .no H with
          | bad why => trivial
          | ret v rc' H' =>
            rw [hout] at hres
            obtain ⟨v', w', ρ', cs', g1, g2, g3, g4, _⟩ := hres
            obtain ⟨rfl, rfl⟩ := g3.no
            have g5 := g4 _ cs rfl
            exact Res.of_steps (Steps.head hst g5) g1 (Turned.refl _ _) rfl rfl rfl
              (ih _ rc H' _ w' cs ρ' g1.rel (.mk _ _ _ _ _ _ _ _ _ _ _ _ _ (hT.mono g1.ext) (fun e => by cases e) (hl.mono g1.ext) .ret (hro.mono g1.ext) hfn hde) (hrc.mono g1.ext))
          | pan c rc' H' =>
            rw [hout] at hres
            obtain ⟨c', w', ρ', cs', g1, g2, g3, g4⟩ := hres
            obtain ⟨rfl, rfl⟩ := g3.no
            have g5 := g4 _ cs rfl
            rw [raise_run rfl] at g5
            exact Res.of_steps (Steps.head hst g5) g1 (Turned.refl _ _) rfl rfl rfl
              (ih _ rc H' _ w' cs ρ' g1.rel (.mk _ _ _ _ _ _ _ _ _ _ _ _ _ (hT.mono g1.ext) (fun e => by cases e) (hl.mono g1.ext) (.pan _ _ g2) (hro.mono g1.ext) hfn hde) (hrc.mono g1.ext))
        | pan c c' hp =>
          cases hp with
          | nil => trivial
          | cons a r v lp lp' hv hlp =>
            cases r with
            | true => trivial
            | false =>
              simp only
              have hres := ih g (.can a) H _ w (⟨fn, tm, td, l', .panicking ({ v := v, recovered := false } :: lp'), kindOf de, ro'⟩ :: cs) ρ hr hfr ⟨rfl, _, _, _, _, rfl, rfl, hv⟩
              cases hout : self g (.can a) H with
              | bad why => trivial
              | ret u rc' H' =>
                rw [hout] at hres
                obtain ⟨v', w', ρ', cs', g1, g2, g3, g4, _⟩ := hres
                rcases g3 with ⟨rfl, rfl⟩ | ⟨_, c2, rest, v2, older, q1, rfl, q2, q3, q4⟩
                · have g5 := g4 _ cs rfl
                  exact Res.of_steps (Steps.head hst g5) g1 (Turned.refl _ _) rfl rfl rfl
                    (ih _ rc H' _ w' cs ρ' g1.rel (.mk _ _ _ _ _ _ _ _ _ _ _ _ _ (hT.mono g1.ext) (fun e => by cases e) (hl.mono g1.ext) (.pan _ _ ((PRs.cons a false v lp lp' hv hlp).mono g1.ext)) (hro.mono g1.ext) hfn hde) (hrc.mono g1.ext))
                · cases q2
                  cases q3
                  subst q4
                  have g5 := g4 _ cs rfl
                  have g6 : popF (Frame.enter E.P f args' (kindOf true)).kind (⟨fn, tm, td, l', .panicking ({ v := v, recovered := true } :: lp'), kindOf de, ro'⟩ : Frame) v' = ⟨fn, tm, td, l', .returning, kindOf de, ro'⟩ := by
                    show (⟨fn, tm, td, l', settle (.panicking ({ v := v, recovered := true } :: lp')), kindOf de, ro'⟩ : Frame) = _
                    have : settle (.panicking ({ v := v, recovered := true } :: lp')) = .returning := by simp only [settle, hlp.noexit]
                    rw [this]
                  rw [g6] at g5
                  exact Res.of_steps (Steps.head hst g5) g1 (Turned.refl _ _) rfl rfl rfl
                    (ih _ rc H' _ w' cs ρ' g1.rel (.mk _ _ _ _ _ _ _ _ _ _ _ _ _ (hT.mono g1.ext) (fun e => by cases e) (hl.mono g1.ext) .ret (hro.mono g1.ext) hfn hde) (hrc.mono g1.ext))
              | pan c rc' H' =>
                rw [hout] at hres
                obtain ⟨c', w', ρ', cs', g1, g2, g3, g4⟩ := hres
                rcases g3 with ⟨rfl, rfl⟩ | ⟨_, c2, rest, v2, older, q1, rfl, q2, q3, q4⟩
                · have g5 := g4 _ cs rfl
                  rw [raise_pan rfl] at g5
                  exact Res.of_steps (Steps.head hst g5) g1 (Turned.refl _ _) rfl rfl rfl
                    (ih _ rc H' _ w' cs ρ' g1.rel (.mk _ _ _ _ _ _ _ _ _ _ _ _ _ (hT.mono g1.ext) (fun e => by cases e) (hl.mono g1.ext) (.pan _ _ (g2.append ((PRs.cons a false v lp lp' hv hlp).mono g1.ext))) (hro.mono g1.ext) hfn hde) (hrc.mono g1.ext))
                · cases q2
                  cases q3
                  subst q4
                  have g5 := g4 _ cs rfl
                  rw [raise_pan rfl] at g5
                  exact Res.of_steps (Steps.head hst g5) g1 (Turned.refl _ _) rfl rfl rfl
                    (ih _ rc H' _ w' cs ρ' g1.rel (.mk _ _ _ _ _ _ _ _ _ _ _ _ _ (hT.mono g1.ext) (fun e => by cases e) (hl.mono g1.ext) (.pan _ _ (g2.append ((PRs.cons a true v lp lp' hv hlp).mono g1.ext))) (hro.mono g1.ext) hfn hde) (hrc.mono g1.ext))
      · cases hg
  | nil =>
    unfold unwindA
    simp only
    cases hm with
    | run => exact absurd rfl hnr
    | pan c c' hp =>
      refine ⟨c', w, ρ, cs, Ev.refl hr, hp, Turned.refl _ _, ?_⟩
      intro a rest e
      subst e
      exact .one (step_leave_panicked ⟨rfl, rfl, hfn⟩)
    | ret =>
      simp only
      split
      · rename_i v hv
        obtain ⟨g, v', h1, h2, h3⟩ := resultsA_sound (P := E.P) hr hT hv
        refine ⟨v', w, ρ, cs, Ev.refl hr, h3, Turned.refl _ _, ?_, fun _ => ⟨_, Steps.refl _ _, rfl, rfl, rfl, rfl, g, h1, h2⟩⟩
        intro c rest e
        subst e
        cases de with
        | true => exact .one (step_going_returned rfl ⟨rfl, rfl, g, h1, h2⟩)
        | false => exact .one (step_leave_returned ⟨rfl, rfl, rfl, g, h1, h2⟩)
      · trivial
end
end Go.Twin
