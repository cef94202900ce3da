/- Leaving, unwinding, ranging, code: the machine follows, and the whole. -/
import Derived.Test.YtgcdilelbeobmaaGreatDoorTwinMachC
namespace Go.Twin
open Go

section
variable {E : Env} {α : Nat → Value} {ρ : Rho} {H : AH} {w : World} {cs : List Frame} {rc : RC} {n fn : Nat} {self : Self} {P : Program}

/-! results -/
theorem listM_run {β γ : Type} (f : β → Sem γ) : ∀ (l : List β) (vs : List γ), vs.length = l.length → (∀ (i : Nat) a v, l[i]? = some a → vs[i]? = some v → (f a).run P w = .ok v w) → (l.mapM f).run P w = .ok vs w := by
  intro l
  induction l with
  | nil => intro vs hl _; cases vs with
    | nil => rfl
    | cons => simp at hl
  | cons b l ih =>
    intro vs hl h
    cases vs with
    | nil => simp at hl
    | cons u vs =>
      rw [List.mapM_cons]
      have h0 := h 0 b u rfl rfl
      have h1 := ih vs (by simpa using hl) (fun i a v x y => h (i + 1) a v (by simpa using x) (by simpa using y))
      simp only [Sem.run_bind, h0, Result.andThen_ok, h1, Sem.run_pure]
theorem mapM_run {β γ : Type} (f : β → Sem γ) (as : Array β) (vs : List γ) (hl : vs.length = as.size) (h : ∀ (i : Nat) a v, as[i]? = some a → vs[i]? = some v → (f a).run P w = .ok v w) :
    (as.mapM f).run P w = .ok ⟨vs⟩ w := by
  obtain ⟨l⟩ := as
  rw [List.mapM_toArray, map_eq_pure_bind]
  have := listM_run (P := P) (w := w) f l vs hl (fun i a v x y => h i a v (by simpa using x) y)
  simp only [Sem.run_bind, this, Result.andThen_ok, Sem.run_pure]

def resS (tm : Array Value) (r : ResultVar) : Sem Value :=
  match r with
  | .tmp t => pure (tm.getD t undef)
  | .cell a t => do loadVar t (← asAddr (tm.getD a undef))
theorem resA_sound {T : Tr AV} {tm : Array Value} (hr : Rel α ρ H w) (hT : TR α ρ T n tm) {r : ResultVar} {v : AV} (h : resA P T H r = some v) :
    ∃ v', (resS tm r).run P w = .ok v' w ∧ VR α ρ v v' := by
  unfold resA at h
  split at h
  · exact ⟨_, rfl, hT.2 _ _ h⟩
  · rename_i a t
    obtain ⟨x, h1, h2⟩ := ob_some.1 h
    have h1 : T.get a = some x := h1
    obtain ⟨v', g1, g2⟩ := load_sound (P := P) hr (hT.2 _ _ h1) h2
    refine ⟨v', ?_, g2⟩
    have hp := hT.2 a x h1
    simp only [resS]
    simp only [Instr.loadAt, Sem.run_bind] at g1 ⊢
    unfold loadA at h2
    split at h2
    · generalize tm.getD a undef = E at g1 hp ⊢
      cases hp with
      | p _ _ lo hlo => exact g1
    · cases h2

theorem obs_some {β γ : Type} {f : β → Option γ} : ∀ {l : List β} {r : List γ}, obs f l = some r → r.length = l.length ∧ ∀ (i : Nat) a v, l[i]? = some a → r[i]? = some v → f a = some v := by
  intro l
  induction l with
  | nil => intro r h; cases h; exact ⟨rfl, fun i a v h => by simp at h⟩
  | cons b l ih =>
    intro r h
    obtain ⟨c, h1, h2⟩ := ob_some.1 h
    obtain ⟨r', h3, h4⟩ := ob_some.1 h2
    cases h4
    obtain ⟨k1, k2⟩ := ih h3
    refine ⟨by simp [k1], fun i a v e1 e2 => ?_⟩
    cases i with
    | zero => simp at e1 e2; rw [← e1, ← e2]; exact h1
    | succ i => simp at e1 e2; exact k2 i a v e1 e2

theorem resultsA_sound {T : Tr AV} {tm : Array Value} (hr : Rel α ρ H w) (hT : TR α ρ T n tm) {v : AV} (h : resultsA P fn T H = some v) :
    ∃ g v', P.funcs[fn]? = some g ∧ (results g tm).run P w = .ok v' w ∧ VR α ρ v v' := by
  obtain ⟨g, hg, h⟩ := ob_some.1 h
  obtain ⟨l, hl, h⟩ := ob_some.1 h
  obtain ⟨k1, k2⟩ := obs_some hl
  have hex : ∀ (i : Nat) a v, g.results.toList[i]? = some a → l[i]? = some v → ∃ v', (resS tm a).run P w = .ok v' w ∧ VR α ρ v v' :=
    fun i a v e1 e2 => resA_sound hr hT (k2 i a v e1 e2)
  have hvs : ∃ vs : List Value, vs.length = g.results.size ∧ VRs α ρ l vs ∧ ∀ (i : Nat) a v, g.results[i]? = some a → vs[i]? = some v → (resS tm a).run P w = .ok v w := by
    have : ∀ (rs : List ResultVar) (l : List AV), l.length = rs.length → (∀ (i : Nat) a v, rs[i]? = some a → l[i]? = some v → ∃ v', (resS tm a).run P w = .ok v' w ∧ VR α ρ v v') →
        ∃ vs : List Value, vs.length = rs.length ∧ VRs α ρ l vs ∧ ∀ (i : Nat) a v, rs[i]? = some a → vs[i]? = some v → (resS tm a).run P w = .ok v w := by
      intro rs
      induction rs with
      | nil => intro l hl _; cases l with
        | nil => exact ⟨[], rfl, .nil, fun i a v e => by simp at e⟩
        | cons => simp at hl
      | cons r rs ihr =>
        intro l hl hh
        cases l with
        | nil => simp at hl
        | cons a l =>
          obtain ⟨vs, e1, e2, e3⟩ := ihr l (by simpa using hl) (fun i a v x y => hh (i + 1) a v (by simpa using x) (by simpa using y))
          obtain ⟨u, f1, f2⟩ := hh 0 r a rfl rfl
          refine ⟨u :: vs, by simp [e1], .cons _ _ _ _ f2 e2, fun i a v x y => ?_⟩
          cases i with
          | zero => simp at x y; rw [← x, ← y]; exact f1
          | succ i => simp at x y; exact e3 i a v x y
    obtain ⟨vs, e1, e2, e3⟩ := this g.results.toList l k1 hex
    exact ⟨vs, by rw [e1, Array.length_toList], e2, fun i a v x y => e3 i a v (by rw [Array.getElem?_toList]; exact x) y⟩
  obtain ⟨vs, e1, e2, e3⟩ := hvs
  have hm := mapM_run (P := P) (w := w) _ g.results vs e1 e3
  refine ⟨g, (if h : vs.length = 1 then vs[0] else .tuple ⟨vs⟩), hg, ?_, ?_⟩
  · have e : results g tm = (do let vs ← g.results.mapM (resS tm); pure (if h : vs.size = 1 then vs[0] else .tuple vs)) := rfl
    rw [e]
    simp only [Sem.run_bind, hm, Result.andThen_ok, Sem.run_pure]
    rfl
  · cases e2 with
    | nil => cases h; exact .tu _ _ .nil
    | cons a u l' vs' h1 h2 =>
      cases h2 with
      | nil => cases h; exact h1
      | cons a2 u2 l2 vs2 h3 h4 =>
        cases h
        exact .tu _ _ (.cons _ _ _ _ h1 (.cons _ _ _ _ h3 h4))
end
end Go.Twin
