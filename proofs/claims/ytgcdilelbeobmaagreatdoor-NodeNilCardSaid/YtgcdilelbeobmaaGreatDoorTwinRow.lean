/- From a kernel's run to what a row asks. -/
import Derived.Test.YtgcdilelbeobmaaGreatDoorTwinMachF
import Derived.Below
import GoSem.ClaimWide
namespace Go.Twin
open Go Go.RowKit

noncomputable def isT (o : Out) : Bool := Out.rec (motive := fun _ => Bool) (fun v _ _ => v.asB (fun b => b) false) (fun _ _ _ => false) (fun _ => false) o
theorem isT_ret {o : Out} (h : isT o = true) : ∃ rc H, o = .ret (.b true) rc H := by
  cases o with
  | ret v rc H =>
    refine ⟨rc, H, ?_⟩
    have h' : v.asB (fun b => b) false = true := h
    cases v <;> first | (cases h'; done) | skip
    rename_i b
    have : b = true := h'
    rw [this]
  | pan c rc H => cases h
  | bad w => cases h

theorem okWide_one {P : Program} {w : World} {r : Reach} {base : Nat} {u : TypeId} {v : Value} (h : Cell.okWide P w r base u v) : oneCell v := by
  cases v <;> first | trivial | skip
  all_goals
    exfalso
    unfold Cell.okWide at h
    cases hu : P.underlying u with
    | none => rw [hu] at h; simp [Cell.ok, hu] at h
    | some d => rw [hu] at h; cases d <;> simp [Cell.ok, hu] at h

theorem rel_leaf (α : Nat → Value) (w : World) (n : Nat) : Rel α (fun _ => none) ⟨.leaf, n⟩ w :=
  ⟨fun _ _ e => (by cases e), fun _ _ _ _ _ _ e => (by cases e), fun _ _ => rfl⟩

theorem twin_calls {E : Env} (hE : EnvOK E) {m n : Nat} {f : FuncId} {args : List AV} {args' : Array Value} {α : Nat → Value} {w : World} (h : isT (callC E m f args ⟨.leaf, n⟩) = true)
    (ha : VRs α (fun _ => none) args args'.toList) : Calls E.P f args' w fun e w' => e = .returned (.bool true) ∧ Below w.heap.size w w' := by
  obtain ⟨rc, H, h⟩ := isT_ret h
  refine (callC_calls (w := w) hE (rel_leaf α w n) ha h).mono fun e w' ⟨v', ρ', h1, h2, h3⟩ => ?_
  cases h2
  exact ⟨h1, h3.os, h3.tape, h3.output, h3.size, fun k hk => h3.keep k hk (fun _ _ _ e _ => by cases e)⟩

def atms (i : Nat) : Nat → List AV
  | 0 => []
  | n + 1 => .atm i :: atms (i + 1) n
theorem atms_vr {α : Nat → Value} {ρ : Rho} : ∀ (l : List Value) (i : Nat), (∀ k v, l[k]? = some v → oneCell v ∧ α (i + k) = v) → VRs α ρ (atms i l.length) l := by
  intro l
  induction l with
  | nil => intro i _; exact .nil
  | cons a l ih =>
    intro i h
    refine .cons _ _ _ _ (.atm i a (fun _ => (h 0 a rfl).2) (h 0 a rfl).1) (ih (i + 1) fun k v hk => ?_)
    have := h (k + 1) v (by simpa using hk)
    rw [Nat.add_assoc, Nat.add_comm 1 k]
    exact this
/-- an argument that is a struct: what it holds is not looked at -/
theorem agg_vr {cs : Array Value} {ρ : Rho} (h : ∀ (i : Nat) v, cs[i]? = some v → oneCell v) : VR (fun i => cs.getD i default) ρ (.ag (atms 0 cs.size)) (.agg cs) := by
  have : VRs (fun i => cs.getD i default) ρ (atms 0 cs.toList.length) cs.toList := by
    refine atms_vr cs.toList 0 fun k v hk => ?_
    rw [Array.getElem?_toList] at hk
    refine ⟨h k v hk, ?_⟩
    rw [Nat.zero_add, Array.getD_eq_getD_getElem?, hk]; rfl
  rw [Array.length_toList] at this
  exact .ag _ _ this
theorem okWide_agg {P : Program} {w : World} {r : Reach} {base : Nat} {t : TypeId} {v : Value} {fs : Array Field} (hu : P.underlying t = some (.struct fs)) (h : Value.okWide P w r base t v) :
    ∃ cs, v = .agg cs ∧ cs.size = P.cellsOf t ∧ ∀ (i : Nat) u, cs[i]? = some u → oneCell u := by
  unfold Value.okWide at h
  rw [hu] at h
  obtain ⟨cs, h1, h2, ts, _, _, h3⟩ := h
  exact ⟨cs, h1, h2, fun i u hi => by obtain ⟨t', _, h4⟩ := h3 i u hi; exact okWide_one h4⟩

theorem okWide_val {P : Program} {w : World} {r : Reach} {base : Nat} {t : TypeId} {v : Value} (ha : isAggB P t = some false) (h : Value.okWide P w r base t v) : oneCell v := by
  unfold Value.okWide at h
  unfold isAggB at ha
  cases hu : P.underlying t with
  | none => rw [hu] at ha; cases ha
  | some d =>
    rw [hu] at ha h
    cases d <;> first | (cases ha; done) | exact okWide_one h
/-- arguments of one cell each -/
theorem args_vr {args : Array Value} {ρ : Rho} (h : ∀ (i : Nat) v, args[i]? = some v → oneCell v) : VRs (fun i => args.getD i default) ρ (atms 0 args.size) args.toList := by
  have := atms_vr (α := fun i => args.getD i default) (ρ := ρ) args.toList 0 fun k v hk => by
    rw [Array.getElem?_toList] at hk
    refine ⟨h k v hk, ?_⟩
    rw [Nat.zero_add, Array.getD_eq_getD_getElem?, hk]; rfl
  rwa [Array.length_toList] at this

noncomputable def env0 (P : Program) : Env := ⟨P, fun _ _ _ => none⟩
theorem env0_ok {P : Program} (h : P.follows .mixedOrders = true) : EnvOK (env0 P) := ⟨fun _ _ _ _ _ h => (by cases h), h⟩
end Go.Twin
