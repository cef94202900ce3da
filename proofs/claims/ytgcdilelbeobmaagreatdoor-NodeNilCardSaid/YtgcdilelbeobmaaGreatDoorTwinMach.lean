/- The run of the model's machine follows the reckoning. -/
import Derived.Test.YtgcdilelbeobmaaGreatDoorTwinMachA
namespace Go.Twin
open Go

inductive PRs (α : Nat → Value) (ρ : Rho) : List (AV × Bool) → List PanicEntry → Prop
  | nil : PRs α ρ [] []
  | cons (a : AV) (r : Bool) (v : Value) (l : List (AV × Bool)) (l' : List PanicEntry) : VR α ρ a v → PRs α ρ l l' → PRs α ρ ((a, r) :: l) ({ v := v, recovered := r } :: l')
inductive DRs (α : Nat → Value) (ρ : Rho) : List ADef → List Deferred → Prop
  | nil : DRs α ρ [] []
  | call (f : FuncId) (args : List AV) (d : Deferred) (l : List ADef) (l' : List Deferred) : DR α ρ f args d → DRs α ρ l l' → DRs α ρ (.call f args :: l) (d :: l')
  | coll (b : Nat) (lo : Loc) (as : Array Value) (l : List ADef) (l' : List Deferred) : ρ b = some lo → DRs α ρ l l' → DRs α ρ (.coll b :: l) ({ target := .collected lo.b, args := as } :: l')
inductive IRs (ρ : Rho) : List AItem → List Item → Prop
  | nil : IRs ρ [] []
  | code (c : Code) (l : List AItem) (l' : List Item) : IRs ρ l l' → IRs ρ (.code c :: l) (.code c :: l')
  | inBlock (id : Nat) (l : List AItem) (l' : List Item) : IRs ρ l l' → IRs ρ (.inBlock id :: l) (.inBlock id :: l')
  | inLoop (c : Code) (l : List AItem) (l' : List Item) : IRs ρ l l' → IRs ρ (.inLoop c :: l) (.inLoop c :: l')
  | inScope (c : Code) (l : List AItem) (l' : List Item) : IRs ρ l l' → IRs ρ (.inScope c :: l) (.inScope c :: l')
  | endRF (id : Nat) (lo : Loc) (l : List AItem) (l' : List Item) : ρ id = some lo → IRs ρ l l' → IRs ρ (.endRF id :: l) (.endRangeFunc lo.b :: l')
  | beginRound (l : List AItem) (l' : List Item) : IRs ρ l l' → IRs ρ (.beginRound :: l) (.beginRound :: l')
inductive MR (α : Nat → Value) (ρ : Rho) : AMode → FrameMode → Prop
  | run : MR α ρ .run .run
  | ret : MR α ρ .ret .returning
  | pan (c : List (AV × Bool)) (c' : List PanicEntry) : PRs α ρ c c' → MR α ρ (.pan c) (.panicking c')
inductive RR (ρ : Rho) : Option Nat → Option Nat → Prop
  | none : RR ρ none none
  | some (l : Nat) (lo : Loc) : ρ l = some lo → RR ρ (some l) (some lo.b)
def kindOf (de : Bool) : CallKind := if de then .deferred else .normal
inductive FrR (P : Program) (α : Nat → Value) (ρ : Rho) : AF → Frame → Prop
  | mk (fn n : Nat) (T : Tr AV) (todo : List AItem) (ds : List ADef) (mode : AMode) (de : Bool) (ro : Option Nat) (tm : Array Value) (todo' : List Item) (ds' : List Deferred) (mode' : FrameMode) (ro' : Option Nat) :
      TR α ρ T n tm → (mode = .run → IRs ρ todo todo') → DRs α ρ ds ds' → MR α ρ mode mode' → RR ρ ro ro' → (∃ F, P.funcs[fn]? = some F) → (ro ≠ none → de = false) →
      FrR P α ρ ⟨fn, n, T, todo, ds, mode, de, ro⟩ ⟨fn, tm, todo', ds', mode', kindOf de, ro'⟩

section
variable {α : Nat → Value} {ρ ρ' : Rho}
theorem PRs.mono (h : ρ.le ρ') : ∀ {l : List (AV × Bool)} {l' : List PanicEntry}, PRs α ρ l l' → PRs α ρ' l l'
  | _, _, .nil => .nil
  | _, _, .cons a r v l l' h1 h2 => .cons a r v l l' (h1.mono h) (PRs.mono h h2)
theorem DRs.mono (h : ρ.le ρ') : ∀ {l : List ADef} {l' : List Deferred}, DRs α ρ l l' → DRs α ρ' l l'
  | _, _, .nil => .nil
  | _, _, .call f a d l l' h1 h2 => .call f a d l l' (h1.mono h) (DRs.mono h h2)
  | _, _, .coll b lo as l l' h1 h2 => .coll b lo as l l' (h _ _ h1) (DRs.mono h h2)
theorem IRs.mono (h : ρ.le ρ') : ∀ {l : List AItem} {l' : List Item}, IRs ρ l l' → IRs ρ' l l'
  | _, _, .nil => .nil
  | _, _, .code c l l' k => .code c l l' (IRs.mono h k)
  | _, _, .inBlock c l l' k => .inBlock c l l' (IRs.mono h k)
  | _, _, .inLoop c l l' k => .inLoop c l l' (IRs.mono h k)
  | _, _, .inScope c l l' k => .inScope c l l' (IRs.mono h k)
  | _, _, .endRF id lo l l' e k => .endRF id lo l l' (h _ _ e) (IRs.mono h k)
  | _, _, .beginRound l l' k => .beginRound l l' (IRs.mono h k)
theorem RR.mono (h : ρ.le ρ') : ∀ {a b : Option Nat}, RR ρ a b → RR ρ' a b
  | _, _, .none => .none
  | _, _, .some l lo e => .some l lo (h _ _ e)
theorem PRs.append {a b : List (AV × Bool)} {a' b' : List PanicEntry} (h : PRs α ρ a a') (k : PRs α ρ b b') : PRs α ρ (a ++ b) (a' ++ b') := by
  induction h with
  | nil => exact k
  | cons a r v l l' h1 _ ih => exact .cons _ _ _ _ _ h1 ih
theorem PRs.noexit {a : List (AV × Bool)} {a' : List PanicEntry} (h : PRs α ρ a a') : a'.dropWhile (!·.goexit) = [] := by
  induction h with
  | nil => rfl
  | cons a r v l l' h1 _ ih => simpa using ih
theorem DRs.append {a b : List ADef} {a' b' : List Deferred} (h : DRs α ρ a a') (k : DRs α ρ b b') : DRs α ρ (a ++ b) (a' ++ b') := by
  induction h with
  | nil => exact k
  | call f as d l l' h1 _ ih => exact .call _ _ _ _ _ h1 ih
  | coll b lo as l l' h1 _ ih => exact .coll _ _ _ _ _ h1 ih
theorem IRs.append {a b : List AItem} {a' b' : List Item} (h : IRs ρ a a') (k : IRs ρ b b') : IRs ρ (a ++ b) (a' ++ b') := by
  induction h with
  | nil => exact k
  | code c l l' _ ih => exact .code _ _ _ ih
  | inBlock c l l' _ ih => exact .inBlock _ _ _ ih
  | inLoop c l l' _ ih => exact .inLoop _ _ _ ih
  | inScope c l l' _ ih => exact .inScope _ _ _ ih
  | endRF id lo l l' e _ ih => exact .endRF _ _ _ _ e ih
  | beginRound l l' _ ih => exact .beginRound _ _ ih
theorem TR.put {T : Tr AV} {n : Nat} {tm : Array Value} (h : TR α ρ T n tm) {t : Nat} {v : AV} {v' : Value} (ht : t < n) (hv : VR α ρ v v') : TR α ρ (T.put t (some v)) n (tm.setIfInBounds t v') := by
  refine ⟨by simpa using h.1, fun j a ha => ?_⟩
  by_cases hj : j = t
  · subst hj
    rw [Tr.get_put, if_pos rfl] at ha
    cases ha
    have : (tm.setIfInBounds j v').getD j undef = v' := by
      have : j < tm.size := by rw [h.1]; exact ht
      simp [Array.getD_eq_getD_getElem?, this]
    rw [this]; exact hv
  · rw [Tr.get_put, if_neg hj] at ha
    have : (tm.setIfInBounds t v').getD j undef = tm.getD j undef := by
      simp only [Array.getD_eq_getD_getElem?]
      rw [Array.getElem?_setIfInBounds_ne (by omega)]
    rw [this]; exact h.2 j a ha
theorem undef_vr : VR α ρ (.tu []) undef := .tu _ _ .nil
theorem evOK_frame {T : Tr AV} {n : Nat} (g : Frame) (h : TR α ρ T n g.tmps) : EvOK α ρ T g.eval := by
  intro x v hx
  cases x with
  | tmp t => exact h.2 t v hx
  | const c => exact ofConst_sound hx
  | global g => cases hx
  | func f => cases hx; exact .f _ _ _ _ _ .nil .nil
end

/-- what a recover may find above -/
def RCS (α : Nat → Value) (ρ : Rho) (rc : RC) (kd : CallKind) (cs : List Frame) : Prop :=
  match rc with
  | .can v => kd = .deferred ∧ ∃ c rest v' older, cs = c :: rest ∧ c.mode = .panicking ({ v := v', recovered := false } :: older) ∧ VR α ρ v v'
  | _ => recOf kd cs = none
def Turned (rc : RC) (cs : List Frame) (rc' : RC) (cs' : List Frame) : Prop :=
  (rc' = rc ∧ cs' = cs) ∨ (∃ v c rest v' older, rc = .can v ∧ rc' = .done ∧ cs = c :: rest ∧ c.mode = .panicking ({ v := v', recovered := false } :: older) ∧
    cs' = { c with mode := .panicking ({ v := v', recovered := true } :: older) } :: rest)
theorem RCS.mono {α : Nat → Value} {ρ ρ' : Rho} (h : ρ.le ρ') {rc : RC} {kd : CallKind} {cs : List Frame} (k : RCS α ρ rc kd cs) : RCS α ρ' rc kd cs := by
  cases rc with
  | can v => obtain ⟨h1, c, rest, v', older, h2, h3, h4⟩ := k; exact ⟨h1, c, rest, v', older, h2, h3, h4.mono h⟩
  | _ => exact k
theorem Turned.refl (rc : RC) (cs : List Frame) : Turned rc cs rc cs := .inl ⟨rfl, rfl⟩
theorem Turned.trans {rc rc' rc'' : RC} {cs cs' cs'' : List Frame} (h : Turned rc cs rc' cs') (k : Turned rc' cs' rc'' cs'') : Turned rc cs rc'' cs'' := by
  rcases h with ⟨rfl, rfl⟩ | ⟨v, c, rest, v', older, h1, h2, h3, h4, h5⟩
  · exact k
  · rcases k with ⟨rfl, rfl⟩ | ⟨u, c', rest', u', older', k1, _⟩
    · exact .inr ⟨v, c, rest, v', older, h1, h2, h3, h4, h5⟩
    · rw [h2] at k1; cases k1
theorem Turned.no {cs cs' : List Frame} {rc' : RC} (h : Turned .no cs rc' cs') : rc' = .no ∧ cs' = cs := by
  rcases h with h | ⟨v, _, _, _, _, h1, _⟩
  · exact h
  · cases h1

/-- a caller, called back -/
def popF (kd : CallKind) (c : Frame) (v : Value) : Frame :=
  match kd with
  | .deferred => { c with mode := settle c.mode }
  | _ => c.finish v
def Done (P : Program) (g : Frame) (cs : List Frame) (w : World) (cs' : List Frame) (w' : World) (v' : Value) : Prop :=
  (∀ c rest, cs' = c :: rest → Steps P (lone g cs w) (lone (popF g.kind c v') rest w')) ∧
  (g.roundOf = none → ∃ g', Steps P (lone g cs w) (lone g' cs' w') ∧ g'.kind = g.kind ∧ g'.fn = g.fn ∧ g'.mode = .returning ∧ g'.defers = [] ∧ ∃ fn, P.funcs[g'.fn]? = some fn ∧ (results fn g'.tmps).run P w' = .ok v' w')
def Res (P : Program) (α : Nat → Value) (ρ : Rho) (H : AH) (w : World) (g : Frame) (cs : List Frame) (rc : RC) : Out → Prop
  | .bad _ => True
  | .ret v rc' H' => ∃ v' w' ρ' cs', Ev α ρ H w ρ' H' w' ∧ VR α ρ' v v' ∧ Turned rc cs rc' cs' ∧ Done P g cs w cs' w' v'
  | .pan c rc' H' => ∃ c' w' ρ' cs', Ev α ρ H w ρ' H' w' ∧ PRs α ρ' c c' ∧ Turned rc cs rc' cs' ∧ (∀ a rest, cs' = a :: rest → Steps P (lone g cs w) (lone (a.raise c') rest w'))

section
variable {P : Program} {α : Nat → Value} {ρ ρ1 : Rho} {H H1 : AH} {w w1 : World} {g g1 : Frame} {cs cs1 : List Frame} {rc rc1 : RC} {o : Out}
theorem Res.of_steps (hs : Steps P (lone g cs w) (lone g1 cs1 w1)) (he : Ev α ρ H w ρ1 H1 w1) (ht : Turned rc cs rc1 cs1) (hk : g1.kind = g.kind) (hf : g1.fn = g.fn) (hr : g1.roundOf = g.roundOf)
    (h : Res P α ρ1 H1 w1 g1 cs1 rc1 o) : Res P α ρ H w g cs rc o := by
  cases o with
  | bad => trivial
  | ret v rc' H' =>
    obtain ⟨v', w', ρ', cs', h1, h2, h3, h4, h5⟩ := h
    refine ⟨v', w', ρ', cs', he.trans h1, h2, ht.trans h3, fun c rest e => hk ▸ Steps.trans hs (h4 c rest e), fun e => ?_⟩
    obtain ⟨g', k1, k2, k3, k4⟩ := h5 (hr.trans e)
    exact ⟨g', Steps.trans hs k1, k2.trans hk, k3.trans hf, k4⟩
  | pan c rc' H' =>
    obtain ⟨c', w', ρ', cs', h1, h2, h3, h4⟩ := h
    exact ⟨c', w', ρ', cs', he.trans h1, h2, ht.trans h3, fun a rest e => Steps.trans hs (h4 a rest e)⟩
theorem Res.of_step (hs : step P (lone g cs w) = .next (lone g1 cs1 w1)) (he : Ev α ρ H w ρ1 H1 w1) (ht : Turned rc cs rc1 cs1) (hk : g1.kind = g.kind) (hf : g1.fn = g.fn) (hr : g1.roundOf = g.roundOf)
    (h : Res P α ρ1 H1 w1 g1 cs1 rc1 o) : Res P α ρ H w g cs rc o := h.of_steps (.one hs) he ht hk hf hr
/-- a step that leaves world and memory -/
theorem Res.quiet (hr : Rel α ρ H w) (hs : step P (lone g cs w) = .next (lone g1 cs w)) (hk : g1.kind = g.kind) (hf : g1.fn = g.fn) (hro : g1.roundOf = g.roundOf)
    (h : Res P α ρ H w g1 cs rc o) : Res P α ρ H w g cs rc o := h.of_step hs (Ev.refl hr) (Turned.refl _ _) hk hf hro
end

/-- what is known of calls, right -/
def Known (P : Program) (f : FuncId) (args : List AV) (H : AH) (v : AV) (H' : AH) : Prop :=
  ∀ (α : Nat → Value) (ρ : Rho) (w : World) (args' : Array Value), Rel α ρ H w → VRs α ρ args args'.toList → ∀ c rest,
    ∃ v' w' ρ', Steps P (lone (Frame.enter P f args' .normal) (c :: rest) w) (lone (c.finish v') rest w') ∧ Ev α ρ H w ρ' H' w' ∧ VR α ρ' v v'
structure EnvOK (E : Env) : Prop where
  S : ∀ f args H v H', E.S f args H = some (v, H') → Known E.P f args H v H'
  mixed : E.P.follows .mixedOrders = true
def Sound (E : Env) (α : Nat → Value) (self : Self) : Prop :=
  ∀ fr rc H g w cs ρ, Rel α ρ H w → FrR E.P α ρ fr g → RCS α ρ rc g.kind cs → Res E.P α ρ H w g cs rc (self fr rc H)

theorem dst_run (fn n : Nat) (d : Option Nat) (v : AV) (k : Tr AV → Out) (T : Tr AV) :
    (dstC fn n d).run v k T = (match d with | none => k T | some t => if Nat.blt t n = true then k (T.put t (some v)) else .bad [fn, 3]) := by
  cases d with
  | none => rfl
  | some t =>
    show (bc (Nat.blt t n) (⟨fun v k T => ((putC (Nat.succ t) t).run T (some v)).sk k⟩ : DS) ⟨fun _ _ _ => .bad [fn, 3]⟩).run v k T = _
    simp only
    cases Nat.blt t n with
    | true =>
      show ((putC (t + 1) t).run T (some v)).sk k = _
      rw [Tr.sk_eq, putC_run]; rfl
    | false => rfl

section
variable {P : Program} {α : Nat → Value} {ρ : Rho} {H : AH} {w : World} {g : Frame} {cs : List Frame} {rc : RC} {n fn : Nat}
theorem dst_res {d : Option Nat} {v : AV} {v' : Value} {k : Tr AV → Out} {T : Tr AV} {tm : Array Value} (hT : TR α ρ T n tm) (hv : VR α ρ v v')
    (h : ∀ T', TR α ρ T' n (putV d tm v') → Res P α ρ H w g cs rc (k T')) : Res P α ρ H w g cs rc ((dstC fn n d).run v k T) := by
  rw [dst_run]
  cases d with
  | none => exact h T hT
  | some t =>
    simp only
    split
    · rename_i ht
      exact h _ (hT.put (blt_lt ht) hv)
    · trivial

theorem enterA_fr {f : FuncId} {args : List AV} {args' : Array Value} {d : Bool} {fr : AF} (ha : VRs α ρ args args'.toList) (h : enterA P f args d = some fr) : FrR P α ρ fr (Frame.enter P f args' (kindOf d)) := by
  obtain ⟨F, hF, h⟩ := ob_some.1 h
  split at h
  · rename_i c hc
    rw [bc_eq] at h
    split at h
    · rename_i hle
      have hle' : args.length ≤ F.ntmps := Nat.le_of_ble_eq_true hle
      cases h
      have hlen := ha.length
      have hsz : args'.toList.length = args'.size := Array.length_toList
      have e : Frame.enter P f args' (kindOf d) = ⟨f, args' ++ Array.replicate (F.ntmps - args'.size) undef, [.code c], [], .run, kindOf d, none⟩ := by
        simp [Frame.enter, hF, hc]
      rw [e]
      refine .mk _ _ _ _ _ _ _ _ _ _ _ _ _ ⟨by simp; omega, fun t a0 ha0 => ?_⟩ (fun _ => .code _ _ _ .nil) .nil .run .none ⟨F, hF⟩ (fun h => absurd rfl h)
      unfold argTr at ha0
      rw [listTr_get] at ha0
      by_cases ht : t < args.length
      · rw [if_pos (by omega), Nat.sub_zero] at ha0
        obtain ⟨y, hy, hr⟩ := ha.get ha0
        have : (args' ++ Array.replicate (F.ntmps - args'.size) undef).getD t undef = y := by
          rw [Array.getD_eq_getD_getElem?, Array.getElem?_append_left (by omega)]
          rw [Array.getElem?_toList] at hy
          rw [hy]; rfl
        rw [this]; exact hr
      · rw [if_neg (by omega), Tr.get_leaf] at ha0
        cases ha0
    · cases h
  · cases h
end
end Go.Twin
