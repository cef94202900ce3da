/- Slicing, lengths, look-ups. -/
import Derived.Test.YtgcdilelbeobmaaGreatDoorTwinOpsB
namespace Go.Twin
open Go

section
variable {α : Nat → Value} {ρ : Rho} {H H' : AH} {w : World} {P : Program}

/-- an operand that may lack -/
inductive VRo (α : Nat → Value) (ρ : Rho) : Option AV → Option Value → Prop
  | none : VRo α ρ none none
  | some (a : AV) (v : Value) : VR α ρ a v → VRo α ρ (some a) (some v)
theorem opt_sound {T : Tr AV} {e : Operand → Value} (he : EvOK α ρ T e) {o : Option Operand} {r : Option AV} (h : opt T o = some r) : VRo α ρ r (o.map e) := by
  cases o with
  | none => cases h; exact .none
  | some x =>
    obtain ⟨v, h1, h2⟩ := ob_some.1 (show ob (ev T x) (fun v => some (some v)) = some r from h)
    cases h2
    exact .some _ _ (he x v h1)

theorem bound_some {v : AV} {v' : Value} {o m m' n : Nat} {code : BoundsCode} (hv : VR α ρ v v') (hm : m ≤ m') (h : boundA (some v) o m = some n) :
    (Instr.sliceBound v' m' code).run P w = .ok n w ∧ n ≤ m := by
  unfold boundA at h
  split at h
  · rename_i e; cases e
  · rename_i k q e
    cases e
    cases hv
    rw [bc_eq] at h
    split at h
    · rename_i hb
      cases h
      have hle : n ≤ m := Nat.le_of_ble_eq_true hb
      refine ⟨?_, hle⟩
      simp only [Instr.sliceBound, asIntOf, Sem.run_bind, Sem.run_pure, Result.andThen_ok]
      rw [if_pos (by constructor <;> simp <;> omega)]
      rfl
    · cases h
  · cases h
theorem bound_none {o m n : Nat} (h : boundA none o m = some n) : n = o := by cases h; rfl

theorem strOf_extract (bs : ByteArray) (k h : Nat) : strOf (bs.extract k h) = ((strOf bs).take h).drop k := by
  unfold strOf
  rw [ByteArray.data_extract, Array.toList_extract]
  simp only [List.extract_eq_take_drop, List.map_take, List.map_drop]
  rw [List.drop_take]

/-- the bounds of a slice expression without a third one -/
theorem bounds2 {isS : Bool} {len cap cap' h k : Nat} {lo hi : Option AV} {lo' hi' : Option Value} (hlo : VRo α ρ lo lo') (hhi : VRo α ρ hi hi') (hlen : len ≤ cap) (hcap : cap ≤ cap')
    (h1 : boundA hi len cap = some h) (h2 : boundA lo 0 h = some k) : (Instr.sliceBounds isS len cap' lo' hi' none).run P w = .ok (k, h, cap') w ∧ k ≤ h ∧ h ≤ cap := by
  unfold Instr.sliceBounds
  cases hhi with
  | none =>
    have := bound_none h1; subst this
    cases hlo with
    | none =>
      have := bound_none h2; subst this
      exact ⟨by simp, by omega, hlen⟩
    | some a v hv =>
      obtain ⟨g1, g2⟩ := bound_some (P := P) (w := w) (code := .sliceB) hv (Nat.le_refl _) h2
      exact ⟨by simp [g1], g2, hlen⟩
  | some a v hv =>
    obtain ⟨f1, f2⟩ := bound_some (P := P) (w := w) (code := if isS then .sliceAcap else .sliceAlen) hv hcap h1
    cases hlo with
    | none =>
      have := bound_none h2; subst this
      exact ⟨by simp [f1], by omega, f2⟩
    | some a' v' hv' =>
      obtain ⟨g1, g2⟩ := bound_some (P := P) (w := w) (code := .sliceB) hv' (Nat.le_refl _) h2
      exact ⟨by simp [f1, g1], g2, f2⟩
theorem bounds3 {len cap cap' m h k : Nat} {lo : Option AV} {hv mv : AV} {lo' : Option Value} {hv' mv' : Value} (hlo : VRo α ρ lo lo') (hhi : VR α ρ hv hv') (hmx : VR α ρ mv mv') (hcap : cap ≤ cap')
    (h0 : boundA (some mv) cap cap = some m) (h1 : boundA (some hv) len m = some h) (h2 : boundA lo 0 h = some k) :
    (Instr.sliceBounds true len cap' lo' (some hv') (some mv')).run P w = .ok (k, h, m) w ∧ k ≤ h ∧ h ≤ m ∧ m ≤ cap := by
  unfold Instr.sliceBounds
  obtain ⟨e1, e2⟩ := bound_some (P := P) (w := w) (code := .slice3Acap) hmx hcap h0
  obtain ⟨f1, f2⟩ := bound_some (P := P) (w := w) (code := .slice3B) hhi (Nat.le_refl _) h1
  cases hlo with
  | none =>
    have := bound_none h2; subst this
    exact ⟨by simp [e1, f1], by omega, f2, e2⟩
  | some a' v' hv2 =>
    obtain ⟨g1, g2⟩ := bound_some (P := P) (w := w) (code := .slice3C) hv2 (Nat.le_refl _) h2
    exact ⟨by simp [e1, f1, g1], g2, f2, e2⟩

theorem slice_sound {t : TypeId} {x v : AV} {x' : Value} {lo hi mx : Option AV} {lo' hi' mx' : Option Value} (hx : VR α ρ x x') (hlo : VRo α ρ lo lo') (hhi : VRo α ρ hi hi') (hmx : VRo α ρ mx mx')
    (h : sliceA P t x lo hi mx = some v) : QV P α ρ w (Instr.sliceAt t x' lo' hi' mx') v := by
  unfold sliceA at h
  split at h
  · -- a string
    rename_i l hd
    cases hx with
    | s _ bs e =>
      cases hmx with
      | some a v hv => cases h
      | none =>
        obtain ⟨hh, h1, h2⟩ := ob_some.1 h
        obtain ⟨k, h3, h4⟩ := ob_some.1 h2
        cases h4
        have hsz : l.length = bs.size := by rw [← e]; simp only [strOf, List.length_map, Array.length_toList]; rfl
        rw [hsz] at h1
        obtain ⟨g1, g2, g3⟩ := bounds2 (P := P) (w := w) (isS := false) hlo hhi (Nat.le_refl _) (Nat.le_refl _) h1 h3
        refine ⟨.string (bs.extract k hh), ?_, .s _ _ (by rw [strOf_extract, e])⟩
        simp only [Instr.sliceAt, Sem.run_bind, run_underlying hd, Result.andThen_ok, Instr.slice]
        simp [g1]
  · -- a nil slice
    rename_i e hd
    obtain ⟨s, hs, h⟩ := ob_some.1 h
    cases hx
    cases hmx with
    | some a v hv => cases h
    | none =>
      obtain ⟨hh, h1, h2⟩ := ob_some.1 h
      obtain ⟨k, h3, h4⟩ := ob_some.1 h2
      cases h4
      obtain ⟨g1, g2, g3⟩ := bounds2 (P := P) (w := w) (isS := true) hlo hhi (Nat.le_refl _) (Nat.le_refl _) h1 h3
      have hk : k = 0 := by omega
      have hh0 : hh = 0 := by omega
      subst hk; subst hh0
      refine ⟨.slice none 0 0, ?_, .nils⟩
      simp only [Instr.sliceAt, Sem.run_bind, run_underlying hd, Result.andThen_ok, Instr.slice, g1, run_size' hs]
      simp
  · -- a slice
    rename_i e id off len cap wd hd
    obtain ⟨s, hs, h⟩ := ob_some.1 h
    cases hx with
    | sl _ _ _ _ _ lo0 o cap' q1 q2 q3 q4 q5 q6 =>
      cases hmx with
      | none =>
        obtain ⟨hh, h1, h2⟩ := ob_some.1 h
        obtain ⟨k, h3, h4⟩ := ob_some.1 h2
        obtain ⟨g1, g2, g3⟩ := bounds2 (P := P) (w := w) (isS := true) hlo hhi q2 q3 h1 h3
        have hrun : (Instr.sliceAt t (.slice (some ⟨lo0.b, o, none⟩) len cap') lo' hi' none).run P w =
            .ok (.slice (some (if cap' = k then ⟨lo0.b, o, none⟩ else ⟨lo0.b, o + k * s, none⟩)) (hh - k) (cap' - k)) w := by
          simp only [Instr.sliceAt, Sem.run_bind, run_underlying hd, Result.andThen_ok, Instr.slice, g1, run_size' hs, Sem.run_pure]
          by_cases hc : cap' = k
          · simp [hc]
          · simp [hc, add_none]
        rw [bc_eq] at h4
        split at h4
        · -- known exactly
          rename_i hw
          have hw0 : wd = 0 := Nat.eq_of_beq_eq_true hw
          have hcc := q4 hw0
          subst hcc
          simp only [sN_eq] at h4
          rw [bc_eq] at h4
          cases h4
          refine ⟨_, hrun, ?_⟩
          by_cases hc : cap' = k
          · rw [if_pos hc, if_pos (by simpa using hc)]
            exact .sl _ _ _ _ _ _ _ _ q1 (by show hh - k ≤ cap' - k; omega) (Nat.le_refl _) (fun _ => rfl) (.inr (by show cap' - k = 0; omega)) (.inl rfl)
          · rw [if_neg hc, if_neg (by simpa using hc)]
            refine .sl _ _ _ _ _ _ _ _ q1 (by show hh - k ≤ cap' - k; omega) (Nat.le_refl _) (fun _ => rfl) ?_ (.inl rfl)
            rcases q5 with q5 | q5
            · exact .inl (by rw [q5]; show _ = off + k * s + lo0.sh; omega)
            · exact .inr (by show cap' - k = 0; omega)
        · rw [bc_eq] at h4
          split at h4
          · rename_i hw hws
            have hw1 : wd = s := Nat.eq_of_beq_eq_true hws
            have hw0 : wd ≠ 0 := fun e => hw (by rw [e]; rfl)
            subst hw1
            simp only [sN_eq] at h4
            cases h4
            refine ⟨_, hrun, ?_⟩
            by_cases hc : cap' = k
            · rw [if_pos hc]
              exact .sl _ _ _ _ _ _ _ _ q1 (by show hh - k ≤ cap - k; omega) (by show cap - k ≤ cap' - k; omega) (fun e => absurd e hw0) (.inr (by omega)) (.inr (.inl (by omega)))
            · rw [if_neg hc]
              refine .sl _ _ _ _ _ _ _ _ q1 (by show hh - k ≤ cap - k; omega) (by show cap - k ≤ cap' - k; omega) (fun e => absurd e hw0) ?_ ?_
              · rcases q5 with q5 | q5
                · exact .inl (by rw [q5]; show _ = off + k * wd + lo0.sh; omega)
                · exact .inr (by omega)
              · rcases q6 with q6 | q6 | q6
                · exact absurd q6 hw0
                · exact .inr (.inl (by omega))
                · refine .inr (.inr ?_)
                  rw [← q6, Nat.add_assoc, ← Nat.add_mul]
                  congr 2
                  omega
          · cases h4
      | some mv mv' hmv =>
        cases hhi with
        | none => cases h
        | some hv hv' hhv =>
          obtain ⟨m, h0, h⟩ := ob_some.1 h
          obtain ⟨hh, h1, h2⟩ := ob_some.1 h
          obtain ⟨k, h3, h4⟩ := ob_some.1 h2
          obtain ⟨g1, g2, g3, g4⟩ := bounds3 (P := P) (w := w) hlo hhv hmv q3 h0 h1 h3
          simp only [sN_eq] at h4
          rw [bc_eq] at h4
          cases h4
          refine ⟨.slice (some (if m = k then ⟨lo0.b, o, none⟩ else ⟨lo0.b, o + k * s, none⟩)) (hh - k) (m - k), ?_, ?_⟩
          · simp only [Instr.sliceAt, Sem.run_bind, run_underlying hd, Result.andThen_ok, Instr.slice, g1, run_size' hs, Sem.run_pure]
            by_cases hc : m = k
            · simp [hc]
            · simp [hc, add_none]
          · by_cases hc : m = k
            · rw [if_pos hc, if_pos (by simpa using hc)]
              exact .sl _ _ _ _ _ _ _ _ q1 (by show hh - k ≤ m - k; omega) (Nat.le_refl _) (fun _ => rfl) (.inr (by show m - k = 0; omega)) (.inl rfl)
            · rw [if_neg hc, if_neg (by simpa using hc)]
              refine .sl _ _ _ _ _ _ _ _ q1 (by show hh - k ≤ m - k; omega) (Nat.le_refl _) (fun _ => rfl) ?_ (.inl rfl)
              rcases q5 with q5 | q5
              · exact .inl (by rw [q5]; show _ = off + k * s + lo0.sh; omega)
              · exact .inr (by show m - k = 0; omega)
  · -- an array's variable
    rename_i n e id off hd
    obtain ⟨s, hs, h⟩ := ob_some.1 h
    cases hx with
    | p _ _ lo0 q1 =>
      cases hmx with
      | some a v hv => cases h
      | none =>
        obtain ⟨hh, h1, h2⟩ := ob_some.1 h
        obtain ⟨k, h3, h4⟩ := ob_some.1 h2
        obtain ⟨g1, g2, g3⟩ := bounds2 (P := P) (w := w) (isS := false) hlo hhi (Nat.le_refl _) (Nat.le_refl _) h1 h3
        simp only [sN_eq] at h4
        rw [bc_eq] at h4
        cases h4
        refine ⟨.slice (some (if n = k then ⟨lo0.b, off + lo0.sh, none⟩ else ⟨lo0.b, off + lo0.sh + k * s, none⟩)) (hh - k) (n - k), ?_, ?_⟩
        · simp only [Instr.sliceAt, Sem.run_bind, run_underlying hd, Result.andThen_ok, Instr.sureAddr, g1, run_size' hs, Sem.run_pure]
          by_cases hc : n = k
          · simp [hc]
          · simp [hc, add_none]
        · by_cases hc : n = k
          · rw [if_pos hc, if_pos (by simpa using hc)]
            exact .sl _ _ _ _ _ _ _ _ q1 (by show hh - k ≤ n - k; omega) (Nat.le_refl _) (fun _ => rfl) (.inl rfl) (.inl rfl)
          · rw [if_neg hc, if_neg (by simpa using hc)]
            exact .sl _ _ _ _ _ _ _ _ q1 (by show hh - k ≤ n - k; omega) (Nat.le_refl _) (fun _ => rfl) (.inl (by show off + lo0.sh + k * s = off + k * s + lo0.sh; omega)) (.inl rfl)
  · cases h

/-! lengths, look-ups -/
theorem len_sound (hr : Rel α ρ H w) {t : TypeId} {ts : List TypeId} {ty : TypeId} {x v : AV} {x' : Value} (hx : VR α ρ x x') (h : lenA P H t x = some v) :
    QV P α ρ w (Builtin.len_ ⟨t :: ts⟩ ty #[x']) v := by
  unfold lenA at h
  split at h
  · rename_i l hd
    cases h
    cases hx with
    | s _ bs e =>
      have hsz : l.length = bs.size := by rw [← e]; simp only [strOf, List.length_map, Array.length_toList]; rfl
      exact ⟨goInt bs.size, by simp [Builtin.len_, run_underlying hd], by rw [hsz]; exact .i _ _⟩
  · rename_i n e hd
    cases h
    exact ⟨goInt n, by simp [Builtin.len_, run_underlying hd], .i _ _⟩
  · rename_i e hd
    cases h
    cases hx
    exact ⟨goInt 0, by simp [Builtin.len_, run_underlying hd], .i _ _⟩
  · rename_i e i0 o0 n c0 w0 hd
    cases h
    cases hx
    exact ⟨goInt n, by simp [Builtin.len_, run_underlying hd], .i _ _⟩
  · rename_i k e hd
    cases h
    cases hx
    exact ⟨goInt 0, by simp [Builtin.len_, run_underlying hd], .i _ _⟩
  · rename_i k e id hd
    cases hx with
    | m _ lo q1 =>
      split at h
      · rename_i es clock hB
        cases h
        obtain ⟨l, o, f1, f2, f3⟩ := hr.blk id _ hB
        rw [q1] at f1; cases f1
        cases f3 with
        | map _ es' _ _ he =>
          have hlen : es.length = es'.length := by
            clear hB f2
            induction he with
            | nil => rfl
            | cons _ _ _ _ _ _ _ _ _ _ ih => simp [ih]
          exact ⟨goInt es'.length, by simp [Builtin.len_, run_underlying hd, getObj, Sem.run, f2], by rw [hlen]; exact .i _ _⟩
      · cases h
  · cases h
theorem cap_sound {t : TypeId} {ts : List TypeId} {ty : TypeId} {x v : AV} {x' : Value} (hx : VR α ρ x x') (h : capA P t x = some v) :
    QV P α ρ w (Builtin.cap_ ⟨t :: ts⟩ ty #[x']) v := by
  unfold capA at h
  split at h
  · rename_i n e hd
    cases h
    exact ⟨goInt n, by simp [Builtin.cap_, run_underlying hd], .i _ _⟩
  · rename_i e hd
    cases h
    cases hx
    exact ⟨goInt 0, by simp [Builtin.cap_, run_underlying hd], .i _ _⟩
  · rename_i e i0 o0 n c hd
    cases h
    cases hx with
    | sl _ _ _ _ _ lo o cap' q1 q2 q3 q4 q5 q6 =>
      have := q4 rfl
      subst this
      exact ⟨goInt cap', by simp [Builtin.cap_, run_underlying hd], .i _ _⟩
  · cases h
theorem min_sound {b : Bool} {args : List AV} {args' : List Value} {v : AV} {ts : Array TypeId} {ty : TypeId} (ha : VRs α ρ args args') (h : minA b args = some v) :
    QV P α ρ w (if b then Builtin.min_ ts ty ⟨args'⟩ else Builtin.max_ ts ty ⟨args'⟩) v := by
  unfold minA at h
  split at h
  · rename_i k x k' y
    cases ha with
    | cons _ u _ l1 h1 h2 => cases h2 with
      | cons _ u2 _ l2 h3 h4 =>
        cases h4; cases h1; cases h3
        cases hk : decide (k = k') with
        | false => rw [hk] at h; cases h
        | true =>
          rw [hk] at h
          simp only [cond_true, Option.some.injEq] at h
          subst h
          cases b with
          | true =>
            refine ⟨.int k (if y < x then y else x), by simp [Builtin.min_, Builtin.min2], ?_⟩
            simp only [cond_true, iblt_eq]
            by_cases hyx : y < x <;> simp [hyx] <;> exact .i _ _
          | false =>
            refine ⟨.int k (if y > x then y else x), by simp [Builtin.max_, Builtin.max2], ?_⟩
            simp only [cond_false, iblt_eq]
            by_cases hyx : x < y <;> simp [hyx] <;> exact .i _ _
  · cases h
end
end Go.Twin
