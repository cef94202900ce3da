/- Maps. -/
import Derived.Test.YtgcdilelbeobmaaGreatDoorTwinOpsE
namespace Go.Twin
open Go

section
variable {α : Nat → Value} {ρ : Rho} {H H' : AH} {w : World} {P : Program}

theorem getObj_run {r : Nat} {o : Obj} (h : w.heap[r]? = some o) (hn : ∀ c e f, o ≠ .cells c e f) : (getObj r).run P w = .ok o w := by
  cases o <;> first | exact absurd rfl (hn _ _ _) | simp [getObj, Sem.run, h]
theorem setObj_run {r : Nat} {o o' : Obj} (h : w.heap[r]? = some o) (hn : ∀ c e f, o ≠ .cells c e f) : (setObj r o').run P w = .ok () { w with heap := w.heap.setIfInBounds r o' } := by
  cases o <;> first | exact absurd rfl (hn _ _ _) | simp [setObj, Sem.run, h]
/-- an object that is no row of cells turned in its place -/
theorem turn_obj (hr : Rel α ρ H w) {id : Nat} {B B' : Blk} {lo : Loc} {o o' : Obj} (hB : H.t.get id = some B) (hlo : ρ id = some lo) (ho : w.heap[lo.b]? = some o)
    (hb : BR α ρ B' o' lo) : Ev α ρ H w ρ (H.set id B') { w with heap := w.heap.setIfInBounds lo.b o' } := by
  have hlt := (Array.getElem?_eq_some_iff.1 ho).1
  refine Ev.turn hr hB hlo (by simp) (o' := o') ?_ ?_ rfl rfl rfl hb
  · simp [hlt]
  · intro b hne
    simp only
    rw [Array.getElem?_setIfInBounds_ne (fun e => hne e.symm)]

theorem makeMap_sound (hr : Rel α ρ H w) {t : TypeId} {v : AV} (h : newA H (.map [] 0) (fun k => .m k) = some (v, H')) : EV P α ρ H w (Instr.makeMap t none) v H' := by
  rw [newA_eq] at h
  cases h
  refine ⟨_, _, upd ρ H.next ⟨w.heap.size, 0, 0⟩, by simp [Instr.makeMap], Ev.new hr _ _ 0 (.map _ _ _ _ .nil), .m _ ⟨w.heap.size, 0, 0⟩ (upd_self _ _ _)⟩

theorem ba_beq (a b : ByteArray) : (a == b) = decide (a = b) := by
  cases a with | mk x => cases b with | mk y =>
  show (x == y) = _
  rw [Bool.eq_iff_iff]
  simp

theorem keq_sound {d : TypeDesc} {x y : AV} {x' y' : Value} {b : Bool} (hx : VR α ρ x x') (hy : VR α ρ y y') (h : keq (some d) x y = some b) :
    Instr.sameNow d x' y' = some b ∧ (b = true → Instr.sameBits 10000 y' x' = true) := by
  unfold keq at h
  split at h
  · rename_i k0 k a k' b' e
    cases e
    cases hx; cases hy
    cases hk : decide (k = k') with
    | false => rw [hk] at h; cases h
    | true =>
      rw [hk] at h
      have := of_decide_eq_true hk
      subst this
      simp only [cond_true, Option.some.injEq] at h
      rw [ibeq_eq] at h
      refine ⟨?_, ?_⟩
      · unfold Instr.sameNow
        simp only [if_true]
        rw [← h]
        rfl
      · intro hb
        rw [hb] at h
        have := of_decide_eq_true h
        subst this
        simp [Instr.sameBits]
  · rename_i a b' e
    cases e
    cases hx with
    | s _ bs e1 => cases hy with
      | s _ cs e2 =>
        simp only [Option.some.injEq] at h
        rw [neq_eq] at h
        have hiff : bs = cs ↔ a = b' := by
          rw [← e1, ← e2, strOf_inj]
          constructor
          · intro e; rw [e]
          · intro e
            have : bs.data = cs.data := Array.ext' e
            cases bs; cases cs; simp only at this; rw [this]
        refine ⟨?_, ?_⟩
        · unfold Instr.sameNow
          simp only
          rw [← h]
          congr 1
          by_cases hab : a = b'
          · have := hiff.2 hab
            subst this
            rw [ba_beq]; simp [hab]
          · have hne : bs ≠ cs := fun e => hab (hiff.1 e)
            rw [ba_beq]; simp [hab, hne]
        · intro hb
          rw [hb] at h
          have hab := of_decide_eq_true h
          have := hiff.2 hab
          subst this
          show (bs == bs) = true
          rw [ba_beq]; simp
  · cases h

theorem checkKey_run {kt : TypeId} {d : TypeDesc} (hd : P.underlying kt = some d) (hk : keyKind (some d) = true) (b : Bool) (n : Nat) (k : Value) : (Instr.checkKey b (n + 1) kt k).run P w = .ok () w := by
  unfold keyKind at hk
  split at hk
  · rename_i e; cases e
    unfold Instr.checkKey
    simp only [Sem.run_bind, run_underlying hd, Result.andThen_ok]
    rfl
  · rename_i e; cases e
    unfold Instr.checkKey
    simp only [Sem.run_bind, run_underlying hd, Result.andThen_ok]
    rfl
  · cases hk

/-- what is found here, and there -/
inductive FR (α : Nat → Value) (ρ : Rho) (k' : Value) (es' : List MapEntry) (base : Nat) : Option (Nat × AV) → Option (Nat × Value) → Prop
  | none : FR α ρ k' es' base none none
  | some (i : Nat) (v : AV) (v' : Value) (e : MapEntry) : VR α ρ v v' → base ≤ i → es'[i - base]? = some e → Instr.sameBits 10000 e.key k' = true → FR α ρ k' es' base (some (i, v)) (some (i, v'))

theorem find_sound {d : TypeDesc} {k : AV} {k' : Value} (hk : VR α ρ k k') : ∀ (es : List (AV × AV × Nat)) (es' : List MapEntry) (i : Nat) (r : Option (Nat × AV)), ERs α ρ es es' → findA (some d) k es i = some r →
    ∃ r', Instr.findNow d k' es' i = some r' ∧ FR α ρ k' es' i r r' := by
  intro es
  induction es with
  | nil => intro es' i r h1 h2; cases h1; cases h2; exact ⟨none, rfl, .none⟩
  | cons e es ih =>
    intro es' i r h1 h2
    cases h1 with
    | cons ke ve n ke' ve' _ l' g1 g2 g3 =>
      have h3 : ob (keq (some d) k ke) (fun b => bc b (some (some (i, ve))) (findA (some d) k es (i + 1))) = some r := h2
      obtain ⟨b, h4, h5⟩ := ob_some.1 h3
      obtain ⟨q1, q2⟩ := keq_sound hk g1 h4
      rw [bc_eq] at h5
      unfold Instr.findNow
      rw [q1]
      cases b with
      | true =>
        rw [if_pos rfl] at h5
        cases h5
        exact ⟨_, rfl, .some i ve ve' ⟨ke', ve', n⟩ g2 (Nat.le_refl _) (by simp) (q2 rfl)⟩
      | false =>
        rw [if_neg (by simp)] at h5
        obtain ⟨r', k1, k2⟩ := ih l' (i + 1) r g3 h5
        refine ⟨r', k1, ?_⟩
        cases k2 with
        | none => exact .none
        | some j v v' e hv hj he hs =>
          refine .some j v v' e hv (by omega) ?_ hs
          rw [show j - i = (j - (i + 1)) + 1 by omega]
          simpa using he
theorem findKey_run {kt : TypeId} {d : TypeDesc} (hd : P.underlying kt = some d) {k' : Value} {es' : List MapEntry} {r' : Option (Nat × Value)} (h : Instr.findNow d k' es' 0 = some r') :
    (Instr.findKey kt k' es').run P w = .ok r' w := by
  simp only [Instr.findKey, Sem.run_bind, run_underlying hd, Result.andThen_ok, h, Sem.run_pure]

theorem ERs.isEmpty {es : List (AV × AV × Nat)} {es' : List MapEntry} (h : ERs α ρ es es') : es.length = es'.length := by
  induction h with
  | nil => rfl
  | cons _ _ _ _ _ _ _ _ _ _ ih => simp [ih]
theorem ERs.append {a : List (AV × AV × Nat)} {a' : List MapEntry} {b : List (AV × AV × Nat)} {b' : List MapEntry} (h : ERs α ρ a a') (k : ERs α ρ b b') : ERs α ρ (a ++ b) (a' ++ b') := by
  induction h with
  | nil => exact k
  | cons k0 v n k' v' l l' h1 h2 h3 ih => exact .cons _ _ _ _ _ _ _ h1 h2 ih
theorem ERs.mod {k v : AV} {k' v' : Value} (hk : VR α ρ k k') (hv : VR α ρ v v') {a : List (AV × AV × Nat)} {a' : List MapEntry} (h : ERs α ρ a a') :
    ∀ i, i < a.length → ERs α ρ (modAt (fun e => (k, v, e.2.2)) a i) (a'.modify i fun e => { e with key := k', val := v' }) := by
  induction h with
  | nil => intro i hi; simp at hi
  | cons k0 v0 n k0' v0' l l' h1 h2 h3 ih =>
    intro i hi
    cases i with
    | zero => exact ERs.cons _ _ _ _ _ _ _ hk hv h3
    | succ i =>
      simp only [List.length_cons] at hi
      have := ih i (by omega)
      exact ERs.cons _ _ _ _ _ _ _ h1 h2 this
theorem ERs.erase {a : List (AV × AV × Nat)} {a' : List MapEntry} (h : ERs α ρ a a') : ∀ i, ERs α ρ (a.eraseIdx i) (a'.eraseIdx i) := by
  induction h with
  | nil => intro i; simpa using ERs.nil
  | cons k0 v0 n k0' v0' l l' h1 h2 h3 ih =>
    intro i
    cases i with
    | zero => simpa using h3
    | succ i => simpa using ERs.cons _ _ _ _ _ _ _ h1 h2 (ih i)

theorem lookup_sound (hr : Rel α ρ H w) {t : TypeId} {m k v : AV} {m' k' : Value} {ok : Bool} (hm : VR α ρ m m') (hk : VR α ρ k k') (h : lookupA P H t m k ok = some v) :
    QV P α ρ w (Instr.lookup t m' k' ok) v := by
  unfold lookupA at h
  split at h
  · rename_i kt e hd
    rw [bc_eq] at h
    split at h
    · rename_i hkk
      cases hdk : P.underlying kt with
      | none => rw [hdk] at hkk; cases hkk
      | some dk =>
        rw [hdk] at hkk h
        obtain ⟨r, h1, h2⟩ := ob_some.1 h
        have fin0 : r = none → ∃ z', (zeroValue e).run P w = .ok z' w ∧ VR α ρ v (if ok then .tuple #[z', .bool false] else z') := by
          intro hr0
          subst hr0
          obtain ⟨z, hz, hz2⟩ := ob_some.1 h2
          obtain ⟨z', g1, g2⟩ := run_zero' (α := α) (ρ := ρ) (w := w) hz
          refine ⟨z', g1, ?_⟩
          rw [bc_eq] at hz2
          cases hz2
          cases ok
          · exact g2
          · exact .tu _ _ (.cons _ _ _ _ g2 (.cons _ _ _ _ (.b false) .nil))
        have fin1 : ∀ i v0 v0', r = some (i, v0) → VR α ρ v0 v0' → VR α ρ v (if ok then .tuple #[v0', .bool true] else v0') := by
          intro i v0 v0' hr0 hv0
          subst hr0
          have h2' : some (bc ok (AV.tu [v0, .b true]) v0) = some v := h2
          rw [bc_eq] at h2'
          cases h2'
          cases ok
          · exact hv0
          · exact .tu _ _ (.cons _ _ _ _ hv0 (.cons _ _ _ _ (.b true) .nil))
        split at h1
        · cases h1
          cases hm
          obtain ⟨z', g1, g2⟩ := fin0 rfl
          refine ⟨_, ?_, g2⟩
          have hfk : (Instr.findKey kt k' (#[] : Array MapEntry).toList).run P w = .ok none w := findKey_run hdk rfl
          simp only [Instr.lookup, Sem.run_bind, run_underlying hd, Result.andThen_ok, Sem.run_pure, checkKey_run hdk hkk _ 9999, hfk]
          simp only [Sem.run_bind, g1, Result.andThen_ok, Sem.run_pure]
        · rename_i id
          cases hm with
          | m _ lo hlo =>
            obtain ⟨B, hB, h1⟩ := ob_some.1 h1
            obtain ⟨l, o, f1, f2, f3⟩ := hr.blk id B hB
            rw [hlo] at f1; cases f1
            cases B with
            | map es clock =>
              cases f3 with
              | map _ es' _ _ hes =>
                obtain ⟨r', k1, k2⟩ := find_sound hk es es' 0 r hes h1
                have hfk : (Instr.findKey kt k' (⟨es'⟩ : Array MapEntry).toList).run P w = .ok r' w := findKey_run hdk k1
                have hgo := getObj_run (P := P) f2 (by intro c e f; simp)
                cases k2 with
                | none =>
                  obtain ⟨z', g1, g2⟩ := fin0 rfl
                  refine ⟨_, ?_, g2⟩
                  simp only [Instr.lookup, Sem.run_bind, run_underlying hd, Result.andThen_ok, hgo, Sem.run_pure, checkKey_run hdk hkk _ 9999, hfk, g1]
                | some i v0 v0' e0 hv0 _ _ _ =>
                  refine ⟨_, ?_, fin1 i v0 v0' rfl hv0⟩
                  simp only [Instr.lookup, Sem.run_bind, run_underlying hd, Result.andThen_ok, hgo, Sem.run_pure, checkKey_run hdk hkk _ 9999, hfk]
            | _ => cases h1
        · cases h1
    · cases h
  · cases h

theorem mapUpdate_sound (hr : Rel α ρ H w) {t : TypeId} {m k v : AV} {m' k' v' : Value} (hm : VR α ρ m m') (hk : VR α ρ k k') (hv : VR α ρ v v') (h : mapUpdateA P H t m k v = some H') :
    ES P α ρ H w (Instr.mapUpdate t m' k' v') H' := by
  unfold mapUpdateA at h
  split at h
  · rename_i kt e id hd
    cases hm with
    | m _ lo hlo =>
      rw [bc_eq] at h
      split at h
      · rename_i hkk
        cases hdk : P.underlying kt with
        | none => rw [hdk] at hkk; cases hkk
        | some dk =>
          rw [hdk] at hkk h
          obtain ⟨B, hB, h1⟩ := ob_some.1 h
          obtain ⟨l, o, f1, f2, f3⟩ := hr.blk id B hB
          rw [hlo] at f1; cases f1
          cases B with
          | map es clock =>
            cases f3 with
            | map _ es' _ _ hes =>
              obtain ⟨r, h2, h3⟩ := ob_some.1 h1
              obtain ⟨r', k1, k2⟩ := find_sound hk es es' 0 r hes h2
              have hfk : (Instr.findKey kt k' (⟨es'⟩ : Array MapEntry).toList).run P w = .ok r' w := findKey_run hdk k1
              have hgo := getObj_run (P := P) f2 (by intro c e f; simp)
              have hso := fun o' => setObj_run (P := P) (o' := o') f2 (by intro c e f; simp)
              cases k2 with
              | none =>
                cases h3
                refine ⟨_, ρ, ?_, turn_obj hr hB hlo f2 (.map _ (es' ++ [⟨k', v', clock⟩]) _ _ (hes.append (.cons _ _ _ _ _ _ _ hk hv .nil)))⟩
                simp only [Instr.mapUpdate, Sem.run_bind, run_underlying hd, Result.andThen_ok, hgo, checkKey_run hdk hkk _ 9999, hfk, hso]
                simp
              | some i v0 v0' e0 hv0 hb he hs =>
                cases h3
                have hi : i < es.length := by
                  have := (List.getElem?_eq_some_iff.1 he).1
                  rw [hes.isEmpty]; omega
                refine ⟨_, ρ, ?_, turn_obj hr hB hlo f2 (.map _ _ _ _ (hes.mod hk hv i hi))⟩
                have hkey : ((((⟨es'⟩ : Array MapEntry)[i]?).map (·.key)).getD k') = e0.key := by
                  have : (⟨es'⟩ : Array MapEntry)[i]? = some e0 := by simpa using he
                  rw [this]; rfl
                simp only [Instr.mapUpdate, Sem.run_bind, run_underlying hd, Result.andThen_ok, hgo, checkKey_run hdk hkk _ 9999, hfk]
                rw [hkey]
                simp only [Instr.keyThatStays, hs, if_true, Sem.run_pure, Sem.run_bind, Result.andThen_ok, hso]
                simp
          | _ => cases h1
      · cases h
  · cases h

theorem delete_sound (hr : Rel α ρ H w) {t : TypeId} {ts : List TypeId} {ty : TypeId} {m k : AV} {m' k' : Value} (hm : VR α ρ m m') (hk : VR α ρ k k') (h : deleteA P H t m k = some H') :
    EV P α ρ H w (Builtin.delete_ ⟨t :: ts⟩ ty ⟨[m', k']⟩) (.tu []) H' := by
  unfold deleteA at h
  split at h
  · rename_i kt e id hd
    cases hm with
    | m _ lo hlo =>
      rw [bc_eq] at h
      split at h
      · rename_i hkk
        cases hdk : P.underlying kt with
        | none => rw [hdk] at hkk; cases hkk
        | some dk =>
          rw [hdk] at hkk h
          obtain ⟨B, hB, h1⟩ := ob_some.1 h
          obtain ⟨l, o, f1, f2, f3⟩ := hr.blk id B hB
          rw [hlo] at f1; cases f1
          cases B with
          | map es clock =>
            cases f3 with
            | map _ es' _ _ hes =>
              obtain ⟨r, h2, h3⟩ := ob_some.1 h1
              obtain ⟨r', k1, k2⟩ := find_sound hk es es' 0 r hes h2
              have hfk : (Instr.findKey kt k' (⟨es'⟩ : Array MapEntry).toList).run P w = .ok r' w := findKey_run hdk k1
              have hgo := getObj_run (P := P) f2 (by intro c e f; simp)
              have hso := fun o' => setObj_run (P := P) (o' := o') f2 (by intro c e f; simp)
              have hlt := (Array.getElem?_eq_some_iff.1 f2).1
              cases k2 with
              | none =>
                cases h3
                refine ⟨.tuple ⟨[]⟩, w, ρ, ?_, Ev.refl hr, .tu _ _ .nil⟩
                simp only [Builtin.delete_, List.getElem?_toArray, List.getElem?_cons_zero, List.getElem?_cons_succ, Sem.run_bind, run_underlying hd, Result.andThen_ok, hgo, checkKey_run hdk hkk _ 9999, hfk, hso]
                have : w.heap.setIfInBounds lo.b (.map ⟨es'⟩ clock) = w.heap := by
                  apply Array.ext (by simp)
                  intro i h1 h2
                  rw [Array.getElem_setIfInBounds]
                  split
                  · rename_i e; subst e; exact (Array.getElem?_eq_some_iff.1 f2).2.symm
                  · rfl
                simp [this]
              | some i v0 v0' e0 hv0 hb he hs =>
                cases h3
                refine ⟨.tuple ⟨[]⟩, _, ρ, ?_, turn_obj hr hB hlo f2 (.map _ _ _ _ (hes.erase i)), .tu _ _ .nil⟩
                simp only [Builtin.delete_, List.getElem?_toArray, List.getElem?_cons_zero, List.getElem?_cons_succ, Sem.run_bind, run_underlying hd, Result.andThen_ok, hgo, checkKey_run hdk hkk _ 9999, hfk, hso]
                have hi : i < es'.length := by
                  have := (List.getElem?_eq_some_iff.1 he).1
                  omega
                simp [Array.eraseIdxIfInBounds, hi]
          | _ => cases h1
      · cases h
  · cases h
end
end Go.Twin
