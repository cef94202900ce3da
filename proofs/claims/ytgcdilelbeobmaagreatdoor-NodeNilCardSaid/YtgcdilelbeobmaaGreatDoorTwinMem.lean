/- Loads, stores and new blocks: the model's run of each, beside what is done here. -/
import Derived.Test.YtgcdilelbeobmaaGreatDoorTwinRel
import Derived.Laws.Sem
import Derived.Laws.Cells
namespace Go.Twin
open Go

theorem add_none (b o n : Nat) : (⟨b, o, none⟩ : Addr).add n = ⟨b, o + n, none⟩ := by unfold Addr.add; split <;> simp_all

section
variable {α : Nat → Value} {ρ : Rho} {H H' : AH} {w : World} {P : Program}

theorem cellAt_put (t : Tr AV) (z : List AV) (zl n off j : Nat) (v : AV) (hoff : off < n) :
    cellAt (t.put off (some v)) z zl n j = if j = off then some v else cellAt t z zl n j := by
  unfold cellAt
  rw [Tr.get_put]
  by_cases h : j = off
  · rw [if_pos h, if_pos h, bc_eq]
    have : Nat.blt j n = true := by simp [Nat.blt]; omega
    rw [if_pos this]
  · rw [if_neg h, if_neg h]
theorem cellAt_lt {t : Tr AV} {z : List AV} {zl n j : Nat} {v : AV} (h : cellAt t z zl n j = some v) : j < n := by
  unfold cellAt at h
  rw [bc_eq] at h
  split at h
  · rename_i hb
    simp [Nat.blt] at hb
    omega
  · cases h

theorem cell_of_block {b o : Nat} {c : Array Value} {e : TypeId} {fz : Nat × Nat} (h : w.heap[b]? = some (.cells c e fz)) : w.cell? ⟨b, o, none⟩ = c[o]? := by
  simp [World.cell?, h]

/-- what is read of cells side by side -/
theorem rd_sound {t : Tr AV} {z : List AV} {zl n sh : Nat} {c : Array Value} (hc : ∀ off a, cellAt t z zl n off = some a → ∃ v, c[off + sh]? = some v ∧ VR α ρ a v) :
    ∀ (k off : Nat) (l : List AV), rd t z zl n k off = some l → ∃ vs, VRs α ρ l vs ∧ vs.length = k ∧ ∀ (j : Nat) v, vs[j]? = some v → c[off + sh + j]? = some v := by
  intro k
  induction k with
  | zero =>
    intro off l h
    have h0 : (some [] : Option (List AV)) = some l := h
    cases h0
    exact ⟨[], .nil, rfl, fun j v hj => by simp at hj⟩
  | succ k ih =>
    intro off l h
    have h' : ob (cellAt t z zl n off) (fun v => ob (rd t z zl n k (off + 1)) fun r => some (v :: r)) = some l := h
    obtain ⟨a, ha, h1⟩ := ob_some.1 h'
    obtain ⟨r, hr, h2⟩ := ob_some.1 h1
    cases h2
    obtain ⟨v, hv, hva⟩ := hc off a ha
    obtain ⟨vs, h3, h4, h5⟩ := ih (off + 1) r hr
    refine ⟨v :: vs, .cons _ _ _ _ hva h3, by simp [h4], ?_⟩
    intro j u hj
    cases j with
    | zero => simp at hj; subst hj; simpa using hv
    | succ j =>
      simp at hj
      have := h5 j u hj
      rwa [show off + sh + (j + 1) = off + 1 + sh + j by omega]

theorem rdAt_sound (hr : Rel α ρ H w) {id off k : Nat} {l : List AV} (h : H.rdAt id off k = some l) :
    ∃ lo vs, ρ id = some lo ∧ VRs α ρ l vs ∧ vs.length = k ∧ ∀ (j : Nat) v, vs[j]? = some v → w.cell? ((⟨lo.b, off + lo.sh, none⟩ : Addr).add j) = some v := by
  obtain ⟨B, hB, h1⟩ := ob_some.1 h
  obtain ⟨lo, o, f1, f2, f3⟩ := hr.blk id B hB
  cases B with
  | cells t z zl n =>
    cases f3 with
    | cells _ _ _ _ c e fz b sh N g1 g2 g3 g4 =>
      obtain ⟨vs, h3, h4, h5⟩ := rd_sound g1 k off l ((rdF_eq t z zl n k off).symm.trans h1)
      refine ⟨_, vs, f1, h3, h4, ?_⟩
      intro j v hj
      rw [add_none, cell_of_block f2]
      exact h5 j v hj
  | _ => cases h1

theorem setCell_heap {b o : Nat} {c : Array Value} {e : TypeId} {fz : Nat × Nat} (v : Value) (h : w.heap[b]? = some (.cells c e fz)) :
    (w.setCell ⟨b, o, none⟩ v).heap[b]? = some (.cells (c.setIfInBounds o v) e fz) ∧ (∀ b', b' ≠ b → (w.setCell ⟨b, o, none⟩ v).heap[b']? = w.heap[b']?) ∧
    (w.setCell ⟨b, o, none⟩ v).heap.size = w.heap.size := by
  have hlt := (Array.getElem?_eq_some_iff.1 h).1
  refine ⟨?_, ?_, by simp [World.setCell]⟩
  · simp only [World.setCell, Array.getElem?_modify, if_true]
    rw [h]; simp
  · intro b' hb'
    simp only [World.setCell, Array.getElem?_modify]
    rw [if_neg (fun e => hb' e.symm)]

/-- stores of cells side by side -/
theorem wrs_sound {z : List AV} {zl n sh N b : Nat} {e : TypeId} {fz : Nat × Nat} (hN : n + sh ≤ N) (hfz : ∀ j, j < N → ¬ (fz.1 ≤ j ∧ j < fz.2)) :
    ∀ (l : List AV) (vs : List Value) (t t' : Tr AV) (off i o : Nat) (c : Array Value) (w : World), wrs n l t off = some t' → VRs α ρ l vs →
      (∀ off a, cellAt t z zl n off = some a → ∃ v, c[off + sh]? = some v ∧ VR α ρ a v) → c.size = N → w.heap[b]? = some (.cells c e fz) → o + i = off + sh →
      ∃ w' c', (storeCells ⟨b, o, none⟩ vs i).run P w = .ok () w' ∧ w'.heap[b]? = some (.cells c' e fz) ∧ c'.size = N ∧
        (∀ off a, cellAt t' z zl n off = some a → ∃ v, c'[off + sh]? = some v ∧ VR α ρ a v) ∧ (∀ b', b' ≠ b → w'.heap[b']? = w.heap[b']?) ∧
        w'.heap.size = w.heap.size ∧ w'.os = w.os ∧ w'.tape = w.tape ∧ w'.output = w.output := by
  intro l
  induction l with
  | nil =>
    intro vs t t' off i o c w h hv hc hs hb ho
    cases hv
    have : t' = t := by simpa [wrs] using h.symm
    subst this
    exact ⟨w, c, rfl, hb, hs, hc, fun _ _ => rfl, rfl, rfl, rfl, rfl⟩
  | cons a l ih =>
    intro vs t t' off i o c w h hv hc hs hb ho
    cases hv with
    | cons _ v _ vs' hva hvs =>
      have h' : bc (one1 a) (bc (Nat.blt off n) (wrs n l (t.put off (some a)) (off + 1)) none) none = some t' := (wrs_cons n a l t off).symm.trans h
      rw [bc_eq, bc_eq] at h'
      split at h'
      · rename_i h1
        split at h'
        · rename_i h2
          have hoff : off < n := by simp [Nat.blt] at h2; omega
          have hone : v.oneCell' = true := by
            have := hva.one h1
            cases v <;> simp_all [oneCell, Value.oneCell']
          have hcell : w.cell? ⟨b, o + i, none⟩ = c[off + sh]? := by rw [cell_of_block hb, ho]
          have hlt : off + sh < c.size := by omega
          have hfr : w.frozen? ⟨b, o + i, none⟩ = false := by
            simp only [World.frozen?, hb, ho]
            have := hfz (off + sh) (by omega)
            simp only [not_and, Bool.and_eq_false_iff, decide_eq_false_iff_not] at this ⊢
            by_cases hq : fz.1 ≤ off + sh
            · exact .inr (this hq)
            · exact .inl hq
          have hst : (store ((⟨b, o, none⟩ : Addr).add i) v).run P w = .ok () (w.setCell ⟨b, o + i, none⟩ v) := by
            rw [add_none, run_store P w _ v _ hone, hcell, Array.getElem?_eq_getElem hlt]
            simp [hfr]
          obtain ⟨k1, k2, k3⟩ := setCell_heap (o := o + i) v hb
          have hnew : ∀ off' a', cellAt (t.put off (some a)) z zl n off' = some a' → ∃ v', (c.setIfInBounds (o + i) v)[off' + sh]? = some v' ∧ VR α ρ a' v' := by
            intro off' a' ha'
            rw [cellAt_put _ _ _ _ _ _ _ hoff] at ha'
            by_cases he : off' = off
            · rw [if_pos he] at ha'; cases ha'
              refine ⟨v, ?_, hva⟩
              rw [he, ho]
              simp [hlt]
            · rw [if_neg he] at ha'
              obtain ⟨u, hu, hua⟩ := hc off' a' ha'
              refine ⟨u, ?_, hua⟩
              rw [Array.getElem?_setIfInBounds_ne (by omega)]
              exact hu
          obtain ⟨w', c', r1, r2, r3, r4, r5, r6, r7, r8, r9⟩ := ih vs' _ t' (off + 1) (i + 1) o _ _ h' hvs hnew (by simpa using hs) k1 (by omega)
          refine ⟨w', c', ?_, r2, r3, r4, fun b' hb' => (r5 b' hb').trans (k2 b' hb'), r6.trans k3, r7, r8, r9⟩
          simp only [storeCells, Sem.run_bind, hst, Result.andThen_ok, r1]
        · cases h'
      · cases h'

theorem wrAt_sound (hr : Rel α ρ H w) {id off : Nat} {l : List AV} {vs : List Value} (h : H.wrAt id off l = some H') (hv : VRs α ρ l vs) :
    ∃ lo w', ρ id = some lo ∧ (storeCells ⟨lo.b, off + lo.sh, none⟩ vs 0).run P w = .ok () w' ∧ Ev α ρ H w ρ H' w' := by
  obtain ⟨B, hB, h1⟩ := ob_some.1 h
  obtain ⟨lo, o, f1, f2, f3⟩ := hr.blk id B hB
  cases B with
  | cells t z zl n =>
    cases f3 with
    | cells _ _ _ _ c e fz b sh N g1 g2 g3 g4 =>
      obtain ⟨t', h2, h3⟩ := ob_some.1 h1
      cases h3
      obtain ⟨w', c', r1, r2, r3, r4, r5, r6, r7, r8, r9⟩ := wrs_sound (P := P) g3 g4 l vs t t' off 0 (off + sh) c w h2 hv g1 g2 f2 rfl
      exact ⟨_, w', f1, r1, Ev.turn hr hB f1 r6 r2 r5 r7 r8 r9 (.cells _ _ _ _ _ _ _ _ _ _ r4 r3 g3 g4)⟩
  | _ => cases h1

/-! new blocks -/
theorem newA_eq (H : AH) (B : Blk) (mk : Nat → AV) : newA H B mk = some (mk H.next, ⟨H.t.put H.next (some B), H.next + 1⟩) := by
  unfold newA; rw [sN_eq]

theorem sameFlat_eq {a b : AV} (h : sameFlat a b = true) : a = b := by
  cases a <;> cases b <;> simp_all [sameFlat]

theorem pat_get (l : List AV) (j : Nat) (hj : j < l.length) : lget (pat l) (Nat.mod j (pat l).length) = l[j]? := by
  rw [lget_eq]
  show (pat l)[j % (pat l).length]? = _
  unfold pat
  cases l with
  | nil => simp at hj
  | cons a r =>
    simp only
    cases hb : r.all (sameFlat a) with
    | false =>
      simp only [cond_false]
      rw [Nat.mod_eq_of_lt hj]
    | true =>
      simp only [cond_true, List.length_singleton, Nat.mod_one]
      cases j with
      | zero => rfl
      | succ j =>
        simp only [List.length_cons] at hj
        have hj' : j < r.length := by omega
        simp only [List.getElem?_cons_zero, List.getElem?_cons_succ, List.getElem?_eq_getElem hj']
        rw [sameFlat_eq (List.all_eq_true.1 hb _ (List.getElem_mem hj'))]

theorem cellAt_leaf {z : List AV} {zl n j : Nat} : cellAt .leaf z zl n j = if j < n then lget z (Nat.mod j zl) else none := by
  unfold cellAt
  rw [bc_eq]
  by_cases h : j < n
  · rw [if_pos h, if_pos (by simp [Nat.blt]; omega)]; rfl
  · rw [if_neg h, if_neg (by simp [Nat.blt]; omega)]

theorem newCells_br {ρ : Rho} {l : List AV} {vs : List Value} (h : VRs α ρ l vs) (e : TypeId) (b : Nat) : BR α ρ (newCells l) (.cells vs.toArray e) ⟨b, 0, vs.length⟩ := by
  refine .cells _ _ _ _ _ _ _ _ _ _ ?_ (by simp) (by have := h.length; omega) (by simp)
  intro off a ha
  rw [cellAt_leaf] at ha
  split at ha
  · rename_i hlt
    rw [pat_get l off hlt] at ha
    obtain ⟨v, hv, r⟩ := h.get ha
    exact ⟨v, by simpa using hv, r⟩
  · cases ha

theorem listTr_get : ∀ (l : List AV) (t : Tr AV) (off j : Nat), (listTr l t off).get j = if off ≤ j ∧ j < off + l.length then l[j - off]? else t.get j := by
  intro l
  induction l with
  | nil => intro t off j; rw [if_neg (by simp)]; rfl
  | cons a l ih =>
    intro t off j
    rw [listTr_cons, ih, Tr.get_put]
    by_cases h1 : j = off
    · subst h1
      rw [if_neg (by omega), if_pos rfl, if_pos (by simp)]
      simp
    · by_cases h2 : off + 1 ≤ j ∧ j < off + 1 + l.length
      · rw [if_pos h2, if_pos (by simp; omega)]
        rw [show j - off = (j - (off + 1)) + 1 by omega]
        simp
      · rw [if_neg h2, if_neg h1, if_neg (by simp; omega)]

theorem boxCells_br {ρ : Rho} {l : List AV} {vs : List Value} (h : VRs α ρ l vs) (e : TypeId) (b : Nat) : BR α ρ (boxCells l) (.cells vs.toArray e) ⟨b, 0, vs.length⟩ := by
  unfold boxCells
  rw [bc_eq, lenL_eq]
  split
  · exact newCells_br h e b
  · refine .cells _ _ _ _ _ _ _ _ _ _ ?_ (by simp) (by have := h.length; omega) (by simp)
    intro off a ha
    have hlt := cellAt_lt ha
    unfold cellAt at ha
    rw [bc_eq, if_pos (by simp [Nat.blt]; omega), listTr_get, if_pos (by omega)] at ha
    simp only [Nat.sub_zero, List.getElem?_eq_getElem hlt] at ha
    obtain ⟨v, hv, r⟩ := h.get (x := a) (i := off) (by rw [List.getElem?_eq_getElem hlt]; exact ha)
    exact ⟨v, by simpa using hv, r⟩

/-- a new row of cells -/
theorem new_row (hr : Rel α ρ H w) {B : Blk} {cs : Array Value} (e : TypeId) (hb : ∀ ρ' : Rho, ρ.le ρ' → ∀ b, BR α ρ' B (.cells cs e) ⟨b, 0, cs.size⟩) :
    (newRow e cs).run P w = .ok ⟨w.heap.size, 0, none⟩ { w with heap := w.heap.push (.cells cs e) } ∧
    Ev α ρ H w (upd ρ H.next ⟨w.heap.size, 0, cs.size⟩) ⟨H.t.put H.next (some B), H.next + 1⟩ { w with heap := w.heap.push (.cells cs e) } :=
  ⟨by simp [newRow], Ev.new hr B _ _ (hb _ (upd_le (hr.fresh _ (Nat.le_refl _))) _)⟩
end
end Go.Twin
