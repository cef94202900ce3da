/- Operations that make or write memory; maps. -/
import Derived.Test.YtgcdilelbeobmaaGreatDoorTwinOpsC
namespace Go.Twin
open Go

section
variable {α : Nat → Value} {ρ : Rho} {H H' : AH} {w : World} {P : Program}

def EV (P : Program) (α : Nat → Value) (ρ : Rho) (H : AH) (w : World) (s : Sem Value) (v : AV) (H' : AH) : Prop :=
  ∃ v' w' ρ', s.run P w = .ok v' w' ∧ Ev α ρ H w ρ' H' w' ∧ VR α ρ' v v'
def ES (P : Program) (α : Nat → Value) (ρ : Rho) (H : AH) (w : World) (s : Sem Unit) (H' : AH) : Prop :=
  ∃ w' ρ', s.run P w = .ok () w' ∧ Ev α ρ H w ρ' H' w'

theorem new_ev (hr : Rel α ρ H w) {B : Blk} {cs : Array Value} {e : TypeId} {s : Sem Value} {mk : Nat → AV} {v : AV} {v' : Value} (hb : ∀ ρ' : Rho, ρ.le ρ' → ∀ b, BR α ρ' B (.cells cs e) ⟨b, 0, cs.size⟩)
    (h : newA H B mk = some (v, H')) (hs : s.run P w = .ok v' { w with heap := w.heap.push (.cells cs e) })
    (hv : VR α (upd ρ H.next ⟨w.heap.size, 0, cs.size⟩) (mk H.next) v') : EV P α ρ H w s v H' := by
  rw [newA_eq] at h
  cases h
  exact ⟨_, _, _, hs, Ev.new hr B _ _ (hb _ (upd_le (hr.fresh _ (Nat.le_refl _))) _), hv⟩

theorem alloc_sound (hr : Rel α ρ H w) {t : TypeId} {v : AV} (h : allocA P H t = some (v, H')) : EV P α ρ H w (Instr.alloc t true (.tuple #[])) v H' := by
  obtain ⟨z, h1, h2⟩ := ob_some.1 h
  obtain ⟨z', h3, h4⟩ := run_zero' (α := α) (ρ := ρ) (w := w) h1
  refine new_ev hr (cs := z'.cells) (e := t) (fun ρ' hle b => ?_) h2 ?_ (.p _ _ _ (upd_self _ _ _))
  · have := newCells_br (h4.mono hle).cells t b
    simpa using this
  · simp [Instr.alloc, h3, newVar, newRow]
theorem box_sound (hr : Rel α ρ H w) {t : TypeId} {x v : AV} {x' : Value} (hx : VR α ρ x x') (h : boxA H x = some (v, H')) : EV P α ρ H w (Instr.box t x') v H' := by
  refine new_ev hr (cs := x'.cells) (e := t) (fun ρ' hle b => ?_) h ?_ (.p _ _ _ (upd_self _ _ _))
  · have := boxCells_br (hx.mono hle).cells t b
    simpa using this
  · simp [Instr.box, newVar, newRow]
theorem store_sound (hr : Rel α ρ H w) {t : TypeId} {x y : AV} {x' y' : Value} (hx : VR α ρ x x') (hy : VR α ρ y y') (h : storeA P H t x y = some H') :
    ES P α ρ H w (Instr.storeAt t x' y') H' := by
  unfold storeA at h
  split at h
  · rename_i id off
    cases hx with
    | p _ _ lo hlo =>
      obtain ⟨n, h1, h2⟩ := ob_some.1 h
      rw [bc_eq] at h2
      split at h2
      · rename_i hb
        have hn := Nat.eq_of_beq_eq_true hb
        obtain ⟨lo', w', g1, g2, g3⟩ := wrAt_sound (P := P) hr h2 hy.cells
        rw [hlo] at g1; cases g1
        refine ⟨w', ρ, ?_, g3⟩
        have hsz : y'.cells.size = n := by rw [← hn, hy.cells.length, Array.length_toList]
        simp only [Instr.storeAt, Instr.sureAddr, Sem.run_bind, Sem.run_pure, Result.andThen_ok, storeVar, run_size' h1, hsz, ne_eq, not_true_eq_false, if_false]
        exact g2
      · cases h2
  · cases h

/-! parts laid over cells -/
theorem fill_set : ∀ (cs : List Value) (l : List Value) (off j : Nat), off + j + cs.length ≤ l.length →
    ((cs.zipIdx j).foldl (fun (a : Array Value) (p : Value × Nat) => a.setIfInBounds (off + p.2) p.1) ⟨l⟩).toList = l.take (off + j) ++ (cs ++ l.drop (off + j + cs.length)) := by
  intro cs
  induction cs with
  | nil => intro l off j h; simp
  | cons c cs ih =>
    intro l off j h
    simp only [List.length_cons] at h
    have hlt : off + j < l.length := by omega
    have h1 := ih (l.set (off + j) c) off (j + 1) (by simp; omega)
    simp only [List.zipIdx_cons, List.foldl_cons, List.setIfInBounds_toArray] at h1 ⊢
    rw [h1]
    rw [show off + (j + 1) = off + j + 1 by omega]
    rw [List.take_add_one, List.getElem?_set_self hlt, List.drop_set_of_lt (by omega), List.take_set_of_le (Nat.le_refl _)]
    simp only [Option.toList_some, List.length_cons, List.append_assoc, List.nil_append, List.cons_append]
    rw [show off + j + 1 + cs.length = off + j + (cs.length + 1) by omega]

theorem fill_sound {place : Nat → Option (Nat × Nat)} : ∀ (parts : List (Nat × AV)) (parts' : List (Nat × Value)) (l : List AV) (l' : List Value) (r : List AV),
    (parts.map (·.1) = parts'.map (·.1)) → VRs α ρ (parts.map (·.2)) (parts'.map (·.2)) → VRs α ρ l l' → fillA place parts l = some r →
    ∃ r', Instr.fill place ⟨l'⟩ parts' = some ⟨r'⟩ ∧ VRs α ρ r r' := by
  intro parts
  induction parts with
  | nil =>
    intro parts' l l' r h1 h2 h3 h4
    cases parts' with
    | nil => cases h4; exact ⟨l', rfl, h3⟩
    | cons _ _ => simp at h1
  | cons p parts ih =>
    intro parts' l l' r h1 h2 h3 h4
    cases parts' with
    | nil => simp at h1
    | cons p' parts' =>
      simp only [List.map_cons, List.cons.injEq] at h1
      simp only [List.map_cons] at h2
      cases h2 with
      | cons _ _ _ _ hp hps =>
        have h5 : ob (place p.1) (fun os => bc (Nat.beq (cellsOf p.2).length os.2) (bc (Nat.ble (Nat.add os.1 os.2) l.length)
          (fillA place parts (l.take os.1 ++ (cellsOf p.2 ++ l.drop (Nat.add os.1 os.2)))) none) none) = some r := h4
        obtain ⟨os, h6, h7⟩ := ob_some.1 h5
        rw [bc_eq, bc_eq] at h7
        split at h7
        · rename_i hb1
          split at h7
          · rename_i hb2
            have e1 := Nat.eq_of_beq_eq_true hb1
            have e2 : os.1 + os.2 ≤ l.length := Nat.le_of_ble_eq_true hb2
            have hc := hp.cells
            have hcl := hc.length
            have hll := h3.length
            obtain ⟨r', g1, g2⟩ := ih parts' _ (l'.take os.1 ++ (p'.2.cells.toList ++ l'.drop (os.1 + os.2))) r h1.2 hps ((h3.take _).append (hc.append (h3.drop _))) h7
            refine ⟨r', ?_, g2⟩
            obtain ⟨i0, v0⟩ := p'
            obtain ⟨off, sz⟩ := os
            simp only at *
            have hsz : v0.cells.size = sz := by rw [← e1, hcl, Array.length_toList]
            unfold Instr.fill
            rw [← h1.1, h6]
            simp only
            rw [if_neg (by rw [hsz]; simp; omega)]
            rw [← g1]
            congr 1
            apply Array.ext'
            rw [← Array.foldl_toList, Array.toList_zipIdx]
            have := fill_set v0.cells.toList l' off 0 (by rw [Array.length_toList, hsz]; omega)
            simp only [Nat.add_zero, Array.length_toList, hsz] at this
            exact this
          · cases h7
        · cases h7

theorem partsA_sound {T : Tr AV} {e : Operand → Value} (he : EvOK α ρ T e) : ∀ {ps : List (Nat × Operand)} {l : List (Nat × AV)}, partsA T ps = some l →
    l.map (·.1) = (ps.map fun (i, x) => (i, e x)).map (·.1) ∧ VRs α ρ (l.map (·.2)) ((ps.map fun (i, x) => (i, e x)).map (·.2)) := by
  intro ps
  induction ps with
  | nil => intro l h; cases h; exact ⟨rfl, .nil⟩
  | cons p ps ih =>
    intro l h
    have h' : ob (ob (ev T p.2) fun v => some (p.1, v)) (fun b => ob (partsA T ps) fun r => some (b :: r)) = some l := h
    obtain ⟨b, h1, h2⟩ := ob_some.1 h'
    obtain ⟨v, h3, h4⟩ := ob_some.1 h1
    cases h4
    obtain ⟨r, h5, h6⟩ := ob_some.1 h2
    cases h6
    obtain ⟨g1, g2⟩ := ih h5
    exact ⟨by simp only [List.map_cons, g1], .cons _ _ _ _ (he _ _ h3) g2⟩
theorem evs_sound {T : Tr AV} {e : Operand → Value} (he : EvOK α ρ T e) : ∀ {xs : List Operand} {l : List AV}, evs T xs = some l → VRs α ρ l (xs.map e) := by
  intro xs
  induction xs with
  | nil => intro l h; cases h; exact .nil
  | cons x xs ih =>
    intro l h
    have h' : ob (ev T x) (fun b => ob (evs T xs) fun r => some (b :: r)) = some l := h
    obtain ⟨b, h1, h2⟩ := ob_some.1 h'
    obtain ⟨r, h5, h6⟩ := ob_some.1 h2
    cases h6
    exact .cons _ _ _ _ (he _ _ h1) (ih h5)

theorem build_sound {t : TypeId} {parts : List (Nat × AV)} {parts' : List (Nat × Value)} {v : AV} (h1 : parts.map (·.1) = parts'.map (·.1)) (h2 : VRs α ρ (parts.map (·.2)) (parts'.map (·.2)))
    (h : buildA P t parts = some v) : QV P α ρ w (Instr.build t ⟨parts'⟩) v := by
  obtain ⟨z, hz, h⟩ := ob_some.1 h
  obtain ⟨z', g1, g2⟩ := run_zero' (α := α) (ρ := ρ) (w := w) hz
  split at h
  · rename_i fs hd
    obtain ⟨ps, h3, h4⟩ := ob_some.1 h
    obtain ⟨l, h5, h6⟩ := ob_some.1 h4
    cases h6
    obtain ⟨r', k1, k2⟩ := fill_sound _ _ _ _ _ h1 h2 g2.cells h5
    refine ⟨.agg ⟨r'⟩, ?_, .ag _ _ k2⟩
    have hps : ∀ (fl : List Field) (ps : List (Nat × Nat)) (acc : Array (Nat × Nat)), fieldPlaces P fl = some ps →
        (fl.foldlM (fun (acc : Array (Nat × Nat)) f => do pure (acc.push (f.offset, ← sizeOf f.type))) acc : Sem _).run P w = .ok (acc ++ ps.toArray) w := by
      intro fl
      induction fl with
      | nil => intro ps acc h; cases h; simp
      | cons f fl ih =>
        intro ps acc h
        have h' : ob (ob (sizeB P f.type) fun n => some (f.offset, n)) (fun b => ob (fieldPlaces P fl) fun r => some (b :: r)) = some ps := h
        obtain ⟨b, e1, e2⟩ := ob_some.1 h'
        obtain ⟨n, e3, e4⟩ := ob_some.1 e1
        cases e4
        obtain ⟨r, e5, e6⟩ := ob_some.1 e2
        cases e6
        simp only [List.foldlM_cons, Sem.run_bind, run_size' e3, Result.andThen_ok, Sem.run_pure, ih r _ e5]
        congr 1
        simp
    have hpl := hps fs.toList ps #[] h3
    have hmap : (fs.mapM (m := Sem) fun f => do pure (f.offset, ← sizeOf f.type)).run P w = .ok ps.toArray w := by
      rw [Array.mapM_eq_foldlM, ← Array.foldlM_toList]
      have : (fun (bs : Array (Nat × Nat)) (f : Field) => (bs.push <$> (do pure (f.offset, ← sizeOf f.type) : Sem (Nat × Nat)))) = fun bs f => (do pure (bs.push (f.offset, ← sizeOf f.type))) := by
        funext bs f
        simp only [map_eq_pure_bind, bind_assoc, pure_bind]
      rw [this, hpl]
      simp
    simp only [Instr.build, Sem.run_bind, g1, Result.andThen_ok, run_underlying hd, hmap]
    have hpp : (fun x => ps.toArray[x]?) = fun i => lget ps i := by funext i; rw [lget_eq]; simp
    rw [hpp]
    rw [show z'.cells = ⟨z'.cells.toList⟩ from rfl, k1]
    rfl
  · rename_i n e hd
    obtain ⟨s, h3, h4⟩ := ob_some.1 h
    obtain ⟨l, h5, h6⟩ := ob_some.1 h4
    cases h6
    obtain ⟨r', k1, k2⟩ := fill_sound _ _ _ _ _ h1 h2 g2.cells h5
    refine ⟨.agg ⟨r'⟩, ?_, .ag _ _ k2⟩
    simp only [Instr.build, Sem.run_bind, g1, Result.andThen_ok, run_underlying hd, run_size' h3]
    rw [show z'.cells = ⟨z'.cells.toList⟩ from rfl]
    rw [show (fun i => some (i * s, s)) = (fun i => some (Nat.mul i s, s)) from rfl, k1]
    rfl
  · cases h
end
end Go.Twin
