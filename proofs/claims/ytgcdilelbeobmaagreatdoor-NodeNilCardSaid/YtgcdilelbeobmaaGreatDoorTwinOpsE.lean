/- Slices made; maps. -/
import Derived.Test.YtgcdilelbeobmaaGreatDoorTwinOpsD
namespace Go.Twin
open Go

section
variable {α : Nat → Value} {ρ : Rho} {H H' : AH} {w : World} {P : Program}

theorem VRs.of_get : ∀ {l : List AV} {l' : List Value}, l.length = l'.length → (∀ (i : Nat) a v, l[i]? = some a → l'[i]? = some v → VR α ρ a v) → VRs α ρ l l' := by
  intro l
  induction l with
  | nil => intro l' h _; cases l' with | nil => exact .nil | cons _ _ => simp at h
  | cons a l ih =>
    intro l' h hh
    cases l' with
    | nil => simp at h
    | cons v l' => exact .cons _ _ _ _ (hh 0 a v (by simp) (by simp)) (ih (by simpa using h) fun i a v e1 e2 => hh (i + 1) a v (by simpa using e1) (by simpa using e2))

theorem rep_length (l : List AV) : ∀ n, (rep l n).length = n * l.length := by
  intro n
  induction n with
  | zero => show ([] : List AV).length = _; simp
  | succ n ih => show (l ++ rep l n).length = _; rw [List.length_append, ih, Nat.succ_mul]; omega
theorem rep_get (l : List AV) : ∀ n i, i < n * l.length → (rep l n)[i]? = l[i % l.length]? := by
  intro n
  induction n with
  | zero => intro i h; simp at h
  | succ n ih =>
    intro i h
    show (l ++ rep l n)[i]? = _
    rw [List.getElem?_append]
    by_cases hi : i < l.length
    · rw [if_pos hi, Nat.mod_eq_of_lt hi]
    · rw [if_neg hi, ih _ (by rw [Nat.succ_mul] at h; omega)]
      rw [← Nat.mod_eq_sub_mod (by omega)]

/-- the cells of so many zero values -/
theorem zeros_vrs {z : List AV} {z' : Array Value} (hz : VRs α ρ z z'.toList) (n : Nat) (hl : z'.size = 0 → n = 0) :
    VRs α ρ (rep z n) ((Array.range (n * z.length)).map fun i => z'[i % z'.size]!).toList := by
  have hlen : z.length = z'.size := by rw [hz.length, Array.length_toList]
  refine VRs.of_get (by rw [rep_length]; simp) ?_
  intro i a v h1 h2
  have hi : i < n * z.length := by
    have := (List.getElem?_eq_some_iff.1 h1).1
    rwa [rep_length] at this
  rw [rep_get _ _ _ hi] at h1
  obtain ⟨u, hu, hr⟩ := hz.get h1
  have hv : v = z'[i % z'.size]! := by
    have : ((Array.range (n * z.length)).map fun i => z'[i % z'.size]!)[i]? = some v := by rw [← Array.getElem?_toList]; exact h2
    rw [Array.getElem?_map, Array.getElem?_range] at this
    simp only [hi, if_true, Option.map_some, Option.some.injEq] at this
    exact this.symm
  have hu' : z'[i % z'.size]? = some u := by
    rw [hlen] at hu
    simpa using hu
  have hlt := (Array.getElem?_eq_some_iff.1 hu').1
  have e : z'[i % z'.size]! = u := by
    rw [getElem!_pos z' _ hlt]
    exact (Array.getElem?_eq_some_iff.1 hu').2
  rw [hv, e]; exact hr

theorem buildSlice_sound (hr : Rel α ρ H w) {t : TypeId} {len : Nat} {parts : List (Nat × AV)} {parts' : List (Nat × Value)} {v : AV} (h1 : parts.map (·.1) = parts'.map (·.1))
    (h2 : VRs α ρ (parts.map (·.2)) (parts'.map (·.2))) (h : buildSliceA P H t len parts = some (v, H')) : EV P α ρ H w (Instr.buildSlice t len ⟨parts'⟩) v H' := by
  unfold buildSliceA at h
  split at h
  · rename_i e hd
    obtain ⟨s, hs, h⟩ := ob_some.1 h
    obtain ⟨z, hz, h⟩ := ob_some.1 h
    rw [bc_eq, bc_eq] at h
    split at h
    · rename_i hb1
      split at h
      · rename_i hb2
        have e1 := Nat.eq_of_beq_eq_true hb1
        have e2 : len * s ≤ 16777216 := Nat.le_of_ble_eq_true hb2
        obtain ⟨l, h5, h6⟩ := ob_some.1 h
        obtain ⟨z', g1, g2⟩ := run_zero' (α := α) (ρ := ρ) (w := w) hz
        have hcells := g2.cells
        have hzs : z'.cells.size = s := by rw [← e1, hcells.length, Array.length_toList]
        -- the row that lies there first
        have hbase : ∃ base : Array Value, ((len * s = 0 → base = #[]) ∧ (len * s ≠ 0 → base = z'.cells)) ∧
            VRs α ρ (rep (cellsOf z) len) ((Array.range (len * s)).map fun i => base[i % base.size]!).toList := by
          by_cases h0 : len * s = 0
          · refine ⟨#[], ⟨fun _ => rfl, fun e => absurd h0 e⟩, ?_⟩
            rw [h0]
            have : rep (cellsOf z) len = [] := by
              have := rep_length (cellsOf z) len
              rw [e1, h0] at this
              exact List.eq_nil_of_length_eq_zero this
            rw [this]
            simpa using VRs.nil
          · refine ⟨z'.cells, ⟨fun e => absurd e h0, fun _ => rfl⟩, ?_⟩
            have := zeros_vrs hcells len (fun e => by rw [hzs] at e; rw [e] at h0; simp at h0)
            rwa [e1] at this
        obtain ⟨base, b1, b2⟩ := hbase
        obtain ⟨r', k1, k2⟩ := fill_sound (place := fun i => some (Nat.mul i s, s)) _ _ _ _ _ h1 h2 b2 h5
        have k1' : Instr.fill (fun i => some (i * s, s)) ((Array.range (len * s)).map fun i => base[i % base.size]!) parts' = some ⟨r'⟩ := k1
        refine new_ev hr (cs := ⟨r'⟩) (e := e) (fun ρ' hle b => ?_) h6 (v' := .slice (some ⟨w.heap.size, 0, none⟩) len len) ?_
          (.sl _ _ _ _ _ _ _ _ (upd_self _ _ _) (Nat.le_refl _) (Nat.le_refl _) (fun _ => rfl) (.inl rfl) (.inl rfl))
        · have := boxCells_br (k2.mono hle) e b
          simpa using this
        · have hlim : ¬ (len * s > 2 ^ 24) := by omega
          simp only [Instr.buildSlice, Sem.run_bind, run_underlying hd, Result.andThen_ok, run_size' hs, if_neg hlim]
          by_cases h0 : len * s = 0
          · have := b1.1 h0
            subst this
            rw [if_pos h0]
            simp only [Sem.run_bind, Sem.run_pure, Result.andThen_ok, k1', newRow, run_newObj]
          · have := b1.2 h0
            subst this
            rw [if_neg h0]
            simp only [Sem.run_bind, Sem.run_pure, Result.andThen_ok, g1, k1', newRow, run_newObj]
      · cases h
    · cases h
  · cases h

theorem pat_mod (l : List AV) (j : Nat) (hl : l ≠ []) : lget (pat l) (Nat.mod j (pat l).length) = l[j % l.length]? := by
  rw [lget_eq]
  show (pat l)[j % (pat l).length]? = _
  unfold pat
  cases l with
  | nil => exact absurd rfl hl
  | cons a r =>
    simp only
    cases hb : r.all (sameFlat a) with
    | false => rfl
    | true =>
      simp only [cond_true, List.length_singleton, Nat.mod_one, List.getElem?_cons_zero]
      have hlt : j % (a :: r).length < (a :: r).length := Nat.mod_lt _ (by simp)
      generalize j % (a :: r).length = k at hlt
      cases k with
      | zero => simp
      | succ k =>
        simp only [List.length_cons] at hlt
        have hk : k < r.length := by omega
        simp only [List.getElem?_cons_succ, List.getElem?_eq_getElem hk]
        rw [sameFlat_eq (List.all_eq_true.1 hb _ (List.getElem_mem hk))]

theorem makeSlice_sound (hr : Rel α ρ H w) {t : TypeId} {a b v : AV} {a' b' : Value} (ha : VR α ρ a a') (hb : VR α ρ b b') (h : makeSliceA P H t a b = some (v, H')) :
    EV P α ρ H w (Instr.makeSlice t a' b') v H' := by
  unfold makeSliceA at h
  split at h
  · rename_i e k1 l k2 c hd
    obtain ⟨i, hi, h⟩ := ob_some.1 h
    obtain ⟨z, hz, h⟩ := ob_some.1 h
    rw [bc_eq, bc_eq, bc_eq, bc_eq] at h
    split at h
    · rename_i hb0
      split at h
      · rename_i hb1
        split at h
        · rename_i hb2
          split at h
          · rename_i hb3
            cases ha; cases hb
            have q0 : c < 140737488355328 := Nat.le_of_ble_eq_true hb0
            have q1 : i.bytes * c ≤ 140737488355328 := Nat.le_of_ble_eq_true hb1
            have q2 : l ≤ c := Nat.le_of_ble_eq_true hb2
            have q3 := Nat.eq_of_beq_eq_true hb3
            obtain ⟨z', g1, g2⟩ := run_zero' (α := α) (ρ := ρ) (w := w) hz
            have hcells := g2.cells
            have hzs : z'.cells.size = i.size := by rw [← q3, hcells.length, Array.length_toList]
            have hinfo : (typeInfo e).run P w = .ok i w := by simp [typeInfo, hi]
            have hsz : (sizeOf e).run P w = .ok i.size w := by simp [sizeOf, hinfo]
            have hbase : ∃ base : Array Value, (c * i.size = 0 → base = #[]) ∧ (c * i.size ≠ 0 → base = z'.cells) := by
              by_cases h0 : c * i.size = 0
              · exact ⟨#[], fun _ => rfl, fun e => absurd h0 e⟩
              · exact ⟨z'.cells, fun e => absurd e h0, fun _ => rfl⟩
            obtain ⟨base, b1, b2⟩ := hbase
            have hwl : IntKind.i64.wrap (Int.ofNat l) = l := by rw [← wr_eq]; simp only [wr, lim]; rw [show Nat.blt l 9223372036854775808 = true from by simp only [Nat.blt]; exact Nat.ble_eq_true_of_le (by omega)]; rfl
            have hwc : IntKind.i64.wrap (Int.ofNat c) = c := by rw [← wr_eq]; simp only [wr, lim]; rw [show Nat.blt c 9223372036854775808 = true from by simp only [Nat.blt]; exact Nat.ble_eq_true_of_le (by omega)]; rfl
            refine new_ev hr (cs := (Array.range (c * i.size)).map fun j => base[j % base.size]!) (e := e) (fun ρ' hle b => ?_) h (v' := .slice (some ⟨w.heap.size, 0, none⟩) l c) ?_
              (.sl _ _ _ _ _ _ _ _ (upd_self _ _ _) q2 (Nat.le_refl _) (fun _ => rfl) (.inl rfl) (.inl rfl))
            · refine .cells _ _ _ _ _ _ _ _ _ _ ?_ (by simp) (by simp) (by simp)
              intro off a hcell
              rw [cellAt_leaf] at hcell
              split at hcell
              · rename_i hlt
                have hlt' : off < c * i.size := hlt
                have hb0 := b2 (by omega)
                subst hb0
                have hne : cellsOf z ≠ [] := by
                  intro e0
                  rw [e0] at q3
                  simp at q3
                  rw [← q3] at hlt'
                  simp at hlt'
                rw [pat_mod _ _ hne] at hcell
                obtain ⟨u, hu, hur⟩ := (hcells.mono hle).get hcell
                refine ⟨u, ?_, hur⟩
                rw [Nat.add_zero, Array.getElem?_map, Array.getElem?_range]
                simp only [hlt', if_true, Option.map_some, Option.some.injEq]
                rw [q3, ← hzs] at hu
                have hu' : z'.cells[off % z'.cells.size]? = some u := by simpa using hu
                have hlt2 := (Array.getElem?_eq_some_iff.1 hu').1
                rw [getElem!_pos z'.cells (off % z'.cells.size) hlt2]
                exact (Array.getElem?_eq_some_iff.1 hu').2
              · cases hcell
            · have hcond : (((decide ((c : Int) < 0) || decide ((i.bytes : Int) * c > 2 ^ 48)) || decide ((l : Int) < 0)) || decide ((l : Int) > c)) = false := by
                simp only [Bool.or_eq_false_iff, decide_eq_false_iff_not]
                refine ⟨⟨⟨by omega, ?_⟩, by omega⟩, by omega⟩
                have := (Int.ofNat_le (m := i.bytes * c) (n := 140737488355328)).2 q1
                rw [Int.natCast_mul] at this
                omega
              simp only [Instr.makeSlice, Sem.run_bind, run_underlying hd, Result.andThen_ok, asInt, asIntOf, Sem.run_pure, hinfo, hwl, hwc, hsz]
              rw [if_neg (by rw [hcond]; simp)]
              simp only [Sem.run_bind, run_askRoom, Result.andThen_ok, Int.toNat_natCast, hsz]
              by_cases h0 : c * i.size = 0
              · have := b1 h0
                subst this
                rw [if_pos h0]
                simp only [Sem.run_bind, Sem.run_pure, Result.andThen_ok, newRow, run_newObj]
              · have := b2 h0
                subst this
                rw [if_neg h0]
                simp only [Sem.run_bind, Sem.run_pure, Result.andThen_ok, g1, newRow, run_newObj]
          · cases h
        · cases h
      · cases h
    · cases h
  · cases h
end
end Go.Twin
