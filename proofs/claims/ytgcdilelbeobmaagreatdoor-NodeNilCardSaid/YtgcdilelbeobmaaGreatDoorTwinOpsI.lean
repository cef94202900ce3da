/- Copying, clearing, turning into strings and back, going over a map. -/
import Derived.Test.YtgcdilelbeobmaaGreatDoorTwinOpsH
namespace Go.Twin
open Go

section
variable {α : Nat → Value} {ρ : Rho} {H H' : AH} {w : World} {P : Program}

theorem copyGo_sound (hr : Rel α ρ H w) {d : AV} {d' : Value} {dl size : Nat} {new : List AV} {new' : List Value} {v : AV} {s : Sem Value} {xl : Nat} (hd : VR α ρ d d') (hdl : lenOfA d = some dl) (f2 : VRs α ρ new new')
    (hnl : new.length = Nat.min xl dl * size)
    (hrun : ∀ (base : Option Addr) (cap' : Nat) (w' : World), d' = .slice base dl cap' → (match base with | some a => storeCells a new' | none => pure () : Sem Unit).run P w = .ok () w' → s.run P w = .ok (goInt (Nat.min xl dl)) w')
    (h : copyGo H size d (Nat.min xl dl) new = some (v, H')) : EV P α ρ H w s v H' := by
  unfold copyGo at h
  split at h
  · cases hd; cases hdl; cases h
    exact ⟨_, w, ρ, hrun none 0 w rfl rfl, Ev.refl hr, .i _ _⟩
  · rename_i id off len cap wd
    cases hdl
    cases hd with
    | sl _ _ _ _ _ lo o cap' q1 q2 q3 q4 q5 q6 =>
      rw [bc_eq] at h
      split at h
      · rename_i hz
        have hz' : Nat.min xl dl * size = 0 := Nat.eq_of_beq_eq_true hz
        cases h
        have h0 : new' = [] := List.eq_nil_of_length_eq_zero (by rw [← f2.length, hnl, hz'])
        subst h0
        exact ⟨_, w, ρ, hrun _ cap' w rfl rfl, Ev.refl hr, .i _ _⟩
      · rename_i hz
        have hz' : Nat.min xl dl * size ≠ 0 := fun e => hz (by rw [show (Nat.min xl dl).mul size = Nat.min xl dl * size from rfl, e]; rfl)
        have hpos : 0 < dl := by
          rcases Nat.eq_zero_or_pos (Nat.min xl dl) with e | e
          · rw [e] at hz'; simp at hz'
          · have := Nat.min_le_right xl dl
            exact Nat.lt_of_lt_of_le e this
        have hoo : o = off + lo.sh := by omega
        subst hoo
        obtain ⟨H1, h1, h2⟩ := ob_some.1 h
        cases h2
        obtain ⟨lo', w', k1, k2, k3⟩ := wrAt_sound (P := P) hr h1 f2
        rw [q1] at k1; cases k1
        exact ⟨_, w', ρ, hrun _ cap' w' rfl k2, k3, .i _ _⟩
  · cases h

theorem copy_sound (hr : Rel α ρ H w) {ts : List TypeId} {ty : TypeId} {args : List AV} {args' : List Value} {v : AV} (ha : VRs α ρ args args') (h : copyA P H ts args = some (v, H')) :
    EV P α ρ H w (Builtin.copy_ ⟨ts⟩ ty ⟨args'⟩) v H' := by
  unfold copyA at h
  split at h
  · rename_i dt rest d x
    cases ha with
    | cons _ d' _ l1 hd ha => cases ha with
      | cons _ x' _ l2 hx ha =>
        cases ha
        split at h
        · rename_i e hu
          have hq1 := ob_some.1 h
          clear h
          obtain ⟨size, hs, h⟩ := hq1
          have hq2 := ob_some.1 h
          clear h
          obtain ⟨xl, hxl, h⟩ := hq2
          have hq3 := ob_some.1 h
          clear h
          obtain ⟨dl, hdl, h⟩ := hq3
          rw [sN_eq, bc_eq] at h
          have hmin : (if Nat.ble xl dl = true then xl else dl) = Nat.min xl dl := by
            by_cases hle : xl ≤ dl
            · rw [if_pos (Nat.ble_eq_true_of_le hle)]; exact (Nat.min_eq_left hle).symm
            · rw [if_neg (fun e => hle (Nat.le_of_ble_eq_true e))]; exact (Nat.min_eq_right (by omega)).symm
          rw [hmin] at h
          have hq4 := ob_some.1 h
          clear h
          obtain ⟨new, hnew, h⟩ := hq4
          rw [bc_eq] at h
          have hlen := lenOf_sound (P := P) (w := w) hx hxl
          obtain ⟨new', f1, f2, f3, f4⟩ := first_sound (P := P) hr hx hxl (Nat.min_le_left xl dl) hnew
          by_cases hnl : Nat.beq new.length (Nat.mul (Nat.min xl dl) size) = true
          all_goals rw [lenL_eq] at h
          · rw [if_pos hnl] at h
            have hnl' : new.length = Nat.min xl dl * size := Nat.eq_of_beq_eq_true hnl
            have hrun : ∀ (base : Option Addr) (cap' : Nat) (w' : World), d' = .slice base dl cap' → (match base with | some a => storeCells a new' | none => pure () : Sem Unit).run P w = .ok () w' →
                (Builtin.copy_ ⟨dt :: rest⟩ ty ⟨[d', x']⟩).run P w = .ok (goInt (Nat.min xl dl)) w' := by
              intro base cap' w' hd' hst
              subst hd'
              simp only [Builtin.copy_, List.getElem?_toArray, List.getElem?_cons_zero, List.getElem?_cons_succ, Sem.run_bind, run_underlying hu, Result.andThen_ok, hlen, run_size' hs, f1]
              cases base with
              | none => cases hst; rfl
              | some a =>
                simp only at hst
                simp only [Sem.run_bind, hst, Result.andThen_ok, Sem.run_pure]
            exact copyGo_sound hr hd hdl f2 hnl' hrun h
          · rw [if_neg hnl] at h; cases h
        · cases h
  · cases h

theorem clear_sound (hr : Rel α ρ H w) {ts : List TypeId} {ty : TypeId} {args : List AV} {args' : List Value} {v : AV} (ha : VRs α ρ args args') (h : clearA P H ts args = some (v, H')) :
    EV P α ρ H w (Builtin.clear_ ⟨ts⟩ ty ⟨args'⟩) v H' := by
  unfold clearA at h
  split at h
  · rename_i t rest x
    cases ha with
    | cons _ x' _ l1 hx ha =>
      cases ha
      cases hd : P.underlying t with
      | none => rw [hd] at h; cases h
      | some d =>
        rw [hd] at h
        have hu := run_underlying (P := P) hd w
        simp only at h
        split at h
        · cases h; cases hx
          refine ⟨.tuple ⟨[]⟩, w, ρ, ?_, Ev.refl hr, .tu _ _ .nil⟩
          simp only [Builtin.clear_, List.getElem?_toArray, List.getElem?_cons_zero, Sem.run_bind, hu, Result.andThen_ok]
          cases d <;> rfl
        · cases h; cases hx
          refine ⟨.tuple ⟨[]⟩, w, ρ, ?_, Ev.refl hr, .tu _ _ .nil⟩
          simp only [Builtin.clear_, List.getElem?_toArray, List.getElem?_cons_zero, Sem.run_bind, hu, Result.andThen_ok]
          cases d <;> rfl
        · cases h
          cases hx with
          | sl _ _ _ _ _ lo o cap' q1 q2 q3 q4 q5 q6 =>
            refine ⟨.tuple ⟨[]⟩, w, ρ, ?_, Ev.refl hr, .tu _ _ .nil⟩
            simp only [Builtin.clear_, List.getElem?_toArray, List.getElem?_cons_zero, Sem.run_bind, hu, Result.andThen_ok]
            cases d <;> rfl
        · rename_i id
          cases hx with
          | m _ lo hlo =>
            obtain ⟨B, hB, h1⟩ := ob_some.1 h
            obtain ⟨l, o, f1, f2, f3⟩ := hr.blk id B hB
            rw [hlo] at f1; cases f1
            cases B with
            | map es clock =>
              cases f3 with
              | map _ es' _ _ hes =>
                cases h1
                have hgo := getObj_run (P := P) f2 (by intro c e f; simp)
                have hso := fun o' => setObj_run (P := P) (o' := o') f2 (by intro c e f; simp)
                refine ⟨.tuple ⟨[]⟩, _, ρ, ?_, turn_obj hr hB hlo f2 (.map [] [] clock _ .nil), .tu _ _ .nil⟩
                simp only [Builtin.clear_, List.getElem?_toArray, List.getElem?_cons_zero, Sem.run_bind, hu, Result.andThen_ok]
                cases d <;> simp only [Sem.run_bind, hgo, Result.andThen_ok, hso, Sem.run_pure]
            | _ => cases h1
        · rename_i id off n cap wd hne
          split at h
          · rename_i e
            obtain ⟨z, hz, h⟩ := ob_some.1 h
            obtain ⟨H1, h1, h2⟩ := ob_some.1 h
            cases h2
            obtain ⟨z', g1, g2⟩ := run_zero' (α := α) (ρ := ρ) (w := w) hz
            cases hx with
            | sl _ _ _ _ _ lo o cap' q1 q2 q3 q4 q5 q6 =>
              have hn : n ≠ 0 := hne
              have hoo : o = off + lo.sh := by omega
              subst hoo
              have hzv : VRs α ρ (rep (cellsOf z) n) (Builtin.zeroCells z'.cells n).toList := by
                by_cases h0 : z'.cells.size = 0
                · have e1 : (rep (cellsOf z) n) = [] := List.eq_nil_of_length_eq_zero (by rw [rep_length, g2.cells.length, Array.length_toList, h0]; simp)
                  have e2 : (Builtin.zeroCells z'.cells n).toList = [] := List.eq_nil_of_length_eq_zero (by rw [Array.length_toList, zeroCells_size, h0]; simp)
                  rw [e1, e2]; exact .nil
                · have := zeros_vrs g2.cells n (fun e => absurd e h0)
                  have hl : (cellsOf z).length = z'.cells.size := by rw [g2.cells.length, Array.length_toList]
                  rw [hl] at this
                  exact this
              obtain ⟨lo', w', k1, k2, k3⟩ := wrAt_sound (P := P) hr h1 hzv
              rw [q1] at k1; cases k1
              refine ⟨.tuple ⟨[]⟩, w', ρ, ?_, k3, .tu _ _ .nil⟩
              simp only [Builtin.clear_, List.getElem?_toArray, List.getElem?_cons_zero, Sem.run_bind, hu, Result.andThen_ok]
              cases n with
              | zero => exact absurd rfl hn
              | succ n => simp only [Sem.run_bind, g1, Result.andThen_ok, k2, Sem.run_pure]
          · cases h
        · cases h
  · cases h

theorem bytesOfA_sound : ∀ {l : List AV} {r : List Nat}, bytesOfA l = some r → l = r.map (fun n => AV.i .u8 (.ofNat n)) ∧ ∀ n ∈ r, n < 256 := by
  intro l
  induction l with
  | nil => intro r h; cases h; exact ⟨rfl, fun n hn => by simp at hn⟩
  | cons a l ih =>
    intro r h
    unfold bytesOfA at h
    split at h
    · rename_i e; cases e
    · rename_i n l' e
      cases e
      cases hb : Nat.blt n 256 with
      | false => rw [hb] at h; cases h
      | true =>
        rw [hb] at h
        simp only [cond_true] at h
        cases hq : bytesOfA l with
        | none => rw [hq] at h; cases h
        | some q =>
          rw [hq] at h
          cases h
          obtain ⟨g1, g2⟩ := ih hq
          have hlt : n < 256 := Nat.le_of_ble_eq_true hb
          refine ⟨by rw [g1]; rfl, ?_⟩
          intro m hm
          rcases List.mem_cons.1 hm with e | e
          · rw [e]; exact hlt
          · exact g2 m e
    · cases h

theorem modify_last {β : Type} (f : β → β) (a : β) : ∀ l : List β, (l ++ [a]).modify l.length f = l ++ [f a] := by
  intro l
  induction l with
  | nil => rfl
  | cons b l ih => show b :: (l ++ [a]).modify l.length f = _; rw [ih]; rfl

theorem conv_sound (hr : Rel α ρ H w) {src dst : TypeId} {x v : AV} {x' : Value} (hx : VR α ρ x x') (h : convA P H src dst x = some (v, H')) : EV P α ρ H w (convert src dst x') v H' := by
  unfold convA at h
  cases hs : P.underlying src with
  | none => rw [hs] at h; cases h
  | some ds =>
    cases hd : P.underlying dst with
    | none => rw [hs, hd] at h; cases h
    | some dd =>
      rw [hs, hd] at h
      have us := run_underlying (P := P) hs
      have ud := run_underlying (P := P) hd
      simp only at h
      split at h
      · rename_i k k0 n e
        cases e
        rw [sI_eq] at h
        cases h
        cases hx
        refine ⟨.int k (k.wrap n), w, ρ, ?_, Ev.refl hr, by rw [wr_eq]; exact .i _ _⟩
        simp only [convert, Sem.run_bind, us, ud, Result.andThen_ok]
        rfl
      · rename_i l e
        cases e
        cases h
        cases hx with
        | s _ bs e1 =>
          refine ⟨.string bs, w, ρ, ?_, Ev.refl hr, .s _ _ e1⟩
          simp only [convert, Sem.run_bind, us, ud, Result.andThen_ok]
          rfl
      · rename_i e l e2
        cases e2
        cases hx with
        | s _ bs e3 =>
          split at h
          · rename_i he
            have ue := run_underlying (P := P) he
            rw [newA_eq] at h
            cases h
            have hsz : bs.size = l.length := by rw [← e3]; simp only [strOf, List.length_map, Array.length_toList]; rfl
            obtain ⟨cap, hcap, hrun⟩ : ∃ cap, l.length ≤ cap ∧ (convert src dst (.string bs)).run P w = .ok (.slice (some ⟨w.heap.size, 0, none⟩) l.length cap)
                { w with drawn := w.drawn + 1, heap := w.heap.push (.cells ((bs.data.map fun b => Value.int .u8 b.toNat) ++ Array.replicate (cap - l.length) (.int .u8 0)) e (cap, cap + 1)) } := by
              refine ⟨l.length + (w.tape w.drawn (.appendCap bs.size 0 e)) % (2 ^ 63 - l.length), by omega, ?_⟩
              simp only [convert, Sem.run_bind, us, ud, Result.andThen_ok, ue, Conv.stringToBytes, run_choose, Question.forced, Bool.false_eq_true, if_false, Question.cut, newRow, run_newObj, Sem.run_pure, markStringish, run_shape]
              have hsh : ∀ (ob0 : Array Value) (dn : Nat), World.shape? { w with drawn := dn, heap := w.heap.push (.cells ob0 e) } w.heap.size = some (e, ob0.size) := by
                intro ob0 dn; simp [World.shape?]
              simp only [hsh, run_freeze, Result.andThen_ok, World.freeze, hsz]
              have hsize : ((Array.map (fun b => Value.int IntKind.u8 ↑b.toNat) bs.data) ++ Array.replicate (l.length + (w.tape w.drawn (.appendCap l.length 0 e)) % (2 ^ 63 - l.length) - l.length) (Value.int .u8 0)).size =
                  l.length + (w.tape w.drawn (.appendCap l.length 0 e)) % (2 ^ 63 - l.length) := by
                have : bs.data.size = l.length := hsz
                rw [Array.size_append, Array.size_map, Array.size_replicate, this]
                omega
              rw [hsize]
              simp only [Nat.one_ne_zero, if_false]
              congr 2
              apply Array.ext'
              rw [Array.toList_modify, Array.toList_push]
              rw [show w.heap.size = w.heap.toList.length from (Array.length_toList).symm, modify_last, Array.toList_push]
              simp
            have hdata : bs.data.size = l.length := hsz
            have hr1 : Rel α ρ H { w with drawn := w.drawn + 1 } := hr.drew _
            have hcs : ((bs.data.map fun b : UInt8 => Value.int .u8 b.toNat) ++ Array.replicate (cap - l.length) (Value.int .u8 0)).size = cap := by
              rw [Array.size_append, Array.size_map, Array.size_replicate, hdata]; omega
            refine ⟨_, _, _, hrun, (Ev.drew hr (w.drawn + 1)).trans (Ev.new hr1 _ _ cap (.cells _ _ _ _ _ _ _ _ _ _ ?_ hcs (by omega) (by simp; omega))), ?_⟩
            · intro j a hc
              have hlt := cellAt_lt hc
              have h1 := cellAt_listTr0 (by simp) hc
              rw [List.getElem?_map] at h1
              obtain ⟨c, hc1, hc2⟩ := Option.map_eq_some_iff.1 h1
              subst hc2
              refine ⟨.int .u8 (.ofNat c), ?_, .i _ _⟩
              rw [Nat.add_zero, Array.getElem?_append_left (by rw [Array.size_map, hdata]; exact hlt), Array.getElem?_map]
              rw [← e3] at hc1
              unfold strOf at hc1
              rw [List.getElem?_map] at hc1
              obtain ⟨b, hb1, hb2⟩ := Option.map_eq_some_iff.1 hc1
              have : bs.data[j]? = some b := by simpa using hb1
              rw [this, ← hb2]
              rfl
            · exact .sl _ _ _ _ _ ⟨_, 0, _⟩ 0 _ (upd_self _ _ _) (Nat.le_refl _) hcap (fun e => by cases e) (.inl rfl) (.inr (.inr (by simp)))
          · cases h
      · rename_i e e2
        cases e2
        cases hx
        split at h
        · rename_i he
          cases h
          refine ⟨.string .empty, w, ρ, ?_, Ev.refl hr, .s _ _ rfl⟩
          rw [run_convert_bytes_string w src dst e none 0 0 hs he hd]
          rfl
        · cases h
      · rename_i e id off len cap wd e2
        cases e2
        cases hx with
        | sl _ _ _ _ _ lo o cap' q1 q2 q3 q4 q5 q6 =>
          split at h
          · rename_i he
            rw [bc_eq] at h
            split at h
            · rename_i hz
              have hz' : len = 0 := Nat.eq_of_beq_eq_true hz
              subst hz'
              cases h
              refine ⟨.string .empty, w, ρ, ?_, Ev.refl hr, .s _ _ rfl⟩
              rw [run_convert_bytes_string w src dst e _ 0 cap' hs he hd, run_bytesToString w _ 0 cap' [] rfl]
              rfl
            · rename_i hz
              have hz' : len ≠ 0 := fun e => hz (by rw [e]; rfl)
              obtain ⟨l, h1, h2⟩ := ob_some.1 h
              obtain ⟨r, h3, h4⟩ := ob_some.1 h2
              cases h4
              have hoo : o = off + lo.sh := by omega
              subst hoo
              obtain ⟨lo', vs, g1, g2, g3, g4⟩ := rdAt_sound hr h1
              rw [q1] at g1; cases g1
              obtain ⟨k1, k2⟩ := bytesOfA_sound h3
              subst k1
              have hvs : vs = (r.map fun n => Int.ofNat n).map (Value.int .u8) := by
                have : ∀ (r : List Nat) (vs : List Value), VRs α ρ (r.map fun n => AV.i .u8 (.ofNat n)) vs → vs = (r.map fun n => Int.ofNat n).map (Value.int .u8) := by
                  intro r
                  induction r with
                  | nil => intro vs h; cases h; rfl
                  | cons n r ih =>
                    intro vs h
                    cases h with
                    | cons _ u _ vs' h1 h2 => cases h1; rw [ih vs' h2]; rfl
                exact this r vs g2
              have hl := run_loadCells_list (P := P) w ⟨lo.b, off + lo.sh, none⟩ vs g4
              rw [g3, hvs] at hl
              refine ⟨.string ((r.map fun n => Int.ofNat n).foldl (fun (s : ByteArray) (n : Int) => s.push (UInt8.ofNat n.toNat)) ByteArray.empty), w, ρ, ?_, Ev.refl hr, .s _ _ ?_⟩
              · rw [run_convert_bytes_string w src dst e _ len cap' hs he hd, run_bytesToString w _ len cap' _ hl]
              · rw [foldl_push_bytes]
                unfold strOf
                simp only [ByteArray.empty, ByteArray.emptyWithCapacity, Array.toList_append, List.map_append, List.map_map]
                have : ∀ n ∈ r, (UInt8.toNat ∘ (fun n : Int => UInt8.ofNat n.toNat) ∘ fun n : Nat => Int.ofNat n) n = n := by
                  intro n hn
                  simp only [Function.comp]
                  simp only [Int.ofNat_eq_natCast, Int.toNat_natCast]
                  exact UInt8.toNat_ofNat_of_lt' (k2 n hn)
                rw [List.map_congr_left this]
                simp
                rfl
          · cases h
      · cases h

/-! going over a map -/
theorem range_sound (hr : Rel α ρ H w) {t : TypeId} {x v : AV} {x' : Value} (hx : VR α ρ x x') (h : rangeA P H t x = some (v, H')) : EV P α ρ H w (Instr.range t x') v H' := by
  unfold rangeA at h
  split at h
  · rename_i k e hd
    cases hx
    rw [newA_eq] at h
    cases h
    refine ⟨_, _, _, ?_, Ev.new hr _ (.mapIter none 0 #[] 0) 0 (.iter0 _ _ _ _ rfl), .p _ 0 ⟨_, 0, 0⟩ (upd_self _ _ _)⟩
    simp [Instr.range, run_underlying hd]
  · rename_i k e id hd
    cases hx with
    | m _ lo hlo =>
      obtain ⟨B, hB, h1⟩ := ob_some.1 h
      obtain ⟨l, o, f1, f2, f3⟩ := hr.blk id B hB
      rw [hlo] at f1; cases f1
      cases B with
      | map es clock =>
        cases f3 with
        | map _ es' _ _ hes =>
          simp only at h1
          rw [newA_eq] at h1
          cases h1
          have hgo := getObj_run (P := P) f2 (by intro c e f; simp)
          refine ⟨_, _, _, ?_, Ev.new hr _ (.mapIter (some lo.b) clock #[] clock) 0 (.iter _ _ _ _ _ _ (upd_le (hr.fresh _ (Nat.le_refl _)) _ _ hlo) rfl), .p _ 0 ⟨_, 0, 0⟩ (upd_self _ _ _)⟩
          simp [Instr.range, run_underlying hd, hgo]
      | _ => cases h1
  · cases h

theorem dec_ble (a b : Nat) : decide (b ≥ a) = Nat.ble a b := by
  rw [Bool.eq_iff_iff, decide_eq_true_iff, Nat.ble_eq]
theorem dec_blt (a b : Nat) : decide (a < b) = Nat.blt a b := by
  rw [Bool.eq_iff_iff, decide_eq_true_iff, Nat.blt_eq]

theorem memN_eq (n : Nat) : ∀ l : List Nat, memN n l = l.contains n := by
  intro l
  induction l with
  | nil => rfl
  | cons a l ih =>
    unfold memN
    rw [ih]
    by_cases h : n = a
    · subst h; simp
    · rw [nat_beq_false h]; simp [h]
theorem ERs.filter {p : Nat → Bool} {es : List (AV × AV × Nat)} {es' : List MapEntry} (h : ERs α ρ es es') : ERs α ρ (es.filter fun e => p e.2.2) (es'.filter fun e => p e.born) := by
  induction h with
  | nil => exact .nil
  | cons k v n k' v' l l' h1 h2 h3 ih =>
    cases hp : p n with
    | true => simpa [List.filter_cons, hp] using ERs.cons _ _ _ _ _ _ _ h1 h2 ih
    | false => simpa [List.filter_cons, hp] using ih
theorem ERs.all {p : Nat → Bool} {es : List (AV × AV × Nat)} {es' : List MapEntry} (h : ERs α ρ es es') : (es.all fun e => p e.2.2) = (es'.all fun e => p e.born) := by
  induction h with
  | nil => rfl
  | cons k v n k' v' l l' h1 h2 h3 ih => simp [ih]

theorem next_sound (hr : Rel α ρ H w) {x v : AV} {x' : Value} {s : Bool} {ty : TypeId} (hx : VR α ρ x x') (h : nextA H x s = some (v, H')) : EV P α ρ H w (Instr.next x' s ty) v H' := by
  unfold nextA at h
  split at h
  · rename_i r
    cases hx with
    | p _ _ lo hlo =>
      obtain ⟨B, hB, h1⟩ := ob_some.1 h
      obtain ⟨l, o, f1, f2, f3⟩ := hr.blk r B hB
      rw [hlo] at f1; cases f1
      cases B with
      | mapIter m since seen last =>
        cases m with
        | none =>
          cases f3 with
          | iter0 _ _ _ _ h0 =>
          cases h1
          have hgo := getObj_run (P := P) f2 (by intro c e f; simp)
          refine ⟨.tuple ⟨[.bool false]⟩, w, ρ, ?_, Ev.refl hr, .tu _ _ (.cons _ _ _ _ (.b false) .nil)⟩
          rw [h0]
          simp only [Instr.next, Nat.add_zero, Sem.run_bind, hgo, Result.andThen_ok, Sem.run_pure]
        | some id =>
          cases f3 with
          | iter _ lm _ _ _ _ hlm h0 =>
            obtain ⟨M, hM, h2⟩ := ob_some.1 h1
            obtain ⟨l2, o2, k1, k2, k3⟩ := hr.blk id M hM
            rw [hlm] at k1; cases k1
            cases M with
            | map es clock =>
              cases k3 with
              | map _ es' _ _ hes =>
                have hgo := getObj_run (P := P) f2 (by intro c e f; simp)
                have hgo2 := getObj_run (P := P) k2 (by intro c e f; simp)
                have hso := fun o' => setObj_run (P := P) (o' := o') f2 (by intro c e f; simp)
                simp only at h2
                cases hg : (!seen.isEmpty && !es.isEmpty && es.all fun e => Nat.ble last e.2.2) with
                | true => rw [hg] at h2; cases h2
                | false =>
                  rw [hg] at h2
                  simp only [cond_false] at h2
                  have hg' : (!(⟨seen⟩ : Array Nat).isEmpty && !(⟨es'⟩ : Array MapEntry).isEmpty && (⟨es'⟩ : Array MapEntry).all fun e => decide (e.born ≥ last)) = false := by
                    have e1 : (⟨seen⟩ : Array Nat).isEmpty = seen.isEmpty := by simp
                    have e2 : (⟨es'⟩ : Array MapEntry).isEmpty = es.isEmpty := by
                      have := hes.isEmpty
                      cases es <;> cases es' <;> simp_all
                    have e3 : ((⟨es'⟩ : Array MapEntry).all fun e => decide (e.born ≥ last)) = es.all fun e => Nat.ble last e.2.2 := by
                      rw [hes.all (p := fun n => Nat.ble last n)]
                      rw [← Array.all_toList]
                      congr 1
                      funext e; exact dec_ble _ _
                    rw [e1, e2, e3]; exact hg
                  have hl := hes.filter (p := fun n => !memN n seen)
                  have ho := hl.filter (p := fun n => Nat.blt n since)
                  have hn := hl.filter (p := fun n => Nat.ble since n)
                  have f1 : ((⟨es'⟩ : Array MapEntry).filter fun e => !(⟨seen⟩ : Array Nat).contains e.born) = ⟨es'.filter fun e => !memN e.born seen⟩ := by
                    apply Array.ext'
                    rw [Array.toList_filter]
                    simp only
                    congr 1
                    funext e
                    rw [memN_eq]
                    simp
                  have f3' : ∀ q : List MapEntry, ((⟨q⟩ : Array MapEntry).filter fun e => decide (e.born < since)) = ⟨q.filter fun e => Nat.blt e.born since⟩ := by
                    intro q
                    apply Array.ext'
                    rw [Array.toList_filter]
                    simp only
                    congr 1
                    funext e; exact dec_blt _ _
                  have f4' : ∀ q : List MapEntry, ((⟨q⟩ : Array MapEntry).filter fun e => decide (e.born ≥ since)) = ⟨q.filter fun e => Nat.ble since e.born⟩ := by
                    intro q
                    apply Array.ext'
                    rw [Array.toList_filter]
                    simp only
                    congr 1
                    funext e; exact dec_ble _ _
                  generalize hA : (es.filter fun e => !memN e.2.2 seen).filter (fun e => Nat.blt e.2.2 since) = A at h2 ho
                  generalize hB2 : (es.filter fun e => !memN e.2.2 seen).filter (fun e => Nat.ble since e.2.2) = C at h2 hn
                  generalize hA' : (es'.filter fun e => !memN e.born seen).filter (fun e => Nat.blt e.born since) = A' at ho
                  generalize hB' : (es'.filter fun e => !memN e.born seen).filter (fun e => Nat.ble since e.born) = C' at hn
                  rw [h0]
                  split at h2
                  · cases h2
                    cases ho; cases hn
                    refine ⟨.tuple ⟨[.bool false]⟩, w, ρ, ?_, Ev.refl hr, .tu _ _ (.cons _ _ _ _ (.b false) .nil)⟩
                    simp only [Instr.next, Nat.add_zero, Sem.run_bind, hgo, Result.andThen_ok, hgo2, hg', Bool.false_eq_true, if_false, f1, f3', f4', hA', hB']
                    simp [Question.forced]
                  · rename_i e
                    cases h2
                    cases ho with
                    | cons k0 v0 n0 k0' v0' _ l' g1 g2 g3 =>
                      cases g3; cases hn
                      refine ⟨.tuple ⟨[.bool true, k0', v0']⟩, _, ρ, ?_, turn_obj hr hB hlo f2 (.iter _ _ _ (seen ++ [n0]) _ _ hlm h0), .tu _ _ (.cons _ _ _ _ (.b true) (.cons _ _ _ _ g1 (.cons _ _ _ _ g2 .nil)))⟩
                      simp only [Instr.next, Nat.add_zero, Sem.run_bind, hgo, Result.andThen_ok, hgo2, hg', Bool.false_eq_true, if_false, f1, f3', f4', hA', hB']
                      simp [Question.forced, hso]
                  · cases h2
            | _ => cases h2
      | _ => cases h1
  · cases h

theorem ERs.find {stamp : Nat} {es : List (AV × AV × Nat)} {es' : List MapEntry} (h : ERs α ρ es es') {e : AV × AV × Nat} (hf : (es.find? fun e => Nat.beq e.2.2 stamp) = some e) :
    ∃ e', (es'.find? fun e => e.born == stamp) = some e' ∧ VR α ρ e.1 e'.key ∧ VR α ρ e.2.1 e'.val := by
  induction h with
  | nil => cases hf
  | cons k v n k' v' l l' h1 h2 _ ih =>
    simp only [List.find?_cons] at hf ⊢
    have e1 : (n == stamp) = Nat.beq n stamp := by rw [Bool.eq_iff_iff, Nat.beq_eq, beq_iff_eq]
    rw [e1]
    cases hb : Nat.beq n stamp with
    | true => rw [hb] at hf; cases hf; exact ⟨_, rfl, h1, h2⟩
    | false => rw [hb] at hf; exact ih hf
theorem entry_sound (hr : Rel α ρ H w) {x v : AV} {x' : Value} (hx : VR α ρ x x') (h : entryA H x = some v) : QV P α ρ w (Instr.entry x') v := by
  unfold entryA at h
  split at h
  · rename_i r
    cases hx with
    | p _ _ lo hlo =>
      obtain ⟨B, hB, h1⟩ := ob_some.1 h
      obtain ⟨l, o, f1, f2, f3⟩ := hr.blk r B hB
      rw [hlo] at f1; cases f1
      split at h1
      · rename_i id since seen st
        obtain ⟨stamp, hst, h2⟩ := ob_some.1 h1
        obtain ⟨M, hM, h3⟩ := ob_some.1 h2
        split at h3
        · rename_i es clock
          rw [bc_eq] at h3
          split at h3
          · rename_i hck
            obtain ⟨e, he, h4⟩ := ob_some.1 h3
            cases h4
            cases f3 with
            | iter _ lm _ _ _ _ hlm h0 =>
              obtain ⟨l2, o2, g1, g2, g3⟩ := hr.blk id _ hM
              rw [hlm] at g1; cases g1
              cases g3 with
              | map _ es' _ _ hes =>
                obtain ⟨e', k1, k2, k3⟩ := hes.find he
                have hgo := getObj_run (P := P) f2 (by intro c e f; simp)
                have hgo2 := getObj_run (P := P) g2 (by intro c e f; simp)
                have hck' : clock = st := Nat.eq_of_beq_eq_true hck
                refine ⟨.tuple ⟨[e'.key, e'.val]⟩, ?_, .tu _ _ (.cons _ _ _ _ k2 (.cons _ _ _ _ k3 .nil))⟩
                rw [h0]
                have hbk : (⟨seen⟩ : Array Nat).back? = some stamp := by simpa using hst
                have hfd : (⟨es'⟩ : Array MapEntry).find? (fun e => e.born == stamp) = some e' := by simpa using k1
                simp only [Instr.entry, Nat.add_zero, Sem.run_bind, hgo, Result.andThen_ok, hbk, hgo2, hck', bne_self_eq_false, Bool.false_eq_true, if_false, Sem.run_pure, hfd]
          · cases h3
        · cases h3
      · cases h1
  · cases h
end
end Go.Twin
