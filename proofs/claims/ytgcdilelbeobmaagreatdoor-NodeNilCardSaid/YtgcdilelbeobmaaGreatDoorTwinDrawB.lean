/- One operation of a drawn region, by the machine. -/
import Derived.Test.YtgcdilelbeobmaaGreatDoorTwinDrawA
namespace Go.Twin
open Go

section
variable {E : Env} {α : Nat → Value} {ρ : Rho} {G G' : AH} {w : World} {cs : List Frame} {n fn : Nat} {self : Self} {P : Program}

theorem er_mach (hE : EnvOK E) (ih : Sound E α self) {ops : Array Oper} {i : Nat} {rest : List Nat} {k' : List Item} {kd : CallKind} {ro' : Option Nat} {o : Oper}
    {tm : Array Value} {ds' : List Deferred} {v : AV} {r : ER} (ho : ops[i]? = some o) (hw' : Region.wanted o (yielded ops tm) = true) (hd : ro' = none ∨ ∀ c, o.op ≠ .defer c)
    (hr : Rel α ρ G w) (hsp : OpSpec E.P α ρ G w (execOp (Frame.eval (inReg fn tm ops (i :: rest) k' ds' kd ro')) o) r) (h2 : ErTo E self r G v G') :
    ∃ v' w' ρ', Steps E.P (lone (inReg fn tm ops (i :: rest) k' ds' kd ro') cs w) (lone (inReg fn (putV o.dst tm v') ops rest k' ds' kd ro') cs w') ∧ Ev α ρ G w ρ' G' w' ∧ VR α ρ' v v' := by
  cases r with
  | val u H' =>
    obtain ⟨rfl, rfl⟩ := h2
    obtain ⟨v', w', ρ', g1, g2, g3⟩ := hsp
    exact ⟨v', w', ρ', .one (s_opVal ho hw' hd g1), g2, g3⟩
  | skip H' =>
    obtain ⟨rfl, rfl⟩ := h2
    obtain ⟨w', ρ', g1, g2⟩ := hsp
    exact ⟨undef, w', ρ', .one (s_opUnit ho hw' hd g1), g2, undef_vr⟩
  | enter f args =>
    obtain ⟨args', g1, g2⟩ := hsp
    have hst := s_opEnter (P := E.P) (f := fn) (tm := tm) (ds := ds') (kd := kd) (ro := ro') (k := k') (cs := cs) (w := w) (rest := rest) ho hw' hd g1
    rcases h2 with hS | ⟨_, fr, rc', he, hself⟩
    · obtain ⟨v', w', ρ', k1, k2, k3⟩ := hE.S f args G v G' hS α ρ w args' hr g2 (inReg fn tm ops (i :: rest) k' ds' kd ro') cs
      rw [s_opFinish ho] at k1
      exact ⟨v', w', ρ', Steps.head hst k1, k2, k3⟩
    · have hfr := enterA_fr (d := false) g2 he
      have hres := ih fr .no G (Frame.enter E.P f args' .normal) w (inReg fn tm ops (i :: rest) k' ds' kd ro' :: cs) ρ hr hfr (by
        show recOf (Frame.enter E.P f args' .normal).kind _ = none
        rfl)
      rw [hself] at hres
      obtain ⟨v', w', ρ', cs', k1, k2, k3, k4, _⟩ := hres
      obtain ⟨_, rfl⟩ := k3.no
      have k5 := k4 _ cs rfl
      have k6 : popF (Frame.enter E.P f args' .normal).kind (inReg fn tm ops (i :: rest) k' ds' kd ro') v' = inReg fn (putV o.dst tm v') ops rest k' ds' kd ro' := s_opFinish ho
      rw [k6] at k5
      exact ⟨v', w', ρ', Steps.head hst k5, k1, k2⟩
  | yield l args =>
    obtain ⟨lo, args', g1, g2, g3⟩ := hsp
    obtain ⟨st, pe, f0, T0, n0, ps, assign, body, d, T1, rc', hl, hsz, hf0, hset, hself⟩ := h2
    obtain ⟨l2, ob, b1, b2, b3⟩ := hr.blk l _ hl
    rw [g1] at b1; cases b1
    cases b3 with
    | loop _ _ _ _ _ tmps _ _ _ _ ld _ c1 c2 =>
      have hlen : args'.size = ps.size := by have := g3.length; rw [← hsz, this, Array.length_toList]
      rw [yield_run (E := E) b2 hlen] at g2
      have hstep := s_opRound (P := E.P) (f := fn) (tm := tm) (ds := ds') (kd := kd) (ro := ro') (k := k') (cs := cs) (w := w) (rest := rest) ho hw' hd g2
      have hz : (ps.zip args').foldl (fun tmps (t, a) => tmps.setIfInBounds t a) tmps = (ps.toList.zip args'.toList).foldl (fun tm p => tm.setIfInBounds p.1 p.2) tmps := by
        rw [← Array.foldl_toList, Array.toList_zip]
      have hl1 : (ps.toList.zip args).map (·.1) = (ps.toList.zip args'.toList).map (·.1) := by
        have e1 : ps.toList.length = args.length := by rw [Array.length_toList, hsz]
        have e2 : ps.toList.length = args'.toList.length := by rw [Array.length_toList, Array.length_toList, hlen]
        rw [List.map_fst_zip (by omega), List.map_fst_zip (by omega)]
      have hl2 : VRs α ρ ((ps.toList.zip args).map (·.2)) ((ps.toList.zip args'.toList).map (·.2)) := by
        have e1 : ps.toList.length = args.length := by rw [Array.length_toList, hsz]
        have e2 : ps.toList.length = args'.toList.length := by rw [Array.length_toList, Array.length_toList, hlen]
        rw [List.map_snd_zip (by omega), List.map_snd_zip (by omega)]
        exact g3
      have hT1 := setParams_sound _ _ T0 T1 tmps hl1 hl2 c1 hset
      have hfr : FrR E.P α ρ ⟨f0, n0, T1, [.code assign, .beginRound, .code body], [], .run, false, some l⟩ (Frame.round lo.b f0 ((ps.toList.zip args'.toList).foldl (fun tm p => tm.setIfInBounds p.1 p.2) tmps) assign body .normal) :=
        .mk _ _ _ _ _ _ _ _ _ _ _ _ _ hT1 (fun _ => .code _ _ _ (.beginRound _ _ (.code _ _ _ .nil))) .nil .run (.some l lo g1) (Option.isSome_iff_exists.1 hf0) (fun _ => rfl)
      rw [hz] at hstep
      have hres := ih _ .no G _ w (inReg fn tm ops (i :: rest) k' ds' kd ro' :: cs) ρ hr hfr (by rfl)
      rw [hself] at hres
      obtain ⟨v', w', ρ', cs', k1, k2, k3, k4, _⟩ := hres
      obtain ⟨_, rfl⟩ := k3.no
      have k5 := k4 _ cs rfl
      have k6 : popF (Frame.round lo.b f0 ((ps.toList.zip args'.toList).foldl (fun tm p => tm.setIfInBounds p.1 p.2) tmps) assign body .normal).kind (inReg fn tm ops (i :: rest) k' ds' kd ro') v' =
          inReg fn (putV o.dst tm v') ops rest k' ds' kd ro' := s_opFinish ho
      rw [k6] at k5
      exact ⟨v', w', ρ', Steps.head hstep k5, k1, k2⟩
  | defer f a => exact h2.elim
  | recov => exact h2.elim
  | pan u => exact h2.elim

theorem step1_mach (hE : EnvOK E) (ih : Sound E α self) {ops : Array Oper} {i : Nat} {rest : List Nat} {k' : List Item} {kd : CallKind} {ro' : Option Nat} {o : Oper}
    {T : Tr AV} {tm : Array Value} {ds' : List Deferred} {v : AV} (ho : ops[i]? = some o) (hm : mildOp o.op = true)
    (hr : Rel α ρ G w) (hT : TR α ρ T n tm) (hs : Step1 E self ops.toList o T G v G') :
    ∃ v' w' ρ', Steps E.P (lone (inReg fn tm ops (i :: rest) k' ds' kd ro') cs w) (lone (inReg fn (putV o.dst tm v') ops rest k' ds' kd ro') cs w') ∧ Ev α ρ G w ρ' G' w' ∧ VR α ρ' v v' := by
  have hd : ro' = none ∨ ∀ c, o.op ≠ .defer c := .inr fun c e => by rw [e] at hm; cases hm
  rcases hs with ⟨hw, rfl, rfl⟩ | ⟨hw, r, h1, h2⟩
  · exact ⟨undef, w, ρ, .one (s_opSkip ho (wantedA_sound hT hw)), Ev.refl hr, undef_vr⟩
  · have hw' := wantedA_sound hT hw
    have hs := opC_sound (P := E.P) hr (evOK_frame (inReg fn tm ops (i :: rest) k' ds' kd ro') hT) o
    have hsp : OpSpec E.P α ρ G w (execOp (Frame.eval (inReg fn tm ops (i :: rest) k' ds' kd ro')) o) r := by
      unfold opR at h1
      cases hc : opC E.P o.op with
      | q f => rw [hc] at hs h1; obtain ⟨u, g1, g2⟩ := ob_some.1 h1; cases g2; exact hs u g1
      | h f => rw [hc] at hs h1; obtain ⟨u, g1, g2⟩ := ob_some.1 h1; cases g2; exact hs u g1
      | s f => rw [hc] at hs h1; obtain ⟨u, g1, g2⟩ := ob_some.1 h1; cases g2; exact hs u g1
      | e f => rw [hc] at hs h1; exact hs r h1
    exact er_mach hE ih ho hw' hd hr hsp h2

theorem TR.putv {T : Tr AV} {tm : Array Value} (h : TR α ρ T n tm) {d : Option Nat} {v : AV} {v' : Value} (hd : ∀ t, d = some t → t < n) (hv : VR α ρ v v') : TR α ρ (putT T d v) n (putV d tm v') := by
  cases d with
  | none => exact h
  | some t => exact h.put (hd t rfl) hv

/-- the order is drawn -/
theorem s_draw {f : FuncId} {tm : Array Value} {ds : List Deferred} {kd : CallKind} {ro : Option Nat} {k : List Item} {id : Nat} {ops : Array Oper} (hm : P.follows .mixedOrders = true) :
    ∃ t, step P (lone ⟨f, tm, .code (.region id ops true) :: k, ds, .run, kd, ro⟩ cs w) = .next (lone ⟨f, tm, .inRegion ops (Region.linearise .any ops t) :: k, ds, .run, kd, ro⟩ cs { w with drawn := w.drawn + 1 }) := by
  refine ⟨w.tape w.drawn (.order f id), step_lone_go ?_⟩
  have hc : Sem.run P (Sem.choose (.order f id) Sem.pure) w = .ok (w.tape w.drawn (.order f id)) w.drew := rfl
  simp [stepG, stepG.exec, choose, Region.schedule, hm, hc]

/-- a new block, whatever the memory is -/
def Fresh (P : Program) (α : Nat → Value) (ρ : Rho) (w : World) (s : Sem Value) (B : Blk) (mk : Nat → AV) : Prop :=
  ∃ (cs : Array Value) (e : TypeId) (V : Value), s.run P w = .ok V { w with heap := w.heap.push (.cells cs e) } ∧ (∀ ρ' : Rho, ρ.le ρ' → ∀ b, BR α ρ' B (.cells cs e) ⟨b, 0, cs.size⟩) ∧
    (∀ (ρ' : Rho) id, ρ' id = some ⟨w.heap.size, 0, cs.size⟩ → VR α ρ' (mk id) V) ∧ oneCell V
theorem buildSlice_fresh {H H' : AH} {t : TypeId} {len : Nat} {parts : List (Nat × AV)} {v : AV} (h : buildSliceA P H t len parts = some (v, H')) :
    ∃ B mk, newA H B mk = some (v, H') ∧ ∀ (ρ : Rho) (w : World) (parts' : List (Nat × Value)), parts.map (·.1) = parts'.map (·.1) → VRs α ρ (parts.map (·.2)) (parts'.map (·.2)) →
      Fresh P α ρ w (Instr.buildSlice t len ⟨parts'⟩) B mk := by
  unfold buildSliceA at h
  split at h
  · rename_i e hd
    obtain ⟨s, hs, h⟩ := ob_some.1 h
    obtain ⟨z, hz, h⟩ := ob_some.1 h
    rw [bc_eq, bc_eq] at h
    split at h
    · rename_i hb1
      split at h
      · rename_i hb2
        have e1 := Nat.eq_of_beq_eq_true hb1
        have e2 : len * s ≤ 16777216 := Nat.le_of_ble_eq_true hb2
        obtain ⟨l, h5, h6⟩ := ob_some.1 h
        refine ⟨_, _, h6, fun ρ w parts' h1 h2 => ?_⟩
        obtain ⟨z', g1, g2⟩ := run_zero' (α := α) (ρ := ρ) (w := w) hz
        have hcells := g2.cells
        have hzs : z'.cells.size = s := by rw [← e1, hcells.length, Array.length_toList]
        -- the row that lies there first
        have hbase : ∃ base : Array Value, ((len * s = 0 → base = #[]) ∧ (len * s ≠ 0 → base = z'.cells)) ∧
            VRs α ρ (rep (cellsOf z) len) ((Array.range (len * s)).map fun i => base[i % base.size]!).toList := by
          by_cases h0 : len * s = 0
          · refine ⟨#[], ⟨fun _ => rfl, fun e => absurd h0 e⟩, ?_⟩
            rw [h0]
            have : rep (cellsOf z) len = [] := by
              have := rep_length (cellsOf z) len
              rw [e1, h0] at this
              exact List.eq_nil_of_length_eq_zero this
            rw [this]
            simpa using VRs.nil
          · refine ⟨z'.cells, ⟨fun e => absurd e h0, fun _ => rfl⟩, ?_⟩
            have := zeros_vrs hcells len (fun e => by rw [hzs] at e; rw [e] at h0; simp at h0)
            rwa [e1] at this
        obtain ⟨base, b1, b2⟩ := hbase
        obtain ⟨r', k1, k2⟩ := fill_sound (place := fun i => some (Nat.mul i s, s)) _ _ _ _ _ h1 h2 b2 h5
        have k1' : Instr.fill (fun i => some (i * s, s)) ((Array.range (len * s)).map fun i => base[i % base.size]!) parts' = some ⟨r'⟩ := k1
        refine ⟨⟨r'⟩, e, .slice (some ⟨w.heap.size, 0, none⟩) len len, ?_, fun ρ' hle b => ?_, fun ρ' id hid => .sl _ _ _ _ _ _ _ _ hid (Nat.le_refl _) (Nat.le_refl _) (fun _ => rfl) (.inl rfl) (.inl rfl), by simp [oneCell]⟩
        · have hlim : ¬ (len * s > 2 ^ 24) := by omega
          simp only [Instr.buildSlice, Sem.run_bind, run_underlying hd, Result.andThen_ok, run_size' hs, if_neg hlim]
          by_cases h0 : len * s = 0
          · have := b1.1 h0
            subst this
            rw [if_pos h0]
            simp only [Sem.run_bind, Sem.run_pure, Result.andThen_ok, k1', newRow, run_newObj]
          · have := b1.2 h0
            subst this
            rw [if_neg h0]
            simp only [Sem.run_bind, Sem.run_pure, Result.andThen_ok, g1, k1', newRow, run_newObj]
        · have := boxCells_br (k2.mono hle) e b
          simpa using this
      · cases h
    · cases h
  · cases h
theorem alloc_fresh {H H' : AH} {t : TypeId} {v : AV} (h : allocA P H t = some (v, H')) : ∃ B mk, newA H B mk = some (v, H') ∧ ∀ (ρ : Rho) (w : World), Fresh P α ρ w (Instr.alloc t true (.tuple #[])) B mk := by
  obtain ⟨z, h1, h2⟩ := ob_some.1 h
  refine ⟨_, _, h2, fun ρ w => ?_⟩
  obtain ⟨z', h3, h4⟩ := run_zero' (α := α) (ρ := ρ) (w := w) h1
  refine ⟨z'.cells, t, .pointer (some ⟨w.heap.size, 0, none⟩), ?_, fun ρ' hle b => ?_, fun ρ' id hid => ?_, by simp [oneCell]⟩
  · simp [Instr.alloc, h3, newVar, newRow]
  · have := newCells_br (h4.mono hle).cells t b
    simpa using this
  · have := VR.p (α := α) (ρ := ρ') id 0 ⟨w.heap.size, 0, z'.cells.size⟩ hid
    simpa using this

/-- a block made ahead of its turn -/
theorem fresh_leak {T : Tr AV} {e : Operand → Value} {o : Oper} {v : AV} {ops : List Oper} (he : EvOK α ρ T e) (ho : isAlloc o.op = true) (hg : o.guard = none) (hs : Step1 E self ops o T G v G') :
    ∃ (B : Blk) (mk : Nat → AV), v = mk G.next ∧ G' = ⟨G.t.put G.next (some B), G.next + 1⟩ ∧ (∀ c, o.op ≠ .defer c) ∧
      ∀ w : World, ∃ (cs : Array Value) (t : TypeId) (V : Value), (execOp e o).run E.P w = .ok (.value V) { w with heap := w.heap.push (.cells cs t) } ∧
        (∀ ρ' : Rho, ρ.le ρ' → ∀ b, BR α ρ' B (.cells cs t) ⟨b, 0, cs.size⟩) ∧ (∀ (ρ' : Rho) id, ρ' id = some ⟨w.heap.size, 0, cs.size⟩ → VR α ρ' (mk id) V) ∧ oneCell V := by
  rcases hs with ⟨hw, _, _⟩ | ⟨_, r, h1, h2⟩
  · unfold wantedA at hw; rw [hg] at hw; cases hw
  · unfold opR at h1
    cases hop : o.op with
    | alloc t =>
      rw [hop] at h1
      have h1' : ve (allocA E.P G t) = some r := h1
      obtain ⟨⟨u, H'⟩, h3, h4⟩ := ob_some.1 h1'
      cases h4
      obtain ⟨rfl, rfl⟩ := h2
      obtain ⟨B, mk, h5, h6⟩ := alloc_fresh (α := α) h3
      rw [newA_eq] at h5
      cases h5
      refine ⟨B, mk, rfl, rfl, fun c e => (by cases e), fun w => ?_⟩
      obtain ⟨cs, t', V, k1, k2, k3, k4⟩ := h6 ρ w
      exact ⟨cs, t', V, by simp [execOp, hop, k1], k2, k3, k4⟩
    | buildSlice t n ps =>
      rw [hop] at h1
      have h1' : ob (partsA T ps.toList) (fun l => ve (buildSliceA E.P G t n l)) = some r := h1
      obtain ⟨l, h0, h1'⟩ := ob_some.1 h1'
      obtain ⟨⟨u, H'⟩, h3, h4⟩ := ob_some.1 h1'
      cases h4
      obtain ⟨rfl, rfl⟩ := h2
      obtain ⟨B, mk, h5, h6⟩ := buildSlice_fresh (α := α) h3
      rw [newA_eq] at h5
      cases h5
      refine ⟨B, mk, rfl, rfl, fun c e => (by cases e), fun w => ?_⟩
      obtain ⟨q1, q2⟩ := partsA_sound he h0
      obtain ⟨cs, t', V, k1, k2, k3, k4⟩ := h6 ρ w _ q1 q2
      refine ⟨cs, t', V, ?_, k2, k3, k4⟩
      have e1 : (ps.map fun (i, x) => (i, e x)) = ⟨ps.toList.map fun (i, x) => (i, e x)⟩ := map_list _ _
      simp only [execOp, hop]
      rw [e1]
      simp [k1]
    | _ => rw [hop] at ho; cases ho

/-- a block of the world that is known by now -/
theorem Rel.adopt (h : Rel α ρ G w) {B : Blk} {o : Obj} {b N : Nat} (hb : w.heap[b]? = some o) (hn : ∀ id B l, G.t.get id = some B → ρ id = some l → l.b ≠ b)
    (hB : BR α (upd ρ G.next ⟨b, 0, N⟩) B o ⟨b, 0, N⟩) : Rel α (upd ρ G.next ⟨b, 0, N⟩) ⟨G.t.put G.next (some B), G.next + 1⟩ w := by
  have hf := h.fresh G.next (Nat.le_refl _)
  have hle : ρ.le (upd ρ G.next ⟨b, 0, N⟩) := upd_le hf
  refine ⟨?_, ?_, ?_⟩
  · intro id B' e
    simp only [Tr.get_put] at e
    by_cases hid : id = G.next
    · rw [if_pos hid] at e; cases e
      exact ⟨_, o, by rw [hid]; exact upd_self _ _ _, hb, hB⟩
    · rw [if_neg hid] at e
      obtain ⟨l, o', f1, f2, f3⟩ := h.blk id B' e
      exact ⟨l, o', hle _ _ f1, f2, f3.mono hle⟩
  · intro i j Bi Bj li lj e1 e2 f1 f2 e
    simp only [Tr.get_put] at e1 e2
    unfold upd at f1 f2
    by_cases hi : i = G.next <;> by_cases hj : j = G.next
    · rw [hi, hj]
    · rw [if_pos hi] at f1; rw [if_neg hj] at f2 e2; cases f1
      exact absurd e.symm (hn j Bj lj e2 f2)
    · rw [if_neg hi] at f1 e1; rw [if_pos hj] at f2; cases f2
      exact absurd e (hn i Bi li e1 f1)
    · rw [if_neg hi] at f1 e1; rw [if_neg hj] at f2 e2
      exact h.inj i j Bi Bj li lj e1 e2 f1 f2 e
  · intro id hid
    simp only at hid
    unfold upd
    rw [if_neg (by omega)]
    exact h.fresh id (by omega)
end
end Go.Twin
