/- One operation of a drawn region, by the machine. -/
import Derived.Test.YtappichcenifkaaGreatDoorTwinDrawA
namespace Go.Twin
open Go

section
variable {E : Env} {α : Nat → Value} {ρ : Rho} {G G' : AH} {w : World} {cs : List Frame} {n fn : Nat} {self : Self} {P : Program}

theorem step1_mach (hE : EnvOK E) (ih : Sound E α self) {ops : Array Oper} {i : Nat} {rest : List Nat} {k' : List Item} {kd : CallKind} {ro' : Option Nat} {o : Oper}
    {T : Tr AV} {tm : Array Value} {ds' : List Deferred} {v : AV} (ho : ops[i]? = some o) (hm : mildOp o.op = true)
    (hr : Rel α ρ G w) (hT : TR α ρ T n tm) (hs : Step1 E self ops.toList o T G v G') :
    ∃ v' w' ρ', Steps E.P (lone (inReg fn tm ops (i :: rest) k' ds' kd ro') cs w) (lone (inReg fn (putV o.dst tm v') ops rest k' ds' kd ro') cs w') ∧ Ev α ρ G w ρ' G' w' ∧ VR α ρ' v v' := by
  have hd : ro' = none ∨ ∀ c, o.op ≠ .defer c := .inr fun c e => by rw [e] at hm; cases hm
  rcases hs with ⟨hw, rfl, rfl⟩ | ⟨hw, r, h1, h2⟩
  · exact ⟨undef, w, ρ, .one (s_opSkip ho (wantedA_sound hT hw)), Ev.refl hr, undef_vr⟩
  · have hw' := wantedA_sound hT hw
    have hs := opC_sound (P := E.P) hr (evOK_frame (inReg fn tm ops (i :: rest) k' ds' kd ro') hT) o
    have hsp : OpSpec E.P α ρ G w (execOp (Frame.eval (inReg fn tm ops (i :: rest) k' ds' kd ro')) o) r := by
      unfold opR at h1
      cases hc : opC E.P o.op with
      | q f => rw [hc] at hs h1; obtain ⟨u, g1, g2⟩ := ob_some.1 h1; cases g2; exact hs u g1
      | h f => rw [hc] at hs h1; obtain ⟨u, g1, g2⟩ := ob_some.1 h1; cases g2; exact hs u g1
      | s f => rw [hc] at hs h1; obtain ⟨u, g1, g2⟩ := ob_some.1 h1; cases g2; exact hs u g1
      | e f => rw [hc] at hs h1; exact hs r h1
    cases r with
    | val u H' =>
      obtain ⟨rfl, rfl⟩ := h2
      obtain ⟨v', w', ρ', g1, g2, g3⟩ := hsp
      exact ⟨v', w', ρ', .one (s_opVal ho hw' hd g1), g2, g3⟩
    | skip H' =>
      obtain ⟨rfl, rfl⟩ := h2
      obtain ⟨w', ρ', g1, g2⟩ := hsp
      exact ⟨undef, w', ρ', .one (s_opUnit ho hw' hd g1), g2, undef_vr⟩
    | enter f args =>
      obtain ⟨args', g1, g2⟩ := hsp
      have hst := s_opEnter (P := E.P) (f := fn) (tm := tm) (ds := ds') (kd := kd) (ro := ro') (k := k') (cs := cs) (w := w) (rest := rest) ho hw' hd g1
      rcases h2 with hS | ⟨_, fr, rc', he, hself⟩
      · obtain ⟨v', w', ρ', k1, k2, k3⟩ := hE.S f args G v G' hS α ρ w args' hr g2
        have := k1 (inReg fn tm ops (i :: rest) k' ds' kd ro') cs
        rw [s_opFinish ho] at this
        exact ⟨v', w', ρ', Steps.head hst this, k2, k3⟩
      · have hfr := enterA_fr (d := false) g2 he
        have hres := ih fr .no G (Frame.enter E.P f args' .normal) w (inReg fn tm ops (i :: rest) k' ds' kd ro' :: cs) ρ hr hfr (by
          show recOf (Frame.enter E.P f args' .normal).kind _ = none
          rfl)
        rw [hself] at hres
        obtain ⟨v', w', ρ', cs', k1, k2, k3, k4, _⟩ := hres
        obtain ⟨_, rfl⟩ := k3.no
        have k5 := k4 _ cs rfl
        have k6 : popF (Frame.enter E.P f args' .normal).kind (inReg fn tm ops (i :: rest) k' ds' kd ro') v' = inReg fn (putV o.dst tm v') ops rest k' ds' kd ro' := s_opFinish ho
        rw [k6] at k5
        exact ⟨v', w', ρ', Steps.head hst k5, k1, k2⟩
    | yield l args =>
      obtain ⟨lo, args', g1, g2, g3⟩ := hsp
      obtain ⟨st, pe, f0, T0, n0, ps, assign, body, d, T1, rc', hl, hsz, hf0, hset, hself⟩ := h2
      obtain ⟨l2, ob, b1, b2, b3⟩ := hr.blk l _ hl
      rw [g1] at b1; cases b1
      cases b3 with
      | loop _ _ _ _ _ tmps _ _ _ _ ld _ c1 c2 =>
        have hlen : args'.size = ps.size := by have := g3.length; rw [← hsz, this, Array.length_toList]
        rw [yield_run (E := E) b2 hlen] at g2
        have hstep := s_opRound (P := E.P) (f := fn) (tm := tm) (ds := ds') (kd := kd) (ro := ro') (k := k') (cs := cs) (w := w) (rest := rest) ho hw' hd g2
        have hz : (ps.zip args').foldl (fun tmps (t, a) => tmps.setIfInBounds t a) tmps = (ps.toList.zip args'.toList).foldl (fun tm p => tm.setIfInBounds p.1 p.2) tmps := by
          rw [← Array.foldl_toList, Array.toList_zip]
        have hl1 : (ps.toList.zip args).map (·.1) = (ps.toList.zip args'.toList).map (·.1) := by
          have e1 : ps.toList.length = args.length := by rw [Array.length_toList, hsz]
          have e2 : ps.toList.length = args'.toList.length := by rw [Array.length_toList, Array.length_toList, hlen]
          rw [List.map_fst_zip (by omega), List.map_fst_zip (by omega)]
        have hl2 : VRs α ρ ((ps.toList.zip args).map (·.2)) ((ps.toList.zip args'.toList).map (·.2)) := by
          have e1 : ps.toList.length = args.length := by rw [Array.length_toList, hsz]
          have e2 : ps.toList.length = args'.toList.length := by rw [Array.length_toList, Array.length_toList, hlen]
          rw [List.map_snd_zip (by omega), List.map_snd_zip (by omega)]
          exact g3
        have hT1 := setParams_sound _ _ T0 T1 tmps hl1 hl2 c1 hset
        have hfr : FrR E.P α ρ ⟨f0, n0, T1, [.code assign, .beginRound, .code body], [], .run, false, some l⟩ (Frame.round lo.b f0 ((ps.toList.zip args'.toList).foldl (fun tm p => tm.setIfInBounds p.1 p.2) tmps) assign body .normal) :=
          .mk _ _ _ _ _ _ _ _ _ _ _ _ _ hT1 (fun _ => .code _ _ _ (.beginRound _ _ (.code _ _ _ .nil))) .nil .run (.some l lo g1) (Option.isSome_iff_exists.1 hf0) (fun _ => rfl)
        rw [hz] at hstep
        have hres := ih _ .no G _ w (inReg fn tm ops (i :: rest) k' ds' kd ro' :: cs) ρ hr hfr (by rfl)
        rw [hself] at hres
        obtain ⟨v', w', ρ', cs', k1, k2, k3, k4, _⟩ := hres
        obtain ⟨_, rfl⟩ := k3.no
        have k5 := k4 _ cs rfl
        have k6 : popF (Frame.round lo.b f0 ((ps.toList.zip args'.toList).foldl (fun tm p => tm.setIfInBounds p.1 p.2) tmps) assign body .normal).kind (inReg fn tm ops (i :: rest) k' ds' kd ro') v' =
            inReg fn (putV o.dst tm v') ops rest k' ds' kd ro' := s_opFinish ho
        rw [k6] at k5
        exact ⟨v', w', ρ', Steps.head hstep k5, k1, k2⟩
    | defer f a => exact h2.elim
    | recov => exact h2.elim
    | pan u => exact h2.elim

theorem TR.putv {T : Tr AV} {tm : Array Value} (h : TR α ρ T n tm) {d : Option Nat} {v : AV} {v' : Value} (hd : ∀ t, d = some t → t < n) (hv : VR α ρ v v') : TR α ρ (putT T d v) n (putV d tm v') := by
  cases d with
  | none => exact h
  | some t => exact h.put (hd t rfl) hv

/-- the order is drawn -/
theorem s_draw {f : FuncId} {tm : Array Value} {ds : List Deferred} {kd : CallKind} {ro : Option Nat} {k : List Item} {id : Nat} {ops : Array Oper} (hm : P.follows .mixedOrders = true) :
    ∃ t, step P (lone ⟨f, tm, .code (.region id ops true) :: k, ds, .run, kd, ro⟩ cs w) = .next (lone ⟨f, tm, .inRegion ops (Region.linearise .any ops t) :: k, ds, .run, kd, ro⟩ cs { w with drawn := w.drawn + 1 }) := by
  refine ⟨w.tape w.drawn (.order f id), step_lone_go ?_⟩
  have hc : Sem.run P (Sem.choose (.order f id) Sem.pure) w = .ok (w.tape w.drawn (.order f id)) w.drew := rfl
  simp [stepG, stepG.exec, choose, Region.schedule, hm, hc]

/-- an allocation, ahead of its turn -/
theorem alloc_leak {T : Tr AV} {e : Operand → Value} {o : Oper} {t : TypeId} {v : AV} {ops : List Oper} (ho : o.op = .alloc t) (hg : o.guard = none) (hs : Step1 E self ops o T G v G') :
    ∃ B, v = .p G.next 0 ∧ G' = ⟨G.t.put G.next (some B), G.next + 1⟩ ∧
      ∀ w : World, ∃ cs : Array Value, (execOp e o).run E.P w = .ok (.value (.pointer (some ⟨w.heap.size, 0, none⟩))) { w with heap := w.heap.push (.cells cs t) } ∧
        ∀ (ρ' : Rho) b, BR α ρ' B (.cells cs t) ⟨b, 0, cs.size⟩ := by
  rcases hs with ⟨hw, _, _⟩ | ⟨_, r, h1, h2⟩
  · unfold wantedA at hw; rw [hg] at hw; cases hw
  · unfold opR at h1
    rw [ho] at h1
    have h1' : ve (allocA E.P G t) = some r := h1
    obtain ⟨⟨u, H'⟩, h3, h4⟩ := ob_some.1 h1'
    cases h4
    obtain ⟨rfl, rfl⟩ := h2
    obtain ⟨z, h5, h6⟩ := ob_some.1 h3
    rw [newA_eq] at h6
    cases h6
    refine ⟨_, rfl, rfl, fun w => ?_⟩
    obtain ⟨z', h7, _⟩ := run_zero' (α := α) (ρ := fun _ => none) (w := w) h5
    refine ⟨z'.cells, ?_, fun ρ' b => ?_⟩
    · simp [execOp, ho, Instr.alloc, h7, newVar, newRow]
    · obtain ⟨z2, h8, h9⟩ := run_zero' (α := α) (ρ := ρ') (w := w) h5
      rw [h7] at h8
      cases h8
      have := newCells_br h9.cells t b
      simpa using this

/-- a block of the world that is known by now -/
theorem Rel.adopt (h : Rel α ρ G w) {B : Blk} {o : Obj} {b N : Nat} (hb : w.heap[b]? = some o) (hn : ∀ id B l, G.t.get id = some B → ρ id = some l → l.b ≠ b)
    (hB : BR α (upd ρ G.next ⟨b, 0, N⟩) B o ⟨b, 0, N⟩) : Rel α (upd ρ G.next ⟨b, 0, N⟩) ⟨G.t.put G.next (some B), G.next + 1⟩ w := by
  have hf := h.fresh G.next (Nat.le_refl _)
  have hle : ρ.le (upd ρ G.next ⟨b, 0, N⟩) := upd_le hf
  refine ⟨?_, ?_, ?_⟩
  · intro id B' e
    simp only [Tr.get_put] at e
    by_cases hid : id = G.next
    · rw [if_pos hid] at e; cases e
      exact ⟨_, o, by rw [hid]; exact upd_self _ _ _, hb, hB⟩
    · rw [if_neg hid] at e
      obtain ⟨l, o', f1, f2, f3⟩ := h.blk id B' e
      exact ⟨l, o', hle _ _ f1, f2, f3.mono hle⟩
  · intro i j Bi Bj li lj e1 e2 f1 f2 e
    simp only [Tr.get_put] at e1 e2
    unfold upd at f1 f2
    by_cases hi : i = G.next <;> by_cases hj : j = G.next
    · rw [hi, hj]
    · rw [if_pos hi] at f1; rw [if_neg hj] at f2 e2; cases f1
      exact absurd e.symm (hn j Bj lj e2 f2)
    · rw [if_neg hi] at f1 e1; rw [if_pos hj] at f2; cases f2
      exact absurd e (hn i Bi li e1 f1)
    · rw [if_neg hi] at f1 e1; rw [if_neg hj] at f2 e2
      exact h.inj i j Bi Bj li lj e1 e2 f1 f2 e
  · intro id hid
    simp only at hid
    unfold upd
    rw [if_neg (by omega)]
    exact h.fresh id (by omega)
end
end Go.Twin
