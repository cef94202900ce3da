/- A drawn region: the road through any order. -/
import Derived.Test.YtgcdilelbeobmaaGreatDoorTwinDrawD
namespace Go.Twin
open Go

theorem TR.turn {α : Nat → Value} {ρ : Rho} {T : Tr AV} {n : Nat} {tm : Array Value} (h : TR α ρ T n tm) {d : Nat} {v : AV} (hv : VR α ρ v (tm.getD d undef)) : TR α ρ (T.put d (some v)) n tm := by
  refine ⟨h.1, fun t a ha => ?_⟩
  rw [Tr.get_put] at ha
  by_cases e : t = d
  · subst e; rw [if_pos rfl] at ha; cases ha; exact hv
  · rw [if_neg e] at ha; exact h.2 t a ha
theorem listed_set {listed : Array Bool} {i : Nat} (hi : i < listed.size) (j : Nat) : (listed.setIfInBounds i true).getD j false = if j = i then true else listed.getD j false := by
  simp only [Array.getD_eq_getD_getElem?]
  by_cases e : j = i
  · subst e; rw [if_pos rfl]; simp [hi]
  · rw [if_neg e, Array.getElem?_setIfInBounds_ne (fun h => e h.symm)]
theorem putV_getD {d : Option Nat} {tm : Array Value} {v : Value} {t : Nat} (h : d ≠ some t) : (putV d tm v).getD t undef = tm.getD t undef := by
  cases d with
  | none => rfl
  | some u =>
    simp only [putV, Array.getD_eq_getD_getElem?]
    rw [Array.getElem?_setIfInBounds_ne (fun e => h (by rw [e]))]

structure Inv (E : Env) (α : Nat → Value) (n : Nat) (ops : Array Oper) (fl : Nat) (T0 : Tr AV) (Hs : Nat → AH) (vs : Nat → AV) (ρ0 : Rho) (w0 : World)
    (listed : Array Bool) (p : Nat) (pd : Bool) (T' : Tr AV) (tm : Array Value) (ρ : Rho) (w : World) : Prop where
  size : listed.size = ops.size
  closed : ∀ (j : Nat) (o : Oper), ops.toList[j]? = some o → listed.getD j false = true → ∀ e ∈ edgesOf o, listed.getD e false = true
  pN : p ≤ ops.toList.length
  effs : ∀ (j : Nat) (o : Oper), ops.toList[j]? = some o → quietOp E.P o.op = false → (listed.getD j false = true ↔ j < p ∨ (pd = true ∧ j = fl))
  pfl : pd = true → p ≤ fl
  get1 : ∀ (j : Nat) (o : Oper) (t : Nat), ops.toList[j]? = some o → listed.getD j false = true → o.dst = some t → (pd = true → j ≠ fl) → T'.get t = some (vs j)
  get0 : ∀ t, (∀ (j : Nat) (o : Oper), ops.toList[j]? = some o → listed.getD j false = true → o.dst ≠ some t) → T'.get t = T0.get t
  tr : TR α ρ T' n tm
  ev : Ev α ρ0 (Hs 0) w0 ρ (Hs p) w
  blk : pd = true → ∃ (of : Oper) (d b : Nat) (t : TypeId) (cs : Array Value) (B : Blk) (mk : Nat → AV) (V : Value), ops.toList[fl]? = some of ∧ of.dst = some d ∧ listed.getD fl false = true ∧ w0.heap.size ≤ b ∧ w.heap[b]? = some (.cells cs t) ∧
    (∀ id B l, (Hs p).t.get id = some B → ρ id = some l → l.b ≠ b) ∧ tm.getD d undef = V ∧ vs fl = mk (Hs fl).next ∧
    Hs (fl + 1) = ⟨(Hs fl).t.put (Hs fl).next (some B), (Hs fl).next + 1⟩ ∧ (∀ ρ' : Rho, ρ.le ρ' → ∀ b', BR α ρ' B (.cells cs t) ⟨b', 0, cs.size⟩) ∧ ∀ (ρ' : Rho) id, ρ' id = some ⟨b, 0, cs.size⟩ → VR α ρ' (mk id) V
/-- an effect is still to come ahead of the allocation that came too early -/
def Gap (E : Env) (ops : Array Oper) (fl p : Nat) : Prop := ∃ (z : Nat) (oz : Oper), ops.toList[z]? = some oz ∧ quietOp E.P oz.op = false ∧ p ≤ z ∧ z < fl

section
variable {E : Env} {self : Self} {n fn : Nat} {α : Nat → Value} {ρ0 ρ : Rho} {w0 w : World} {cs : List Frame}
variable {ops : Array Oper} {fl : Nat} {T0 TF : Tr AV} {H0 HF : AH} {Gs : List AH} {Ts : Nat → Tr AV} {Hs : Nat → AH} {vs : Nat → AV} (C : Ctx E self n ops fl T0 H0 TF HF Gs Ts Hs vs)
variable {listed : Array Bool} {p : Nat} {pd : Bool} {T' : Tr AV} {tm : Array Value}
include C

theorem Inv.adopt (I : Inv E α n ops fl T0 Hs vs ρ0 w0 listed p true T' tm ρ w) (hg : ¬ Gap E ops fl p) :
    ∃ T'' ρ'', Inv E α n ops fl T0 Hs vs ρ0 w0 listed (fl + 1) false T'' tm ρ'' w := by
  obtain ⟨of, d, b, t, cs, B, mk, V, h1, h2, hli, h3, h4, h5, h6, h7, h8, h9, h10⟩ := I.blk rfl
  have hfl : fl < ops.toList.length := (List.getElem?_eq_some_iff.1 h1).1
  have hpf := I.pfl rfl
  have hq : ∀ (z : Nat) (o : Oper), p ≤ z → z < fl → ops.toList[z]? = some o → quietOp E.P o.op = true := by
    intro z o hz1 hz2 ho
    cases hqq : quietOp E.P o.op with
    | true => rfl
    | false => exact absurd ⟨z, o, ho, hqq, hz1, hz2⟩ hg
  have hsame : Hs fl = Hs p := C.same fl hpf (by omega) hq
  rw [hsame] at h7 h8
  have hf := I.ev.rel.fresh (Hs p).next (Nat.le_refl _)
  have hle : ρ.le (upd ρ (Hs p).next ⟨b, 0, cs.size⟩) := upd_le hf
  have hrel := Rel.adopt (N := cs.size) I.ev.rel h4 h5 (h9 _ hle b)
  refine ⟨T'.put d (some (vs fl)), upd ρ (Hs p).next ⟨b, 0, cs.size⟩, I.size, I.closed, by omega, ?_, fun e => (by cases e), ?_, ?_, ?_, ?_, fun e => (by cases e)⟩
  · intro j o ho hqj
    rw [I.effs j o ho hqj]
    constructor
    · rintro (h | ⟨_, h⟩)
      · exact .inl (by omega)
      · exact .inl (by omega)
    · rintro (h | ⟨h, _⟩)
      · by_cases hj : j < p
        · exact .inl hj
        · by_cases hj2 : j = fl
          · exact .inr ⟨rfl, hj2⟩
          · have := hq j o (by omega) (by omega) ho
            rw [hqj] at this; cases this
      · cases h
  · intro j o t' ho hl hd _
    rw [Tr.get_put]
    by_cases e : t' = d
    · subst e
      have : j = fl := C.plan.duniq j fl o of t' ho h1 hd h2
      subst this
      rw [if_pos rfl]
    · rw [if_neg e]
      refine I.get1 j o t' ho hl hd fun _ ej => ?_
      subst ej
      rw [h1] at ho; cases ho
      rw [h2] at hd; cases hd
      exact e rfl
  · intro t' h
    rw [Tr.get_put]
    by_cases e : t' = d
    · subst e; exact absurd h2 (h fl of h1 hli)
    · rw [if_neg e]; exact I.get0 t' h
  · refine (I.tr.mono hle).turn ?_
    rw [h6, h7]
    exact h10 _ _ (upd_self _ _ _)
  · rw [h8]
    refine ⟨hrel, I.ev.ext.trans hle, I.ev.size, I.ev.os, I.ev.tape, I.ev.output, I.ev.keep, ?_⟩
    intro id B' l e1 e2 e3
    simp only [Tr.get_put] at e1
    unfold upd at e2
    by_cases hid : id = (Hs p).next
    · rw [if_pos hid] at e2; cases e2
      simp at e3; omega
    · rw [if_neg hid] at e1 e2
      exact I.ev.orig id B' l e1 e2 e3

/-- ready: what it hangs on is done -/
theorem Inv.anc_listed (I : Inv E α n ops fl T0 Hs vs ρ0 w0 listed p pd T' tm ρ w) {i y : Nat} {o : Oper} (ho : ops.toList[i]? = some o) (hr : ∀ e ∈ edgesOf o, listed.getD e false = true)
    (h : testB (anc ops.toList i) y = true) : listed.getD y false = true :=
  anc_closed C.edge (S := fun j => listed.getD j false = true) I.closed i y h fun o' ho' => by rw [ho] at ho'; cases ho'; exact hr
theorem Inv.anc_of (I : Inv E α n ops fl T0 Hs vs ρ0 w0 listed p pd T' tm ρ w) {i y : Nat} {o : Oper} (ho : ops.toList[i]? = some o) (hi : listed.getD i false = true)
    (h : testB (anc ops.toList i) y = true) : listed.getD y false = true := I.anc_listed C ho (I.closed i o ho hi) h
/-- the allocation that came too early is asked by none -/
theorem Inv.no_float (I : Inv E α n ops fl T0 Hs vs ρ0 w0 listed p true T' tm ρ w) (hg : Gap E ops fl p) {i : Nat} {o : Oper} (ho : ops.toList[i]? = some o) (hr : ∀ e ∈ edgesOf o, listed.getD e false = true) :
    testB (anc ops.toList i) fl = false := by
  cases h : testB (anc ops.toList i) fl with
  | false => rfl
  | true =>
    obtain ⟨z, oz, hz, hqz, hz1, hz2⟩ := hg
    obtain ⟨of, d, b, t, cs, B, mk, V, h1, _⟩ := I.blk rfl
    have := (C.plan.flo of h1).2.2.2 i z o oz ho h hz hqz hz2
    have := I.anc_listed C ho hr this
    rw [I.effs z oz hz hqz] at this
    omega
theorem Inv.agree (I : Inv E α n ops fl T0 Hs vs ρ0 w0 listed p pd T' tm ρ w) (hg : pd = true → Gap E ops fl p) {i : Nat} {o : Oper} (ho : ops.toList[i]? = some o) (hr : ∀ e ∈ edgesOf o, listed.getD e false = true)
    (hi : listed.getD i false = false) : ∀ t ∈ looks ops.toList o, (Ts i).get t = T'.get t := by
  intro t ht
  have hilt : i < ops.toList.length := (List.getElem?_eq_some_iff.1 ho).1
  by_cases hw : ∃ (y : Nat) (oy : Oper), ops.toList[y]? = some oy ∧ oy.dst = some t
  · obtain ⟨y, oy, hy, hd⟩ := hw
    rcases C.plan.look y i oy o t ho ht hy hd with h | h
    · have hly := I.anc_listed C ho hr h
      have hyi := anc_lt C.edge _ _ h
      rw [C.ts_new hy hd i (by omega) hyi]
      refine (I.get1 y oy t hy hly hd fun hpd e => ?_).symm
      subst hpd e
      rw [I.no_float C (hg rfl) ho hr] at h
      cases h
    · have hly : listed.getD y false ≠ true := fun e => by
        have := I.anc_of C hy e h
        rw [hi] at this; cases this
      have hiy := anc_lt C.edge _ _ h
      rw [C.ts_old i (by omega) t fun i' o' hi' ho' hd' => by have := C.plan.duniq i' y o' oy t ho' hy hd' hd; omega]
      refine (I.get0 t fun j oj hj hl hd' => hly ?_).symm
      rw [C.plan.duniq y j oy oj t hy hj hd hd']; exact hl
  · rw [C.ts_old i (by omega) t fun i' o' _ ho' hd' => hw ⟨i', o', ho', hd'⟩, I.get0 t fun j oj hj _ hd' => hw ⟨j, oj, hj, hd'⟩]
theorem Inv.final (I : Inv E α n ops fl T0 Hs vs ρ0 w0 listed p pd T' tm ρ w) (hg : pd = true → Gap E ops fl p) {i : Nat} {o : Oper} (ho : ops.toList[i]? = some o) (hr : ∀ e ∈ edgesOf o, listed.getD e false = true)
    (hst : ∀ t i' oi, t ∈ looks ops.toList o → ops.toList[i']? = some oi → oi.dst = some t → testB (anc ops.toList i) i' = true) : ∀ t ∈ looks ops.toList o, TF.get t = T'.get t := by
  intro t ht
  rw [← C.trc.tN]
  by_cases hw : ∃ (y : Nat) (oy : Oper), ops.toList[y]? = some oy ∧ oy.dst = some t
  · obtain ⟨y, oy, hy, hd⟩ := hw
    have h := hst t y oy ht hy hd
    have hylt : y < ops.toList.length := (List.getElem?_eq_some_iff.1 hy).1
    rw [C.ts_new hy hd _ (Nat.le_refl _) hylt]
    refine (I.get1 y oy t hy (I.anc_listed C ho hr h) hd fun hpd e => ?_).symm
    subst hpd e
    rw [I.no_float C (hg rfl) ho hr] at h
    cases h
  · rw [C.ts_old _ (Nat.le_refl _) t fun i' o' _ ho' hd' => hw ⟨i', o', ho', hd'⟩, I.get0 t fun j oj hj _ hd' => hw ⟨j, oj, hj, hd'⟩]

/-- an operation that is done, written down -/
theorem Inv.next (I : Inv E α n ops fl T0 Hs vs ρ0 w0 listed p pd T' tm ρ w) {i q : Nat} {o : Oper} (ho : ops.toList[i]? = some o) (hr : ∀ e ∈ edgesOf o, listed.getD e false = true) (hi : listed.getD i false = false)
    {v' : Value} {ρ' : Rho} {w' : World} (hev : Ev α ρ (Hs p) w ρ' (Hs q) w') (hv : VR α ρ' (vs i) v') (hqN : q ≤ ops.toList.length)
    (heff : ∀ (j : Nat) (oj : Oper), ops.toList[j]? = some oj → quietOp E.P oj.op = false → (j < q ∨ (pd = true ∧ j = fl) ↔ j = i ∨ j < p ∨ (pd = true ∧ j = fl)))
    (hqf : pd = true → q ≤ fl) : Inv E α n ops fl T0 Hs vs ρ0 w0 (listed.setIfInBounds i true) q pd (putT T' o.dst (vs i)) (putV o.dst tm v') ρ' w' := by
  have hilt : i < ops.toList.length := (List.getElem?_eq_some_iff.1 ho).1
  have hsz : i < listed.size := by rw [I.size]; simpa using hilt
  refine ⟨by simpa using I.size, ?_, hqN, ?_, hqf, ?_, ?_, ?_, I.ev.trans hev, ?_⟩
  · intro j oj hj hl e he
    rw [listed_set hsz] at hl ⊢
    by_cases e1 : e = i
    · rw [if_pos e1]
    · rw [if_neg e1]
      by_cases e2 : j = i
      · subst e2
        rw [ho] at hj; cases hj
        exact hr e he
      · rw [if_neg e2] at hl
        exact I.closed j oj hj hl e he
  · intro j oj hj hqj
    rw [listed_set hsz]
    have h1 := heff j oj hj hqj
    have h2 := I.effs j oj hj hqj
    by_cases e2 : j = i
    · rw [if_pos e2]
      exact ⟨fun _ => h1.2 (.inl e2), fun _ => rfl⟩
    · rw [if_neg e2, h2, h1]
      exact ⟨.inr, fun h => h.resolve_left e2⟩
  · intro j oj t hj hl hd hpd
    rw [listed_set hsz] at hl
    rw [putT_get]
    by_cases e2 : j = i
    · subst e2
      rw [ho] at hj; cases hj
      rw [if_pos hd]
    · rw [if_neg e2] at hl
      rw [if_neg fun hd' => e2 (C.plan.duniq j i oj o t hj ho hd hd')]
      exact I.get1 j oj t hj hl hd hpd
  · intro t h
    rw [putT_get, if_neg (h i o ho (by rw [listed_set hsz, if_pos rfl]))]
    refine I.get0 t fun j oj hj hl => h j oj hj ?_
    rw [listed_set hsz]
    split
    · rfl
    · exact hl
  · exact (I.tr.mono hev.ext).putv (fun t ht => C.plan.dlt i o t ho ht) hv
  · intro hpd
    obtain ⟨of, d, b, t, cs, B, mk, V, h1, h2, hli, h3, h4, h5, h6, h7, h8, h9, h10⟩ := I.blk hpd
    have hb : b < w.heap.size := (Array.getElem?_eq_some_iff.1 h4).1
    refine ⟨of, d, b, t, cs, B, mk, V, h1, h2, ?_, h3, ?_, ?_, ?_, h7, h8, fun ρ'' hle => h9 ρ'' (hev.ext.trans hle), h10⟩
    · rw [listed_set hsz]
      split
      · rfl
      · exact hli
    · rw [hev.keep b hb h5]; exact h4
    · intro id B' l e1 e2 e3
      obtain ⟨id0, B0, l0, f1, f2, f3⟩ := hev.orig id B' l e1 e2 (by omega)
      exact h5 id0 B0 l0 f1 f2 (by omega)
    · rw [putV_getD]
      · exact h6
      · intro hd
        have : i = fl := C.plan.duniq i fl o of d ho h1 hd h2
        subst this
        rw [hli] at hi; cases hi

theorem Inv.step (hE : EnvOK E) (ih : Sound E α self) (I : Inv E α n ops fl T0 Hs vs ρ0 w0 listed p pd T' tm ρ w) (hg : pd = true → Gap E ops fl p) {i : Nat} {o : Oper} (ho : ops[i]? = some o) (hr : ∀ e ∈ edgesOf o, listed.getD e false = true)
    (hi : listed.getD i false = false) (rest : List Nat) (k' : List Item) (ds' : List Deferred) (kd : CallKind) (ro' : Option Nat) :
    ∃ p' pd' T'' tm' ρ' w', Inv E α n ops fl T0 Hs vs ρ0 w0 (listed.setIfInBounds i true) p' pd' T'' tm' ρ' w' ∧ (pd' = true → Gap E ops fl p') ∧
      Steps E.P (lone (inReg fn tm ops (i :: rest) k' ds' kd ro') cs w) (lone (inReg fn tm' ops rest k' ds' kd ro') cs w') := by
  have ho' : ops.toList[i]? = some o := by rw [Array.getElem?_toList]; exact ho
  have hilt : i < ops.toList.length := (List.getElem?_eq_some_iff.1 ho').1
  have hmild := C.plan.mild i o ho'
  have hag := I.agree C hg ho' hr hi
  -- the effects that are before it are done; those that are done have it not ahead of them
  have hlo : ∀ (y : Nat) (oy : Oper), ops.toList[y]? = some oy → quietOp E.P oy.op = false → testB (anc ops.toList i) y = true → y < p := by
    intro y oy hy hqy ht
    have hly := I.anc_listed C ho' hr ht
    rw [I.effs y oy hy hqy] at hly
    rcases hly with h | ⟨h, e⟩
    · exact h
    · subst h e
      rw [I.no_float C (hg rfl) ho' hr] at ht
      cases ht
  have hhi : ∀ (y : Nat) (oy : Oper), ops.toList[y]? = some oy → quietOp E.P oy.op = false → y < p → testB (anc ops.toList y) i = false := by
    intro y oy hy hqy hyp
    cases ht : testB (anc ops.toList y) i with
    | false => rfl
    | true =>
      have := I.anc_of C hy ((I.effs y oy hy hqy).2 (.inl hyp)) ht
      rw [hi] at this; cases this
  cases hq : quietOp E.P o.op with
  | true =>
    have h1 := C.quiet_at ho' hq I.pN hag hlo hhi (fun h => I.final C hg ho' hr h)
    obtain ⟨v', w', ρ', g1, g2, g3⟩ := step1_mach (fn := fn) (k' := k') (kd := kd) (ro' := ro') (ds' := ds') (rest := rest) (cs := cs) hE ih ho hmild I.ev.rel I.tr h1
    refine ⟨p, pd, _, _, ρ', w', I.next C ho' hr hi g2 g3 I.pN ?_ I.pfl, hg, g1⟩
    intro j oj hj hqj
    refine ⟨.inr, fun h => h.resolve_left fun e => ?_⟩
    subst e
    rw [ho'] at hj; cases hj
    rw [hq] at hqj; cases hqj
  | false =>
    have hpi : p ≤ i := by
      have h0 : ¬ i < p := fun h => by
        have := (I.effs i o ho' hq).2 (.inl h)
        rw [hi] at this; cases this
      omega
    by_cases hgap : ∃ (z : Nat) (oz : Oper), ops.toList[z]? = some oz ∧ quietOp E.P oz.op = false ∧ p ≤ z ∧ z < i ∧ listed.getD z false = false
    · -- an allocation ahead of its turn
      obtain ⟨z, oz, hz, hqz, hz1, hz2, hzl⟩ := hgap
      have hif : i = fl := by
        rcases C.plan.eff z i oz o hz ho' hz2 hqz hq with h | h
        · have := I.anc_listed C ho' hr h
          rw [hzl] at this; cases this
        · exact h
      subst hif
      have hpd : pd = false := by
        cases pd with
        | false => rfl
        | true =>
          have := (I.effs i o ho' hq).2 (.inr ⟨rfl, rfl⟩)
          rw [hi] at this; cases this
      subst hpd
      obtain ⟨f1, f2, ⟨d, f3⟩, f4⟩ := C.plan.flo o ho'
      · have hs1 := Step1_loc (C.trc.step i o ho').1 hag
        obtain ⟨B, mk, b1, b2, bd, b3⟩ := fresh_leak (α := α) (evOK_frame (inReg fn tm ops (i :: rest) k' ds' kd ro') I.tr) f1 f2 hs1
        obtain ⟨cc, t, V, c1, c2, c3, c4⟩ := b3 w
        have hw : Region.wanted o (yielded ops tm) = true := by simp [Region.wanted, f2]
        have hst := s_opVal (P := E.P) (f := fn) (tm := tm) (ds := ds') (kd := kd) (ro := ro') (k := k') (cs := cs) (w := w) (rest := rest) ho hw (.inr bd) c1
        have hsz : i < listed.size := by rw [I.size]; simpa using hilt
        have hd := C.plan.dlt i o d ho' f3
        have hleak : Ev α ρ (Hs p) w ρ (Hs p) { w with heap := w.heap.push (.cells cc t) } := by
          have hlt : ∀ id B l, (Hs p).t.get id = some B → ρ id = some l → l.b < w.heap.size := by
            intro id B l e1 e2
            obtain ⟨l', o', g1, g2, _⟩ := I.ev.rel.blk id B e1
            rw [e2] at g1; cases g1
            exact (Array.getElem?_eq_some_iff.1 g2).1
          refine ⟨⟨?_, I.ev.rel.inj, I.ev.rel.fresh⟩, .refl ρ, by simp, rfl, rfl, rfl, ?_, ?_⟩
          · intro id B e
            obtain ⟨l, o', g1, g2, g3⟩ := I.ev.rel.blk id B e
            refine ⟨l, o', g1, ?_, g3⟩
            have := hlt id B l e g1
            simp only [Array.getElem?_push]
            rw [if_neg (by omega)]; exact g2
          · intro b hb _
            simp only [Array.getElem?_push]
            rw [if_neg (by omega)]
          · intro id B l e1 e2 _
            exact ⟨id, B, l, e1, e2, rfl⟩
        have hev := I.ev.trans hleak
        have hslot : (putV o.dst tm V).getD d undef = V := by
          rw [f3]
          have hd2 : d < tm.size := by rw [I.tr.1]; exact hd
          simp [putV, Array.getD_eq_getD_getElem?, hd2]
        refine ⟨p, true, putT T' o.dst (.atm 1000000), putV o.dst tm V, ρ, _, ⟨by simpa using I.size, ?_, I.pN, ?_, fun _ => hpi, ?_, ?_, ?_, hev, ?_⟩, fun _ => ⟨z, oz, hz, hqz, hz1, hz2⟩, .one hst⟩
        · intro j oj hj hl e he
          rw [listed_set hsz] at hl ⊢
          by_cases e1 : e = i
          · rw [if_pos e1]
          · rw [if_neg e1]
            by_cases e2 : j = i
            · subst e2
              rw [ho'] at hj; cases hj
              exact hr e he
            · rw [if_neg e2] at hl
              exact I.closed j oj hj hl e he
        · intro j oj hj hqj
          rw [listed_set hsz]
          have h2 := I.effs j oj hj hqj
          by_cases e2 : j = i
          · rw [if_pos e2]
            exact ⟨fun _ => .inr ⟨rfl, e2⟩, fun _ => rfl⟩
          · rw [if_neg e2, h2]
            constructor
            · rintro (h | ⟨h, _⟩)
              · exact .inl h
              · cases h
            · rintro (h | ⟨_, h⟩)
              · exact .inl h
              · exact absurd h e2
        · intro j oj t' hj hl hd' hne
          rw [listed_set hsz, if_neg (hne rfl)] at hl
          rw [putT_get, if_neg fun hd2 => hne rfl (C.plan.duniq j i oj o t' hj ho' hd' hd2)]
          exact I.get1 j oj t' hj hl hd' (fun e => by cases e)
        · intro t' h
          rw [putT_get, if_neg (h i o ho' (by rw [listed_set hsz, if_pos rfl]))]
          refine I.get0 t' fun j oj hj hl => h j oj hj ?_
          rw [listed_set hsz]
          split
          · rfl
          · exact hl
        · exact I.tr.putv (fun t' ht' => C.plan.dlt i o t' ho' ht') (.atm _ _ (fun h => absurd h (by omega)) c4)
        · intro _
          refine ⟨o, d, w.heap.size, t, cc, B, mk, V, ho', f3, by rw [listed_set hsz, if_pos rfl], I.ev.size, by simp, ?_, hslot, b1, b2, c2, c3⟩
          intro id B' l e1 e2
          obtain ⟨l', o2, g1, g2, _⟩ := I.ev.rel.blk id B' e1
          rw [e2] at g1; cases g1
          have := (Array.getElem?_eq_some_iff.1 g2).1
          omega
    · -- in its turn
      have hpq : ∀ (z : Nat) (oz : Oper), p ≤ z → z < i → ops.toList[z]? = some oz → quietOp E.P oz.op = true ∨ (pd = true ∧ z = fl) := by
        intro z oz hz1 hz2 hz
        cases hqz : quietOp E.P oz.op with
        | true => exact .inl rfl
        | false =>
          refine .inr ?_
          have hl : listed.getD z false = true := by
            cases hl : listed.getD z false with
            | true => rfl
            | false => exact absurd ⟨z, oz, hz, hqz, hz1, hz2, hl⟩ hgap
          rw [I.effs z oz hz hqz] at hl
          rcases hl with h | h
          · omega
          · exact h
      have hfi : pd = true → i < fl := by
        intro hpd
        subst hpd
        obtain ⟨z, oz, hz, hqz, hz1, hz2⟩ := hg rfl
        by_cases h : i < fl
        · exact h
        · have hzi : z < i := by omega
          rcases hpq z oz hz1 hzi hz with h2 | ⟨_, h2⟩
          · rw [hqz] at h2; cases h2
          · omega
      have hsame : Hs i = Hs p := C.same i hpi (by omega) fun z oz hz1 hz2 hz => by
        rcases hpq z oz hz1 hz2 hz with h | ⟨h, e⟩
        · exact h
        · have := hfi h; omega
      have h1 := (C.trc.step i o ho').1
      rw [hsame] at h1
      have h2 := Step1_loc h1 hag
      obtain ⟨v', w', ρ', g1, g2, g3⟩ := step1_mach (fn := fn) (k' := k') (kd := kd) (ro' := ro') (ds' := ds') (rest := rest) (cs := cs) hE ih ho hmild I.ev.rel I.tr h2
      have I' := I.next C ho' hr hi (q := i + 1) g2 g3 (by omega) (by
        intro j oj hj hqj
        constructor
        · rintro (h | h)
          · by_cases e : j = i
            · exact .inl e
            · by_cases hjp : j < p
              · exact .inr (.inl hjp)
              · rcases hpq j oj (by omega) (by omega) hj with h3 | h3
                · rw [hqj] at h3; cases h3
                · exact .inr (.inr h3)
          · exact .inr (.inr h)
        · rintro (h | h | h)
          · exact .inl (by omega)
          · exact .inl (by omega)
          · exact .inr h) (fun h => by have := hfi h; omega)
      cases pd with
      | false => exact ⟨i + 1, false, _, _, ρ', w', I', fun e => (by cases e), g1⟩
      | true =>
        by_cases hg2 : Gap E ops fl (i + 1)
        · exact ⟨i + 1, true, _, _, ρ', w', I', fun _ => hg2, g1⟩
        · obtain ⟨T'', ρ'', I''⟩ := I'.adopt C hg2
          exact ⟨fl + 1, false, T'', _, ρ'', w', I'', fun e => (by cases e), g1⟩

def unl (listed : Array Bool) (N : Nat) : Nat := ((List.range N).filter fun i => !listed.getD i false).length
omit C in
theorem unl_set {N i : Nat} (hs : listed.size = N) (hi : i < N) (h : listed.getD i false = false) : unl (listed.setIfInBounds i true) N < unl listed N := by
  unfold unl
  have hsz : i < listed.size := by omega
  have e1 : (List.range N).filter (fun j => !(listed.setIfInBounds i true).getD j false) = ((List.range N).filter fun j => !listed.getD j false).filter fun j => decide (j ≠ i) := by
    rw [List.filter_filter]
    refine List.filter_congr fun j _ => ?_
    rw [listed_set hsz]
    by_cases e : j = i
    · simp [e]
    · simp [e]
  rw [e1]
  refine List.length_filter_lt_length_iff_exists.2 ⟨i, ?_, by simp⟩
  exact List.mem_filter.2 ⟨by simpa using hi, by rw [h]; rfl⟩
omit C in
theorem unl_zero {N : Nat} (h : unl listed N = 0) : ∀ i, i < N → listed.getD i false = true := by
  intro i hi
  unfold unl at h
  have := List.filter_eq_nil_iff.1 (List.length_eq_zero_iff.1 h) i (by simpa using hi)
  simpa using this

theorem Inv.finish (I : Inv E α n ops fl T0 Hs vs ρ0 w0 listed p pd T' tm ρ w) (hg : pd = true → Gap E ops fl p) (hall : ∀ i, i < ops.toList.length → listed.getD i false = true) :
    Ev α ρ0 (Hs 0) w0 ρ (Hs ops.toList.length) w ∧ TR α ρ TF n tm := by
  have hpd : pd = false := by
    cases pd with
    | false => rfl
    | true =>
      obtain ⟨z, oz, hz, hqz, hz1, hz2⟩ := hg rfl
      have := hall z (List.getElem?_eq_some_iff.1 hz).1
      rw [I.effs z oz hz hqz] at this
      omega
  subst hpd
  have hs : Hs ops.toList.length = Hs p := C.same _ I.pN (Nat.le_refl _) fun z oz hz1 hz2 hz => by
    cases hqz : quietOp E.P oz.op with
    | true => rfl
    | false =>
      have := hall z hz2
      rw [I.effs z oz hz hqz] at this
      rcases this with h | ⟨h, _⟩
      · omega
      · cases h
  refine ⟨by rw [hs]; exact I.ev, I.tr.1, fun t a0 ha0 => ?_⟩
  have : TF.get t = T'.get t := by
    rw [← C.trc.tN]
    by_cases hw : ∃ (y : Nat) (oy : Oper), ops.toList[y]? = some oy ∧ oy.dst = some t
    · obtain ⟨y, oy, hy, hd⟩ := hw
      have hylt : y < ops.toList.length := (List.getElem?_eq_some_iff.1 hy).1
      rw [C.ts_new hy hd _ (Nat.le_refl _) hylt]
      exact (I.get1 y oy t hy (hall y hylt) hd fun h => by cases h).symm
    · rw [C.ts_old _ (Nat.le_refl _) t fun i' o' _ ho' hd' => hw ⟨i', o', ho', hd'⟩, I.get0 t fun j oj hj _ hd' => hw ⟨j, oj, hj, hd'⟩]
  rw [this] at ha0
  exact I.tr.2 t a0 ha0

omit C in
theorem edges_mem {o : Oper} {e : Nat} : e ∈ edgesOf o ↔ ∃ x ∈ o.after.toList, Region.binds .any x = true ∧ x.on = e := by
  unfold edgesOf
  simp only [List.mem_map, List.mem_filter]
  constructor
  · rintro ⟨x, ⟨h1, h2⟩, h3⟩; exact ⟨x, h1, h2, h3⟩
  · rintro ⟨x, h1, h2, h3⟩; exact ⟨x, ⟨h1, h2⟩, h3⟩

theorem Inv.go (hE : EnvOK E) (ih : Sound E α self) (k' : List Item) (ds' : List Deferred) (kd : CallKind) (ro' : Option Nat) : ∀ (fuel t : Nat) (listed : Array Bool) (p : Nat) (pd : Bool) (T' : Tr AV) (tm : Array Value) (ρ : Rho) (w : World),
    unl listed ops.toList.length ≤ fuel → Inv E α n ops fl T0 Hs vs ρ0 w0 listed p pd T' tm ρ w → (pd = true → Gap E ops fl p) →
    ∃ tm' ρ' w', Steps E.P (lone (inReg fn tm ops (Region.linearise.go .any ops fuel t listed []) k' ds' kd ro') cs w) (lone (inReg fn tm' ops [] k' ds' kd ro') cs w') ∧
      Ev α ρ0 (Hs 0) w0 ρ' (Hs ops.toList.length) w' ∧ TR α ρ' TF n tm' := by
  intro fuel
  induction fuel with
  | zero =>
    intro t listed p pd T' tm ρ w hu I hg
    obtain ⟨h1, h2⟩ := I.finish C hg (unl_zero (by omega))
    exact ⟨tm, ρ, w, .refl _ _, h1, h2⟩
  | succ fuel ihf =>
    intro t listed p pd T' tm ρ w hu I hg
    have hready : ∀ i, i ∈ Region.ready .any ops listed → ∃ o, ops[i]? = some o ∧ listed.getD i false = false ∧ ∀ e ∈ edgesOf o, listed.getD e false = true := by
      intro i hi
      unfold Region.ready at hi
      obtain ⟨h1, h2⟩ := List.mem_filter.1 hi
      rw [Bool.and_eq_true] at h2
      have hlt : i < ops.size := by simpa using h1
      refine ⟨ops[i], Array.getElem?_eq_getElem hlt, ?_, ?_⟩
      · have h3 : listed.getD i true = false := by simpa using h2.1
        have hsz : i < listed.size := by rw [I.size]; exact hlt
        simp only [Array.getD_eq_getD_getElem?, Array.getElem?_eq_getElem hsz, Option.getD_some] at h3 ⊢
        exact h3
      · intro e he
        obtain ⟨x, g1, g2, g3⟩ := edges_mem.1 he
        have h4 := h2.2
        rw [Array.getElem?_eq_getElem hlt] at h4
        simp only [Option.map_some, Option.getD_some] at h4
        rw [Array.all_eq_true_iff_forall_mem] at h4
        have := h4 x (by simpa using g1)
        rw [g2] at this
        rw [← g3]
        simpa using this
    simp only [Region.linearise.go]
    change ∃ tm' ρ' w', Steps E.P (lone (inReg fn tm ops (match (Region.ready .any ops listed)[t % (Region.ready .any ops listed).length]? with
      | some i => Region.linearise.go .any ops fuel (t / (Region.ready .any ops listed).length) (listed.setIfInBounds i true) [i]
      | none => [].reverse) k' ds' kd ro') cs w) (lone (inReg fn tm' ops [] k' ds' kd ro') cs w') ∧ Ev α ρ0 (Hs 0) w0 ρ' (Hs ops.toList.length) w' ∧ TR α ρ' TF n tm'
    cases hi : (Region.ready .any ops listed)[t % (Region.ready .any ops listed).length]? with
    | none =>
      have hnil : Region.ready .any ops listed = [] := by
        cases hr : Region.ready .any ops listed with
        | nil => rfl
        | cons x xs =>
          rw [hr] at hi
          have hlt : t % (x :: xs).length < (x :: xs).length := Nat.mod_lt _ (by simp)
          rw [List.getElem?_eq_none_iff] at hi
          omega
      have hall : ∀ i, i < ops.toList.length → listed.getD i false = true := by
        intro i
        induction i using Nat.strongRecOn with
        | _ i ihi =>
          intro hlt
          cases hl : listed.getD i false with
          | true => rfl
          | false =>
            exfalso
            have hlt' : i < ops.size := by simpa using hlt
            have hmem : i ∈ Region.ready .any ops listed := by
              unfold Region.ready
              refine List.mem_filter.2 ⟨by simpa using hlt', ?_⟩
              rw [Bool.and_eq_true]
              constructor
              · have hsz : i < listed.size := by rw [I.size]; exact hlt'
                simp only [Array.getD_eq_getD_getElem?, Array.getElem?_eq_getElem hsz, Option.getD_some] at hl ⊢
                rw [hl]; rfl
              · rw [Array.getElem?_eq_getElem hlt']
                simp only [Option.map_some, Option.getD_some]
                rw [Array.all_eq_true_iff_forall_mem]
                intro x hx
                cases hb : Region.binds .any x with
                | false => rfl
                | true =>
                  have he : x.on ∈ edgesOf ops[i] := edges_mem.2 ⟨x, by simpa using hx, hb, rfl⟩
                  have := C.edge i ops[i] (by rw [Array.getElem?_toList]; exact Array.getElem?_eq_getElem hlt') x.on he
                  rw [ihi x.on this (by omega)]; rfl
            rw [hnil] at hmem
            cases hmem
      obtain ⟨h1, h2⟩ := I.finish C hg hall
      exact ⟨tm, ρ, w, .refl _ _, h1, h2⟩
    | some i =>
      obtain ⟨o, ho, hl, hr⟩ := hready i (List.mem_of_getElem? hi)
      have hlt : i < ops.size := (Array.getElem?_eq_some_iff.1 ho).1
      show ∃ tm' ρ' w', Steps E.P (lone (inReg fn tm ops (Region.linearise.go .any ops fuel (t / (Region.ready .any ops listed).length) (listed.setIfInBounds i true) [i]) k' ds' kd ro') cs w) (lone (inReg fn tm' ops [] k' ds' kd ro') cs w') ∧
        Ev α ρ0 (Hs 0) w0 ρ' (Hs ops.toList.length) w' ∧ TR α ρ' TF n tm'
      rw [linearise_go_acc, List.reverse_singleton, List.singleton_append]
      obtain ⟨p', pd', T'', tm', ρ', w', g1, g2, g3⟩ := I.step (cs := cs) (fn := fn) C hE ih hg ho hr hl (Region.linearise.go .any ops fuel (t / (Region.ready .any ops listed).length) (listed.setIfInBounds i true) []) k' ds' kd ro'
      have hu' : unl (listed.setIfInBounds i true) ops.toList.length ≤ fuel := by
        have := unl_set (listed := listed) (N := ops.toList.length) (i := i) (by rw [I.size]; simp) (by simpa using hlt) hl
        omega
      obtain ⟨tm2, ρ2, w2, k1, k2, k3⟩ := ihf (t / (Region.ready .any ops listed).length) _ p' pd' T'' tm' ρ' w' hu' g1 g2
      exact ⟨tm2, ρ2, w2, g3.trans k1, k2, k3⟩
end

section
variable {E : Env} {self : Self} {n fn : Nat} {α : Nat → Value} {ρ : Rho} {w : World} {cs : List Frame} {H : AH} {rc : RC}

theorem drawC_res (hE : EnvOK E) (ih : Sound E α self) {id : Nat} {ops : Array Oper} {k' : List Item} {kd : CallKind} {ro ro' : Option Nat} {k : KR} {kp : List (AV × Bool) → KR} {T : Tr AV} {tm : Array Value} {ds : List ADef} {ds' : List Deferred}
    (hc : Cont E α ρ n fn ops [] k' kd ro' k kp) (hr : Rel α ρ H w) (hT : TR α ρ T n tm) (hds : DRs α ρ ds ds') (hrc : RCS α ρ rc kd cs) :
    Res E.P α ρ H w ⟨fn, tm, .code (.region id ops true) :: k', ds', .run, kd, ro'⟩ cs rc ((drawC E fn n ops.toList).run self ro k kp T ds rc H) := by
  show Res E.P α ρ H w _ cs rc (bc (planOK E.P n ops.toList)
    ((drC E fn n ops.toList ops.toList).run self ro (fun Gs T ds rc H => ckAll E self fn n ops.toList ro T ds rc Gs (k T ds rc H) (asks E.P (rows ops.toList))) [H] T ds rc H) (.bad [fn, 51]))
  rw [bc_eq]
  split
  · rename_i hp
    obtain ⟨fl, plan⟩ := plan_of hp
    have hops : ∀ o ∈ ops.toList, mildOp o.op = true ∧ ∀ t, o.dst = some t → t < n := by
      intro o ho
      obtain ⟨j, hj⟩ := List.mem_iff_getElem?.1 ho
      exact ⟨plan.mild j o hj, fun t ht => plan.dlt j o t hj ht⟩
    rcases drC_out (E := E) (self := self) (fn := fn) (n := n) (ops := ops.toList) (ro := ro) (ds := ds) (rc := rc) (fun Gs T ds rc H => ckAll E self fn n ops.toList ro T ds rc Gs (k T ds rc H) (asks E.P (rows ops.toList))) ops.toList [H] T H hops with ⟨why, h⟩ | ⟨TF, HF, Gs, h1, h2⟩
    · rw [h]; trivial
    · rw [h2]
      have hasks : ∀ x ∈ asks E.P (rows ops.toList), mildOp x.1.op = true ∧ ∀ t, x.1.dst = some t → t < n := by
        intro x hx
        unfold asks at hx
        obtain ⟨y, hy, rfl⟩ := List.mem_map.1 hx
        have hy' := (rows_mem (List.mem_filter.1 hy).1).1
        exact ⟨plan.mild _ _ hy', fun t ht => plan.dlt _ _ t hy' ht⟩
      rcases ckAll_out (E := E) (self := self) (fn := fn) (n := n) (ops := ops.toList) (ro := ro) (T := TF) (ds := ds) (rc := rc) (k TF ds rc HF) Gs (asks E.P (rows ops.toList)) hasks with ⟨why, h⟩ | ⟨h3, h4⟩
      · rw [h]; trivial
      · rw [h3]
        obtain ⟨Ts, Hs, vs, trc⟩ := tra_trc h1
        have C : Ctx E self n ops fl T H TF HF Gs Ts Hs vs := ⟨plan, trc, h4⟩
        obtain ⟨t, hst⟩ := s_draw (w := w) (cs := cs) (f := fn) (tm := tm) (ds := ds') (kd := kd) (ro := ro') (k := k') (id := id) (ops := ops) hE.mixed
        have hev0 := Ev.drew hr (w.drawn + 1)
        have I : Inv E α n ops fl T Hs vs ρ w (Array.replicate ops.size false) 0 false T tm ρ { w with drawn := w.drawn + 1 } := by
          have hno : ∀ j, (Array.replicate ops.size false).getD j false = false := by
            intro j
            simp only [Array.getD_eq_getD_getElem?, Array.getElem?_replicate]
            split <;> rfl
          refine ⟨by simp, ?_, by omega, ?_, fun e => (by cases e), ?_, fun _ _ => rfl, hT, ?_, fun e => (by cases e)⟩
          · intro j o _ hl; rw [hno] at hl; cases hl
          · intro j o _ _
            rw [hno]
            simp
          · intro j o t _ hl; rw [hno] at hl; cases hl
          · rw [trc.h0]; exact hev0
        have hunl : unl (Array.replicate ops.size false) ops.toList.length ≤ ops.size := by
          unfold unl
          refine Nat.le_trans (List.length_filter_le _ _) ?_
          simp
        obtain ⟨tm', ρ', w', g1, g2, g3⟩ := Inv.go (cs := cs) (fn := fn) C hE ih k' ds' kd ro' ops.size t _ 0 false T tm ρ _ hunl I (fun e => by cases e)
        rw [trc.h0, trc.hN] at g2
        refine Res.of_steps (g1 := inReg fn tm' ops [] k' ds' kd ro') (Steps.head hst g1) g2 (Turned.refl _ _) rfl rfl rfl ?_
        exact hc.go TF ds rc HF tm' ds' w' cs ρ' g2.ext g2.rel g3 (hds.mono g2.ext) (hrc.mono g2.ext)
  · trivial
end
end Go.Twin
