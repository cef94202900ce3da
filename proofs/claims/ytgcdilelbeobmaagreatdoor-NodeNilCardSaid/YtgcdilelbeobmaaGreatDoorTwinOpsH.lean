/- Appending, copying, clearing, turning into strings and back, going over a map. -/
import Derived.Test.YtgcdilelbeobmaaGreatDoorTwinOpsG
namespace Go.Twin
open Go

section
variable {α : Nat → Value} {ρ : Rho} {H H' : AH} {w : World} {P : Program}

theorem app_room {e : TypeId} {i : TypeInfo} {new : List Value} {len n cap' : Nat} {base : Option Addr} {x' : Value} {st ty : TypeId} {rest : List TypeId} {w' : World}
    (hd : P.underlying st = some (.slice e)) (hi : P.info? e = some i) (hrest : ∀ xt r, rest = xt :: r → ∃ d, P.underlying xt = some d ∧ ∀ k, d ≠ .int k)
    (hlen : (Builtin.lenOf x').run P w = .ok n w) (hnew : (Builtin.firstCells i.size n x').run P w = .ok new.toArray w) (hcap : len + n ≤ cap')
    (hst : (match base with | some a => storeCells (a.add (len * i.size)) new | none => pure () : Sem Unit).run P w = .ok () w') :
    (Builtin.append_ ⟨st :: rest⟩ ty ⟨[.slice base len cap', x']⟩).run P w = .ok (.slice base (len + n) cap') w' := by
  have hsz : (sizeOf e).run P w = .ok i.size w := by simp [sizeOf, typeInfo, hi]
  cases rest with
  | nil =>
    simp only [Builtin.append_, List.getElem?_toArray, List.getElem?_cons_zero, List.getElem?_cons_succ, List.getElem?_nil, Sem.run_bind, run_underlying hd, Result.andThen_ok, hsz, Sem.run_pure, Bool.false_eq_true, if_false, hlen, hcap,
      Bool.not_false, if_true, hnew]
    cases base with
    | none => cases hst; rfl
    | some a =>
      simp only at hst
      simp only [Sem.run_bind, hst, Result.andThen_ok, Sem.run_pure]
  | cons xt r =>
    obtain ⟨d, g1, g2⟩ := hrest xt r rfl
    have hm : (match d with | .int _ => true | _ => false) = false := by cases d <;> first | rfl | exact absurd rfl (g2 _)
    simp only [Builtin.append_, List.getElem?_toArray, List.getElem?_cons_zero, List.getElem?_cons_succ, Sem.run_bind, run_underlying hd, run_underlying g1, Result.andThen_ok, hsz, Sem.run_pure, hm, Bool.false_eq_true, if_false, hlen, hcap,
      Bool.not_false, if_true, hnew]
    cases base with
    | none => cases hst; rfl
    | some a =>
      simp only at hst
      simp only [Sem.run_bind, hst, Result.andThen_ok, Sem.run_pure]

theorem rd_get {t : Tr AV} {z : List AV} {zl n : Nat} : ∀ (k off : Nat) (l : List AV), rd t z zl n k off = some l → l.length = k ∧ ∀ j, j < k → cellAt t z zl n (off + j) = l[j]? := by
  intro k
  induction k with
  | zero => intro off l h; have h0 : (some [] : Option (List AV)) = some l := h; cases h0; exact ⟨rfl, fun j hj => by omega⟩
  | succ k ih =>
    intro off l h
    have h' : ob (cellAt t z zl n off) (fun v => ob (rd t z zl n k (off + 1)) fun r => some (v :: r)) = some l := h
    obtain ⟨a, ha, h1⟩ := ob_some.1 h'
    obtain ⟨r, hr, h2⟩ := ob_some.1 h1
    cases h2
    obtain ⟨g1, g2⟩ := ih _ _ hr
    refine ⟨by simp [g1], ?_⟩
    intro j hj
    cases j with
    | zero => simpa using ha
    | succ j =>
      have := g2 j (by omega)
      rw [show off + (j + 1) = off + 1 + j by omega, this]
      simp

/-- the cells of what was appended -/
theorem app_cells {t : Tr AV} {z : List AV} {zl n0 L : Nat} {lo new : List AV} {old new' rest : List Value} (hL : old.length = L) (h0 : VRs α ρ lo old) (h1 : VRs α ρ new new')
    (hold : ∀ j, j < L → cellAt t z zl n0 j = lo[j]?) (hn0 : L ≤ n0) :
    ∀ j a, cellAt (listTr new t L) z zl (L + new.length) j = some a → ∃ v, (old.toArray ++ new'.toArray ++ rest.toArray)[j]? = some v ∧ VR α ρ a v := by
  intro j a h
  have hlt := cellAt_lt h
  have hnl := h1.length
  have hcat : (old.toArray ++ new'.toArray ++ rest.toArray)[j]? = (old ++ new' ++ rest)[j]? := by simp
  rw [hcat]
  by_cases hj : j < L
  · have h2 : cellAt (listTr new t L) z zl (L + new.length) j = cellAt t z zl n0 j := by
      unfold cellAt
      rw [bc_eq, bc_eq, if_pos (by simp only [Nat.blt]; exact Nat.ble_eq_true_of_le (by omega)), if_pos (by simp only [Nat.blt]; exact Nat.ble_eq_true_of_le (by omega)), listTr_get, if_neg (by omega)]
    rw [h2, hold j hj] at h
    obtain ⟨v, hv, hr⟩ := h0.get h
    exact ⟨v, by rw [List.append_assoc, List.getElem?_append_left (by omega)]; exact hv, hr⟩
  · unfold cellAt at h
    rw [bc_eq, if_pos (by simp only [Nat.blt]; exact Nat.ble_eq_true_of_le (by omega)), listTr_get, if_pos (by omega)] at h
    have hjn : j - L < new.length := by omega
    rw [List.getElem?_eq_getElem hjn] at h
    obtain ⟨v, hv, hr⟩ := h1.get (x := a) (i := j - L) (by rw [List.getElem?_eq_getElem hjn]; exact h)
    exact ⟨v, by rw [List.append_assoc, List.getElem?_append_right (by omega), hL, List.getElem?_append_left (by omega)]; exact hv, hr⟩

theorem zeroCells_size (z : Array Value) (n : Nat) : (Builtin.zeroCells z n).size = n * z.size := by simp [Builtin.zeroCells]

theorem cellAt_listTr0 {l : List AV} {N j : Nat} {a : AV} (hN : N = l.length) (h : cellAt (listTr l .leaf 0) [] 0 N j = some a) : l[j]? = some a := by
  have hlt := cellAt_lt h
  subst hN
  unfold cellAt at h
  rw [bc_eq, if_pos (by simp only [Nat.blt]; exact Nat.ble_eq_true_of_le (by omega)), listTr_get, if_pos (by omega)] at h
  rw [Nat.sub_zero, List.getElem?_eq_getElem hlt] at h
  rw [List.getElem?_eq_getElem hlt]
  exact h

/-- what was read of a row lies in its block -/
theorem first_cells {b0 : Nat} {c : Array Value} {eT : TypeId} {fz : Nat × Nat} {base : Addr} {size len cap : Nat} {old : List Value} (hb : w.heap[b0]? = some (.cells c eT fz)) (hbase : base = ⟨b0, base.off, none⟩)
    (h : (Builtin.firstCells size len (.slice (some base) len cap)).run P w = .ok old.toArray w) (hl : old.length = len * size) : ∀ (j : Nat) u, old[j]? = some u → c[base.off + j]? = some u := by
  have h1 : (loadCells base (len * size)).run P w = .ok old.toArray w := h
  have key : ∀ (n i : Nat) (acc r : Array Value), (loadCellsFrom base i n acc).run P w = .ok r w → ∀ j, j < n → c[base.off + i + j]? = r[acc.size + j]? ∧ acc.size + n = r.size ∧ ∀ k, k < acc.size → r[k]? = acc[k]? := by
    intro n
    induction n with
    | zero => intro i acc r _ j hj; omega
    | succ n ih =>
      intro i acc r hr j hj
      have hcell : w.cell? (base.add i) = c[base.off + i]? := by
        rw [hbase, add_none]
        exact cell_of_block hb
      simp only [loadCellsFrom, Sem.run_bind, run_load, hcell] at hr
      cases hq : c[base.off + i]? with
      | none =>
        rw [hq] at hr
        simp only at hr
        have hfar : ∀ x, w.farLoad P (base.add i) (Mode.plain == .atomic) ≠ .ok x := by
          intro x
          rw [hbase, add_none]
          simp only [World.farLoad, hb]
          simp
        cases hfq : w.farLoad P (base.add i) (Mode.plain == .atomic) with
        | ok x => exact absurd hfq (hfar x)
        | error e =>
          rw [hfq] at hr
          simp at hr
      | some u =>
        rw [hq] at hr
        simp only [Result.andThen_ok] at hr
        have h0 : n = 0 ∨ 0 < n := by omega
        rcases h0 with h0 | h0
        · subst h0
          simp only [loadCellsFrom, Sem.run_pure, Result.ok.injEq, and_true] at hr
          subst hr
          have : j = 0 := by omega
          subst this
          refine ⟨by simp [hq], by simp, fun k hk => ?_⟩
          rw [Array.getElem?_push, if_neg (by omega)]
        · obtain ⟨g1, g2, g3⟩ := ih (i + 1) (acc.push u) r hr 0 h0
          simp only [Array.size_push] at g1 g2 g3
          refine ⟨?_, by omega, fun k hk => ?_⟩
          · cases j with
            | zero =>
              rw [Nat.add_zero, hq, Nat.add_zero, g3 acc.size (by omega)]
              simp
            | succ j =>
              obtain ⟨k1, _, _⟩ := ih (i + 1) (acc.push u) r hr j (by omega)
              rw [show base.off + i + (j + 1) = base.off + (i + 1) + j by omega, k1]
              simp only [Array.size_push]
              rw [show acc.size + 1 + j = acc.size + (j + 1) by omega]
          · rw [g3 k (by omega), Array.getElem?_push, if_neg (by omega)]
  intro j u hu
  have hj : j < len * size := by have := (List.getElem?_eq_some_iff.1 hu).1; omega
  obtain ⟨k1, _, _⟩ := key (len * size) 0 #[] old.toArray h1 j hj
  rw [Nat.add_zero] at k1
  rw [k1]
  simpa using hu

/-- stores of cells side by side, in the model alone -/
theorem store_run {b N : Nat} {e : TypeId} {fz : Nat × Nat} (hfz : ∀ j, j < N → ¬ (fz.1 ≤ j ∧ j < fz.2)) : ∀ (vs : List Value) (i o : Nat) (c : Array Value) (w : World), (∀ v ∈ vs, oneCell v) → c.size = N →
    w.heap[b]? = some (.cells c e fz) → o + i + vs.length ≤ N →
    ∃ w' c', (storeCells ⟨b, o, none⟩ vs i).run P w = .ok () w' ∧ w'.heap[b]? = some (.cells c' e fz) ∧ c'.size = N ∧ (∀ j, c'[j]? = if o + i ≤ j ∧ j < o + i + vs.length then vs[j - (o + i)]? else c[j]?) ∧
      (∀ b', b' ≠ b → w'.heap[b']? = w.heap[b']?) ∧ w'.heap.size = w.heap.size ∧ w'.os = w.os ∧ w'.tape = w.tape ∧ w'.output = w.output := by
  intro vs
  induction vs with
  | nil =>
    intro i o c w _ hs hb _
    exact ⟨w, c, rfl, hb, hs, fun j => by rw [if_neg (by simp)], fun _ _ => rfl, rfl, rfl, rfl, rfl⟩
  | cons v vs ih =>
    intro i o c w h1 hs hb hle
    simp only [List.length_cons] at hle
    have hone : v.oneCell' = true := by
      have := h1 v (by simp)
      cases v <;> simp_all [oneCell, Value.oneCell']
    have hlt : o + i < c.size := by omega
    have hcell : w.cell? ⟨b, o + i, none⟩ = c[o + i]? := cell_of_block hb
    have hfr : w.frozen? ⟨b, o + i, none⟩ = false := by
      simp only [World.frozen?, hb]
      have := hfz (o + i) (by omega)
      simp only [not_and, Bool.and_eq_false_iff, decide_eq_false_iff_not] at this ⊢
      by_cases hq : fz.1 ≤ o + i
      · exact .inr (this hq)
      · exact .inl hq
    have hst : (store ((⟨b, o, none⟩ : Addr).add i) v).run P w = .ok () (w.setCell ⟨b, o + i, none⟩ v) := by
      rw [add_none, run_store P w _ v _ hone, hcell, Array.getElem?_eq_getElem hlt]
      simp [hfr]
    obtain ⟨k1, k2, k3⟩ := setCell_heap (o := o + i) v hb
    obtain ⟨w', c', r1, r2, r3, r4, r5, r6, r7, r8, r9⟩ := ih (i + 1) o _ _ (fun u hu => h1 u (by simp [hu])) (by simpa using hs) k1 (by omega)
    refine ⟨w', c', ?_, r2, r3, ?_, fun b' hb' => (r5 b' hb').trans (k2 b' hb'), r6.trans k3, r7, r8, r9⟩
    · simp only [storeCells, Sem.run_bind, hst, Result.andThen_ok, r1]
    · intro j
      rw [r4]
      by_cases hj : j = o + i
      · subst hj
        rw [if_neg (by omega), if_pos (by simp)]
        simp [hlt]
      · by_cases hj2 : o + (i + 1) ≤ j ∧ j < o + (i + 1) + vs.length
        · rw [if_pos hj2, if_pos (by simp; omega)]
          rw [show j - (o + i) = (j - (o + (i + 1))) + 1 by omega]
          simp
        · rw [if_neg hj2, if_neg (by simp; omega), Array.getElem?_setIfInBounds_ne (by omega)]

/-- what an append does in the model, there being room or not -/
def AppRoom (P : Program) (w : World) (st : TypeId) (rest : List TypeId) (ty : TypeId) (x' : Value) (size n : Nat) (new' : List Value) : Prop :=
  ∀ (base : Option Addr) (len cap' : Nat) (w' : World), len + n ≤ cap' →
    (match base with | some a => storeCells (a.add (len * size)) new' | none => pure () : Sem Unit).run P w = .ok () w' →
    (Builtin.append_ ⟨st :: rest⟩ ty ⟨[.slice base len cap', x']⟩).run P w = .ok (.slice base (len + n) cap') w'
def AppGrow (P : Program) (w : World) (st : TypeId) (rest : List TypeId) (ty : TypeId) (x' : Value) (e : TypeId) (z' : Value) (size bytes n : Nat) (new' : List Value) : Prop :=
  ∀ (base : Option Addr) (len cap' : Nat) (old : List Value), (Builtin.firstCells size len (.slice base len cap')).run P { w with drawn := w.drawn + 1 } = .ok old.toArray { w with drawn := w.drawn + 1 } →
    ¬ len + n ≤ cap' → (2 * (len + n)) * bytes ≤ 35184372088832 → len + n < 1000000000000 →
    ∃ nc, len + n ≤ nc ∧ (Builtin.append_ ⟨st :: rest⟩ ty ⟨[.slice base len cap', x']⟩).run P w =
      .ok (.slice (some ⟨w.heap.size, 0, none⟩) (len + n) nc) { w with drawn := w.drawn + 1, heap := w.heap.push (.cells (old.toArray ++ new'.toArray ++ Builtin.zeroCells z'.cells (nc - (len + n))) e) }

theorem mul_one_ne {a b : Nat} (h : a * b ≠ 0) : 0 < a := by
  rcases Nat.eq_zero_or_pos a with e | e
  · rw [e] at h; simp at h
  · exact e

/-- the block that an append makes: the cells of both, one behind the other -/
theorem appNew_cells (_hr : Rel α ρ H w) {id off len cap wd size n : Nat} {s' : Value} {old new : List AV} {v : AV} (hs : VR α ρ (.sl id off len cap wd) s') (hold : firstA H size len (.sl id off len cap wd) = some old)
    (hnl : new.length = n * size) (h : appNew H (.sl id off len cap wd) size (len + n) old new = some (v, H')) :
    ∃ t0 z0 zl0 n0 T z1 zl1, H.t.get id = some (.cells t0 z0 zl0 n0) ∧
      (v, H') = (AV.sl H.next 0 (len + n) (len + n) size, (⟨(bc (Nat.beq wd 0) H (H.drop id)).t.put H.next (some (.cells T z1 zl1 ((len + n) * size))), H.next + 1⟩ : AH)) ∧
      ∀ (old' new' : List Value), VRs α ρ old old' → VRs α ρ new new' → ∀ j a, cellAt T z1 zl1 ((len + n) * size) j = some a → ∃ v, (old' ++ new')[j]? = some v ∧ VR α ρ a v := by
  have hnext : (bc (Nat.beq wd 0) H (H.drop id)).next = H.next := by rw [bc_eq]; split <;> rfl
  unfold appNew at h
  simp only at h
  obtain ⟨B, hB, h2⟩ := ob_some.1 h
  clear h
  have h := h2
  clear h2
  split at h
  · rename_i t z zl n0
    rw [bc_eq, bc_eq] at h
    split at h
    · rename_i hoff
      have hoff' : off = 0 := Nat.eq_of_beq_eq_true hoff
      subst hoff'
      split at h
      · rename_i hn0
        have hn0' : len * size ≤ n0 := Nat.le_of_ble_eq_true hn0
        rw [newA_eq] at h
        cases h
        refine ⟨t, z, zl, n0, _, _, _, hB, by rw [hnext]; rfl, ?_⟩
        intro old' new' h1 h2 j a hc
        have hol : ∀ j, j < len * size → cellAt t z zl n0 j = old[j]? := by
          unfold firstA at hold
          simp only at hold
          rw [bc_eq] at hold
          split at hold
          · rename_i hb
            have := Nat.eq_of_beq_eq_true hb
            intro j hj
            rw [show len.mul size = len * size from rfl] at this
            omega
          · obtain ⟨B2, hB2, hold⟩ := ob_some.1 hold
            rw [hB] at hB2; cases hB2
            simp only at hold
            obtain ⟨_, k2⟩ := rd_get _ _ _ ((rdF_eq _ _ _ _ _ _).symm.trans hold)
            intro j hj
            have := k2 j hj
            rwa [Nat.zero_add] at this
        have hll : old.length = len * size := by
          unfold firstA at hold
          simp only at hold
          rw [bc_eq] at hold
          split at hold
          · rename_i hb
            cases hold
            exact (Nat.eq_of_beq_eq_true hb).symm
          · obtain ⟨B2, hB2, hold⟩ := ob_some.1 hold
            rw [hB] at hB2; cases hB2
            simp only at hold
            exact (rd_get _ _ _ ((rdF_eq _ _ _ _ _ _).symm.trans hold)).1
        have hc' : cellAt (listTr new t (len * size)) z zl (len * size + new.length) j = some a := by rw [hnl, ← Nat.add_mul]; exact hc
        obtain ⟨u, hu, hur⟩ := app_cells (L := len * size) (rest := []) (by rw [← h1.length, hll]) h1 h2 hol hn0' j a hc'
        exact ⟨u, by simpa using hu, hur⟩
      · cases h
    · rw [newA_eq] at h
      cases h
      refine ⟨t, z, zl, n0, _, _, _, hB, by rw [hnext]; rfl, ?_⟩
      intro old' new' h1 h2 j a hc
      have hll : old.length = len * size := by
        unfold firstA at hold
        simp only at hold
        rw [bc_eq] at hold
        split at hold
        · rename_i hb
          cases hold
          exact (Nat.eq_of_beq_eq_true hb).symm
        · obtain ⟨B2, hB2, hold⟩ := ob_some.1 hold
          rw [hB] at hB2; cases hB2
          simp only at hold
          exact (rd_get _ _ _ ((rdF_eq _ _ _ _ _ _).symm.trans hold)).1
      have := cellAt_listTr0 (by rw [List.length_append, hll, hnl, ← Nat.add_mul]) hc
      exact (h1.append h2).get this
  · cases h

theorem app_zeros {st xt ty e : TypeId} {r : List TypeId} {k k' : IntKind} {i : TypeInfo} {z' : Value} {n : Nat} (hd : P.underlying st = some (.slice e)) (hi : P.info? e = some i)
    (hxt : P.underlying xt = some (.int k')) (hz : i.zero = some z') (hzs : z'.cells.size = i.size) (hsz : i.size ≠ 0) (hn : n < 1000000000000) (hnb : n * i.bytes ≤ 281474976710656) (hb : 0 < i.bytes) :
    AppRoom P w st (xt :: r) ty (.int k (.ofNat n)) i.size n (Builtin.zeroCells z'.cells n).toList ∧ AppGrow P w st (xt :: r) ty (.int k (.ofNat n)) e z' i.size i.bytes n (Builtin.zeroCells z'.cells n).toList := by
  have hinf : ∀ w' : World, (typeInfo e).run P w' = .ok i w' := fun w' => by simp [typeInfo, hi]
  have hszr : ∀ w' : World, (sizeOf e).run P w' = .ok i.size w' := fun w' => by simp [sizeOf, hinf]
  have hzero : ∀ w' : World, (zeroValue e).run P w' = .ok z' w' := fun w' => by simp [zeroValue, hinf, hz]
  have hwrap : IntKind.i64.wrap (Int.ofNat n) = (n : Int) := by
    rw [← wr_eq]
    have : Nat.blt n (lim .i64) = true := Nat.ble_eq_true_of_le (by simp only [lim]; omega)
    simp only [wr, this, cond_true]
    rfl
  have hneg : ¬ ((n : Int) < 0) := by omega
  have hbig : ¬ ((n : Int) * (i.bytes : Int) > 2 ^ 48) := by
    have : (n : Int) * (i.bytes : Int) = ((n * i.bytes : Nat) : Int) := by simp
    rw [this]; omega
  have hap : ∀ w' : World, (if n * i.size = 0 then pure #[] else do pure (Builtin.zeroCells (← zeroValue e).cells n) : Sem (Array Value)).run P w' = .ok (Builtin.zeroCells z'.cells n) w' := by
    intro w'
    by_cases h0 : n * i.size = 0
    · have hn0 : n = 0 := by
        rcases Nat.mul_eq_zero.1 h0 with h | h
        · exact h
        · exact absurd h hsz
      rw [if_pos h0, hn0]
      simp [Builtin.zeroCells]
    · rw [if_neg h0]
      simp only [Sem.run_bind, hzero, Result.andThen_ok, Sem.run_pure]
  constructor
  · intro base len cap' w' hcap hst
    simp only [Builtin.append_, List.getElem?_toArray, List.getElem?_cons_zero, List.getElem?_cons_succ, Sem.run_bind, run_underlying hd, run_underlying hxt, Result.andThen_ok, hszr, Sem.run_pure, if_true, asInt, asIntOf, hwrap, hneg, if_false, hinf, hbig, Int.toNat_natCast, hcap,
      Bool.not_true, Bool.false_eq_true]
    rw [hap]
    simp only [Result.andThen_ok]
    cases base with
    | none => cases hst; rfl
    | some a =>
      simp only at hst
      simp only [Sem.run_bind, hst, Result.andThen_ok, Sem.run_pure]
  · intro base len cap' old hold hcap hlim hsm
    refine ⟨(len + n) + (w.tape w.drawn (.appendCap (len + n) cap' e)) % (2 ^ 63 - (len + n)), by omega, ?_⟩
    have hbound : ¬ (Builtin.nextslicecap (len + n) cap' * i.bytes > 2 ^ 48) := by
      have h1 := nextcap_le (len + n) cap' (by omega)
      have h2 : Builtin.nextslicecap (len + n) cap' * i.bytes ≤ (2 * (len + n)) * i.bytes := Nat.mul_le_mul_right _ h1
      omega
    have hov : ¬ (((len + n : Nat) : Int) > IntKind.i64.max) := by
      have : IntKind.i64.max = 9223372036854775807 := by decide
      rw [this]; omega
    simp only [Builtin.append_, List.getElem?_toArray, List.getElem?_cons_zero, List.getElem?_cons_succ, Sem.run_bind, run_underlying hd, run_underlying hxt, Result.andThen_ok, hszr, Sem.run_pure, if_true, asInt, asIntOf, hwrap, hneg, if_false, hinf, hbig, Int.toNat_natCast, hcap,
      hov, hbound, false_and, Bool.not_true, Bool.false_eq_true, run_choose, Question.forced, Question.cut, run_askRoom]
    rw [hold]
    simp only [Result.andThen_ok]
    rw [hap]
    simp only [Result.andThen_ok, hzero, newRow, Sem.run_bind, run_newObj, Sem.run_pure, Array.toArray_toList]

theorem appGo_sound (hr : Rel α ρ H w) {st : TypeId} {rest : List TypeId} {ty : TypeId} {s : AV} {s' x' : Value} {v : AV} {e : TypeId} {z' : Value} {size bytes n : Nat} {new : List AV} {new' new2 : List Value} (hs : VR α ρ s s')
    (hsz : size ≠ 0) (hzs : z'.cells.size = size) (hroomM : AppRoom P w st rest ty x' size n new') (hgrowM : AppGrow P w st rest ty x' e z' size bytes n new2) (hf2 : VRs α ρ new new') (kf2 : VRs α ρ new new2) (hnl' : new.length = n * size)
    (h : appGo H bytes size s n new = some (v, H')) : EV P α ρ H w (Builtin.append_ ⟨st :: rest⟩ ty ⟨[s', x']⟩) v H' := by
  have hr1 : Rel α ρ H { w with drawn := w.drawn + 1 } := hr.drew _
  have hlimit : ∀ k : Nat, Nat.ble (Nat.mul (Nat.mul 2 k) bytes) 35184372088832 = true → (2 * k) * bytes ≤ 35184372088832 := fun k e => Nat.le_of_ble_eq_true e
  have hsmall : ∀ k : Nat, Nat.blt k 1000000000000 = true → k < 1000000000000 := fun k e => Nat.le_of_ble_eq_true e
  have hnl2 : new'.length = n * size := by rw [← hf2.length, hnl']
  have hnl3 : new2.length = n * size := by rw [← kf2.length, hnl']
  unfold appGo at h
  split at h
  · -- nothing yet
    cases hs
    rw [bc_eq, bc_eq, bc_eq] at h
    split at h
    · rename_i hn0
      have hn0' : n = 0 := Nat.eq_of_beq_eq_true hn0
      cases h
      refine ⟨.slice none 0 0, w, ρ, ?_, Ev.refl hr, .nils⟩
      have := hroomM none 0 0 w (by omega) rfl
      rw [this, hn0']
    · rename_i hn0
      have hn0' : n ≠ 0 := fun e => hn0 (by rw [e]; rfl)
      split at h
      · rename_i hl1
        split at h
        · rename_i hl2
          have hl1' := hlimit n hl1
          obtain ⟨nc, g1, g2⟩ := hgrowM none 0 0 [] (by simp [Builtin.firstCells]) (by omega) (by simpa using hl1') (by have := hsmall n hl2; omega)
          have h' : newA H (.cells (listTr new .leaf 0) [] 0 (n * size)) (fun k => .sl k 0 n n size) = some (v, H') := h
          rw [newA_eq] at h'
          cases h'
          have hcs : (([] : List Value).toArray ++ new2.toArray ++ Builtin.zeroCells z'.cells (nc - (0 + n))).size = nc * size := by
            rw [Array.size_append, Array.size_append, zeroCells_size, hzs]
            simp only [List.size_toArray, List.length_nil, Nat.zero_add]
            rw [hnl3, ← Nat.add_mul]
            congr 1
            omega
          refine ⟨_, _, _, g2, (Ev.drew hr (w.drawn + 1)).trans (Ev.new hr1 _ _ (nc * size) (.cells _ _ _ _ _ _ _ _ _ _ ?_ hcs ?_ (by simp))), ?_⟩
          · intro j a hc
            have hlt := cellAt_lt hc
            have := cellAt_listTr0 hnl'.symm hc
            obtain ⟨u, hu, hur⟩ := kf2.get this
            refine ⟨u, ?_, hur.mono (upd_le (hr1.fresh _ (Nat.le_refl _)))⟩
            rw [Nat.add_zero, Array.getElem?_append_left (by simp; omega)]
            simpa using hu
          · rw [Nat.add_zero]; exact Nat.mul_le_mul_right _ (by omega)
          · rw [Nat.zero_add]
            exact .sl _ _ _ _ _ ⟨_, 0, _⟩ 0 _ (upd_self _ _ _) (Nat.le_refl _) (by omega) (fun e => absurd e hsz) (.inl rfl) (.inr (.inr (by simp)))
        · cases h
      · cases h
  · -- a slice
    rename_i id off len cap wd
    cases hs with
    | sl _ _ _ _ _ lo o cap' q1 q2 q3 q4 q5 q6 =>
      rw [sN_eq] at h
      rw [bc_eq, bc_eq, bc_eq, bc_eq] at h
      have ho : ∀ k, 0 < k → k ≤ cap → o = off + lo.sh := by intro k h1 h2; omega
      split at h
      · -- there is room
        rename_i hroom
        have hroom' : len + n ≤ cap := Nat.le_of_ble_eq_true hroom
        split at h
        · rename_i hnz
          have hnz' : n * size = 0 := Nat.eq_of_beq_eq_true hnz
          cases h
          have hnew0 : new' = [] := List.eq_nil_of_length_eq_zero (by rw [hnl2, hnz'])
          subst hnew0
          exact ⟨_, w, ρ, hroomM _ _ _ w (by omega) rfl, Ev.refl hr, .sl _ _ _ _ _ _ _ _ q1 hroom' q3 q4 q5 q6⟩
        · rename_i hnz
          have hnz' : n * size ≠ 0 := fun e => hnz (by rw [show n.mul size = n * size from rfl, e]; rfl)
          have hnpos : 0 < n := mul_one_ne hnz'
          have hoo := ho (len + n) (by omega) hroom'
          subst hoo
          obtain ⟨H1, h1, h2⟩ := ob_some.1 h
          cases h2
          obtain ⟨lo', w', k1, k2, k3⟩ := wrAt_sound (P := P) hr h1 hf2
          rw [q1] at k1; cases k1
          refine ⟨_, w', ρ, hroomM _ _ _ w' (by omega) ?_, k3, .sl _ _ _ _ _ _ _ _ q1 hroom' q3 q4 q5 q6⟩
          simp only [add_none]
          rw [show off + lo.sh + len * size = off + len * size + lo.sh by omega]
          exact k2
      · -- there is none that is known
        rename_i hroom
        have hroom' : ¬ len + n ≤ cap := fun e => hroom (Nat.ble_eq_true_of_le e)
        split at h
        · rename_i hl1
          split at h
          · rename_i hl2
            obtain ⟨old, hold, h⟩ := ob_some.1 h
            rw [bc_eq] at h
            split at h
            · rename_i hwd
              have hl1' := hlimit _ hl1
              have hl2' := hsmall _ hl2
              have hneed : (len.add n) = len + n := rfl
              rw [hneed] at hl1' hl2' h
              obtain ⟨t0, z0, zl0, n0, T, z1, zl1, hB, hres, hcell⟩ := appNew_cells (new := new) hr (VR.sl _ _ _ _ _ _ o cap' q1 q2 q3 q4 q5 q6) hold (by rw [hnl']) h
              have hs' : VR α ρ (.sl id off len cap wd) (.slice (some ⟨lo.b, o, none⟩) len cap') := .sl _ _ _ _ _ _ _ _ q1 q2 q3 q4 q5 q6
              by_cases hcap : len + n ≤ cap'
              · have hwd0 : wd ≠ 0 := fun e => by have := q4 e; omega
                rw [bc_eq, if_neg (by intro e; exact hwd0 (Nat.eq_of_beq_eq_true e)), Bool.and_eq_true] at hwd
                obtain ⟨hw1, hw2⟩ := hwd
                have hwd1 : wd = size := Nat.eq_of_beq_eq_true hw1
                have hN : o + cap' * size = lo.N := by rw [← hwd1]; omega
                obtain ⟨old', m1, m2, m3, _⟩ := first_sound (P := P) hr hs' rfl (Nat.le_refl _) hold
                have m3' := m3 (by intro s e; cases e)
                obtain ⟨l', ob', b1, b2, b3⟩ := hr.blk id _ hB
                rw [q1] at b1; cases b1
                cases b3 with
                | cells _ _ _ _ c eT fz b sh N c1 c2 c3 c4 =>
                  have hle : o + len * size + new'.length ≤ N := by
                    have : (len + n) * size ≤ cap' * size := Nat.mul_le_mul_right _ hcap
                    rw [Nat.add_mul] at this
                    simp only at hN
                    omega
                  have hone : ∀ u ∈ new', oneCell u := by
                    intro u hu
                    obtain ⟨j, hj, hju⟩ := List.mem_iff_getElem.1 hu
                    have hjn : j < new.length := by rw [hf2.length]; exact hj
                    obtain ⟨u', hu', hur⟩ := hf2.get (List.getElem?_eq_getElem hjn)
                    rw [List.getElem?_eq_getElem hj] at hu'
                    cases hu'
                    rw [hju] at hur
                    exact hur.one (List.all_eq_true.1 hw2 _ (List.getElem_mem hjn))
                  obtain ⟨w', c', r1, r2, r3, r4, r5, r6, r7, r8, r9⟩ := store_run (P := P) c4 new' 0 (o + len * size) c w hone c2 b2 (by omega)
                  have hfirst := first_cells (P := P) b2 rfl m1 m3'
                  have hrun := hroomM (some ⟨b, o, none⟩) len cap' w' hcap (by simp only [add_none]; exact r1)
                  have e0 : (bc (Nat.beq wd 0) H (H.drop id)) = H.drop id := by rw [bc_eq, if_neg (by intro e; exact hwd0 (Nat.eq_of_beq_eq_true e))]
                  rw [e0] at hres
                  cases hres
                  refine ⟨_, w', _, hrun, Ev.renew hr hB q1 r6 r2 r5 r7 r8 r9 o (.cells _ _ _ _ c' eT fz b o N ?_ r3 ?_ c4), .sl _ _ _ _ _ ⟨b, o, N⟩ o cap' (upd_self _ _ _) (Nat.le_refl _) hcap (fun e => absurd e hsz) (.inl (by simp)) (.inr (.inr hN))⟩
                  · intro j a hc
                    obtain ⟨u, hu, hur⟩ := hcell old' new' m2 hf2 j a hc
                    refine ⟨u, ?_, hur.mono (upd_le (hr.fresh _ (Nat.le_refl _)))⟩
                    rw [r4]
                    have hjlt : j < (old' ++ new').length := (List.getElem?_eq_some_iff.1 hu).1
                    rw [List.length_append] at hjlt
                    by_cases hj : j < len * size
                    · rw [if_neg (by omega), Nat.add_comm]
                      rw [List.getElem?_append_left (by omega)] at hu
                      exact hfirst j u hu
                    · rw [if_pos (by omega)]
                      rw [List.getElem?_append_right (by omega), m3'] at hu
                      rw [← hu]; congr 1; omega
                  · rw [Nat.add_mul]; omega
              · obtain ⟨old', m1, m2, m3, _⟩ := first_sound (P := P) hr1 hs' rfl (Nat.le_refl _) hold
                have m3' := m3 (by intro s e; cases e)
                obtain ⟨nc, g1, g2⟩ := hgrowM (some ⟨lo.b, o, none⟩) len cap' old' m1 hcap hl1' hl2'
                have hcs : (old'.toArray ++ new2.toArray ++ Builtin.zeroCells z'.cells (nc - (len + n))).size = nc * size := by
                  rw [Array.size_append, Array.size_append, zeroCells_size, hzs]
                  simp only [List.size_toArray]
                  rw [m3', hnl3, ← Nat.add_mul, ← Nat.add_mul]
                  congr 1
                  omega
                have hbr : ∀ ρ' : Rho, ρ.le ρ' → BR α ρ' (.cells T z1 zl1 ((len + n) * size)) (.cells (old'.toArray ++ new2.toArray ++ Builtin.zeroCells z'.cells (nc - (len + n))) e) ⟨w.heap.size, 0, nc * size⟩ := by
                  intro ρ' hle
                  refine .cells _ _ _ _ _ _ _ _ _ _ ?_ hcs ?_ (by simp)
                  · intro j a hc
                    obtain ⟨u, hu, hur⟩ := hcell old' new2 m2 kf2 j a hc
                    refine ⟨u, ?_, hur.mono hle⟩
                    have hjlt : j < (old' ++ new2).length := (List.getElem?_eq_some_iff.1 hu).1
                    rw [List.length_append] at hjlt
                    rw [Nat.add_zero, Array.getElem?_append_left (by simp; omega)]
                    simpa using hu
                  · rw [Nat.add_zero]; exact Nat.mul_le_mul_right _ (by omega)
                have hv : ∀ ρ' : Rho, ρ' H.next = some ⟨w.heap.size, 0, nc * size⟩ → VR α ρ' (.sl H.next 0 (len + n) (len + n) size) (.slice (some ⟨w.heap.size, 0, none⟩) (len + n) nc) := by
                  intro ρ' h1
                  exact .sl _ _ _ _ _ ⟨_, 0, _⟩ 0 _ h1 (Nat.le_refl _) (by omega) (fun e => absurd e hsz) (.inl rfl) (.inr (.inr (by simp)))
                rw [bc_eq] at hres
                split at hres
                · cases hres
                  exact ⟨_, _, _, g2, (Ev.drew hr (w.drawn + 1)).trans (Ev.new hr1 _ _ (nc * size) (hbr _ (upd_le (hr1.fresh _ (Nat.le_refl _))))), hv _ (upd_self _ _ _)⟩
                · cases hres
                  have hd1 := Ev.drop hr1 id
                  exact ⟨_, _, _, g2, ((Ev.drew hr (w.drawn + 1)).trans hd1).trans (Ev.new hd1.rel _ _ (nc * size) (hbr _ (upd_le (hr1.fresh _ (Nat.le_refl _))))), hv _ (upd_self _ _ _)⟩
            · cases h
          · cases h
        · cases h
  · cases h

theorem append_sound (hr : Rel α ρ H w) {ts : List TypeId} {ty : TypeId} {args : List AV} {args' : List Value} {v : AV} (ha : VRs α ρ args args') (h : appendA P H ts args = some (v, H')) :
    EV P α ρ H w (Builtin.append_ ⟨ts⟩ ty ⟨args'⟩) v H' := by
  unfold appendA at h
  split at h
  · rename_i st rest s x
    cases ha with
    | cons _ s' _ l1 hs ha => cases ha with
      | cons _ x' _ l2 hx ha =>
        cases ha
        split at h
        · rename_i e hd
          obtain ⟨i, hi, h⟩ := ob_some.1 h
          rw [bc_eq, bc_eq] at h
          split at h
          · cases h
          · rename_i hsz0
            split at h
            · cases h
            · rename_i hby0
              obtain ⟨z, hz, h⟩ := ob_some.1 h
              rw [bc_eq] at h
              split at h
              · rename_i hzl
                obtain ⟨⟨n, new⟩, hsrc, h⟩ := ob_some.1 h
                have hsz : i.size ≠ 0 := fun e => hsz0 (by rw [e]; rfl)
                have hby : i.bytes ≠ 0 := fun e => hby0 (by rw [e]; rfl)
                have hzl' : (cellsOf z).length = i.size := Nat.eq_of_beq_eq_true hzl
                obtain ⟨z', hz1, hz2⟩ : ∃ z', i.zero = some z' ∧ VR α ρ z z' := by
                  unfold zeroB at hz
                  rw [hi] at hz
                  simp only at hz
                  split at hz
                  · rename_i v0 hv0; exact ⟨v0, hv0, ofConst_sound hz⟩
                  · cases hz
                have hzs : z'.cells.size = i.size := by rw [← hzl', hz2.cells.length, Array.length_toList]
                rw [bc_eq] at h
                split at h
                · rename_i hnl
                  have hnl' : new.length = n * i.size := ((lenL_eq _).symm.trans (Nat.eq_of_beq_eq_true hnl))
                  unfold appSrc at hsrc
                  rw [bc_eq] at hsrc
                  split at hsrc
                  · split at hsrc
                    · rename_i xt r
                      split at hsrc
                      · rename_i k k' m hxt
                        rw [bc_eq, bc_eq] at hsrc
                        split at hsrc
                        · rename_i hm1
                          split at hsrc
                          · rename_i hm2
                            cases hsrc
                            cases hx
                            have hm1' : n < 1000000000000 := Nat.le_of_ble_eq_true hm1
                            have hm2' : n * i.bytes ≤ 281474976710656 := Nat.le_of_ble_eq_true hm2
                            have hv := zeros_vrs hz2.cells n (fun e0 => absurd (hzs.symm.trans e0) hsz)
                            obtain ⟨k1, k2⟩ := app_zeros (P := P) (w := w) (ty := ty) hd hi (by assumption) hz1 hzs hsz hm1' hm2' (by omega)
                            have hv' : ((Array.range (n * (cellsOf z).length)).map fun i => z'.cells[i % z'.cells.size]!).toList = (Builtin.zeroCells z'.cells n).toList := by
                              unfold Builtin.zeroCells
                              rw [hzs, hzl']
                            rw [hv'] at hv
                            exact appGo_sound hr hs hsz hzs k1 k2 hv hv hnl' h
                          · cases hsrc
                        · cases hsrc
                      · cases hsrc
                    · cases hsrc
                  · rename_i hrest0
                    obtain ⟨n', hn, hsrc⟩ := ob_some.1 hsrc
                    obtain ⟨new1, hnew, hsrc⟩ := ob_some.1 hsrc
                    cases hsrc
                    have hrest : ∀ xt r, rest = xt :: r → ∃ d, P.underlying xt = some d ∧ ∀ k, d ≠ .int k := by
                      intro xt r e
                      subst e
                      simp only [restBad] at hrest0
                      cases hq : P.underlying xt with
                      | none => rw [hq] at hrest0; simp [isIntD] at hrest0
                      | some d =>
                        rw [hq] at hrest0
                        refine ⟨d, rfl, fun k e => ?_⟩
                        subst e
                        simp [isIntD] at hrest0
                    have hlen := lenOf_sound (P := P) (w := w) hx hn
                    obtain ⟨new', hf1, hf2, hf3, hf4⟩ := first_sound (P := P) hr hx hn (Nat.le_refl _) hnew
                    obtain ⟨new2, kf1, kf2, kf3, kf4⟩ := first_sound (P := P) (hr.drew (w.drawn + 1)) hx hn (Nat.le_refl _) hnew
                    exact appGo_sound hr hs hsz hzs (fun base len cap' w' h1 h2 => app_room hd hi hrest hlen hf1 h1 h2)
                      (fun base len cap' old h1 h2 h3 h4 => app_grow hd hi hz1 hrest hlen h1 kf1 h2 (by omega) h3 h4) hf2 kf2 hnl' h
                · cases h
              · cases h
        · cases h
  · cases h
end
end Go.Twin
