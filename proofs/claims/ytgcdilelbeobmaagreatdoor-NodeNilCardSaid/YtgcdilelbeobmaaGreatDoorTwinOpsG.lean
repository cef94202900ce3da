/- Appending, copying, going over a map. -/
import Derived.Test.YtgcdilelbeobmaaGreatDoorTwinOpsF
import Derived.Laws.BytesString
import Derived.Laws.BytesArg
namespace Go.Twin
open Go

section
variable {α : Nat → Value} {ρ : Rho} {H H' : AH} {w : World} {P : Program}

/-- A block under a new number, its place in the model's block another one. -/
theorem Ev.renew {w' : World} (h : Rel α ρ H w) {id : Nat} {B B' : Blk} {l : Loc} {o' : Obj} (hB : H.t.get id = some B) (hl : ρ id = some l) (hw : w'.heap.size = w.heap.size)
    (ho : w'.heap[l.b]? = some o') (hne : ∀ b, b ≠ l.b → w'.heap[b]? = w.heap[b]?) (hos : w'.os = w.os) (ht : w'.tape = w.tape) (hout : w'.output = w.output) (sh : Nat)
    (hb : BR α (upd ρ H.next ⟨l.b, sh, l.N⟩) B' o' ⟨l.b, sh, l.N⟩) : Ev α ρ H w (upd ρ H.next ⟨l.b, sh, l.N⟩) ⟨(H.drop id).t.put H.next (some B'), H.next + 1⟩ w' := by
  have hf := h.fresh H.next (Nat.le_refl _)
  have hle : ρ.le (upd ρ H.next ⟨l.b, sh, l.N⟩) := upd_le hf
  have hidn : id ≠ H.next := by intro e; rw [e, hf] at hl; cases hl
  have hother : ∀ j Bj lj, H.t.get j = some Bj → ρ j = some lj → j ≠ id → lj.b ≠ l.b := fun j Bj lj e1 e2 hj e => hj (h.inj j id Bj B lj l e1 hB e2 hl e)
  refine ⟨⟨?_, ?_, ?_⟩, hle, by omega, hos, ht, hout, ?_, ?_⟩
  · intro j Bj e
    simp only [AH.drop, Tr.get_put] at e
    by_cases hj : j = H.next
    · rw [if_pos hj] at e; cases e
      exact ⟨⟨l.b, sh, l.N⟩, o', by rw [hj]; exact upd_self _ _ _, ho, hb⟩
    · rw [if_neg hj] at e
      by_cases hj2 : j = id
      · rw [if_pos hj2] at e; cases e
      · rw [if_neg hj2] at e
        obtain ⟨lj, oj, f1, f2, f3⟩ := h.blk j Bj e
        exact ⟨lj, oj, hle _ _ f1, by rw [hne _ (hother j Bj lj e f1 hj2)]; exact f2, f3.mono hle⟩
  · intro i j Bi Bj li lj e1 e2 f1 f2 e
    simp only [AH.drop, Tr.get_put] at e1 e2
    unfold upd at f1 f2
    by_cases hi : i = H.next <;> by_cases hj : j = H.next
    · rw [hi, hj]
    · rw [if_pos hi] at f1; rw [if_neg hj] at f2 e2; cases f1
      by_cases hj2 : j = id
      · rw [if_pos hj2] at e2; cases e2
      · rw [if_neg hj2] at e2
        exact absurd e.symm (hother j Bj lj e2 f2 hj2)
    · rw [if_neg hi] at f1 e1; rw [if_pos hj] at f2; cases f2
      by_cases hi2 : i = id
      · rw [if_pos hi2] at e1; cases e1
      · rw [if_neg hi2] at e1
        exact absurd e (hother i Bi li e1 f1 hi2)
    · rw [if_neg hi] at f1 e1; rw [if_neg hj] at f2 e2
      by_cases hi2 : i = id
      · rw [if_pos hi2] at e1; cases e1
      by_cases hj2 : j = id
      · rw [if_pos hj2] at e2; cases e2
      rw [if_neg hi2] at e1; rw [if_neg hj2] at e2
      exact h.inj i j Bi Bj li lj e1 e2 f1 f2 e
  · intro j hj
    simp only at hj
    unfold upd
    rw [if_neg (by omega)]
    exact h.fresh j (by omega)
  · intro b _ hn
    exact hne b (fun e => hn id B l hB hl e.symm)
  · intro j Bj lj e1 e2 _
    simp only [AH.drop, Tr.get_put] at e1
    unfold upd at e2
    by_cases hj : j = H.next
    · rw [if_pos hj] at e2; cases e2
      exact ⟨id, B, l, hB, hl, rfl⟩
    · rw [if_neg hj] at e1 e2
      by_cases hj2 : j = id
      · rw [if_pos hj2] at e1; cases e1
      · rw [if_neg hj2] at e1
        exact ⟨j, Bj, lj, e1, e2, rfl⟩

/-- how long a source is; what it holds -/
theorem lenOf_sound {x : AV} {x' : Value} {n : Nat} (hx : VR α ρ x x') (h : lenOfA x = some n) : (Builtin.lenOf x').run P w = .ok n w := by
  unfold lenOfA at h
  split at h
  · cases h; cases hx; rfl
  · cases h; cases hx; rfl
  · cases h
    cases hx with
    | s _ bs e =>
      have hsz : bs.size = (strOf bs).length := by simp only [strOf, List.length_map, Array.length_toList]; rfl
      rw [← e, ← hsz]; rfl
  · cases h
theorem first_sound (hr : Rel α ρ H w) {x : AV} {x' : Value} {n m size : Nat} {l : List AV} (hx : VR α ρ x x') (hn : lenOfA x = some m) (hnm : n ≤ m) (h : firstA H size n x = some l) :
    ∃ vs : List Value, (Builtin.firstCells size n x').run P w = .ok vs.toArray w ∧ VRs α ρ l vs ∧ ((∀ s, x ≠ .s s) → vs.length = n * size) ∧ ((∃ s, x = .s s) → vs.length = n) := by
  unfold firstA at h
  split at h
  · cases h; cases hn; cases hx
    have : n = 0 := by omega
    subst this
    exact ⟨[], rfl, .nil, fun _ => by simp, fun ⟨s, e⟩ => by cases e⟩
  · rename_i id off len cap wd
    cases hn
    cases hx with
    | sl _ _ _ _ _ lo o cap' q1 q2 q3 q4 q5 q6 =>
      rw [bc_eq] at h
      split at h
      · rename_i hb
        cases h
        have h0 : n * size = 0 := Nat.eq_of_beq_eq_true hb
        refine ⟨[], ?_, .nil, fun _ => by simp [h0], fun ⟨s, e⟩ => by cases e⟩
        show (loadCells _ (n * size)).run P w = _
        rw [h0]; rfl
      · rename_i hb
        have h0 : n * size ≠ 0 := fun e => hb (by rw [show n.mul size = n * size from rfl, e]; rfl)
        have hn0 : 0 < n := by
          rcases Nat.eq_zero_or_pos n with e | e
          · rw [e] at h0; simp at h0
          · exact e
        obtain ⟨lo', vs, g1, g2, g3, g4⟩ := rdAt_sound hr h
        rw [q1] at g1; cases g1
        have ho : o = off + lo.sh := by omega
        subst ho
        have := run_loadCells_list (P := P) w ⟨lo.b, off + lo.sh, none⟩ vs g4
        rw [g3] at this
        exact ⟨vs, this, g2, fun _ => g3, fun ⟨s, e⟩ => by cases e⟩
  · rename_i s
    cases h; cases hn
    cases hx with
    | s _ bs e =>
      refine ⟨((bs.extract 0 n).data.map fun b => Value.int .u8 b.toNat).toList, by simp only [Builtin.firstCells, Array.toArray_toList]; rfl, ?_, fun hne => absurd rfl (hne _), fun _ => ?_⟩
      · have he : (bs.extract 0 n).data.toList = bs.data.toList.take n := by
          rw [ByteArray.data_extract, Array.toList_extract]; simp
        rw [Array.toList_map, he, ← e]
        unfold strOf
        generalize bs.data.toList = q
        have : ∀ (q : List UInt8) (n : Nat), VRs α ρ (((q.map UInt8.toNat).take n).map fun c => AV.i .u8 (.ofNat c)) ((q.take n).map fun b => Value.int .u8 b.toNat) := by
          intro q
          induction q with
          | nil => intro n; simpa using VRs.nil
          | cons c q ih =>
            intro n
            cases n with
            | zero => simpa using VRs.nil
            | succ n => exact .cons _ _ _ _ (.i _ _) (ih n)
        exact this q n
      · have hsz : bs.size = (strOf bs).length := by simp only [strOf, List.length_map, Array.length_toList]; rfl
        rw [Array.toList_map, List.length_map, Array.length_toList, ByteArray.data_extract, Array.size_extract]
        have : bs.data.size = bs.size := rfl
        rw [this, hsz, e]
        omega
  · cases h

theorem growBy_le (newLen : Nat) : ∀ (r c : Nat), c ≤ 2 * newLen → 256 ≤ newLen → Builtin.growBy newLen r c ≤ 2 * newLen := by
  intro r
  induction r with
  | zero => intro c h _; exact h
  | succ r ih =>
    intro c h hk
    unfold Builtin.growBy
    split
    · exact h
    · exact ih _ (by omega) hk
theorem nextcap_le (need cap : Nat) (h : cap < need) : Builtin.nextslicecap need cap ≤ 2 * need := by
  unfold Builtin.nextslicecap
  split
  · omega
  · split
    · omega
    · exact growBy_le _ _ _ (by omega) (by omega)

/-- what an append to a full slice comes to, in the model -/
theorem app_grow {e : TypeId} {i : TypeInfo} {z' : Value} {old new : List Value} {len n cap' : Nat} {base : Option Addr} {x' : Value} {st ty : TypeId} {rest : List TypeId}
    (hd : P.underlying st = some (.slice e)) (hi : P.info? e = some i) (hz : i.zero = some z') (hrest : ∀ xt r, rest = xt :: r → ∃ d, P.underlying xt = some d ∧ ∀ k, d ≠ .int k)
    (hlen : (Builtin.lenOf x').run P w = .ok n w) (hold : (Builtin.firstCells i.size len (.slice base len cap')).run P { w with drawn := w.drawn + 1 } = .ok old.toArray { w with drawn := w.drawn + 1 })
    (hnew : (Builtin.firstCells i.size n x').run P { w with drawn := w.drawn + 1 } = .ok new.toArray { w with drawn := w.drawn + 1 }) (hcap : ¬ len + n ≤ cap') (hb : 0 < i.bytes) (hlim : (2 * (len + n)) * i.bytes ≤ 35184372088832)
    (hsm : len + n < 1000000000000) :
    ∃ nc, len + n ≤ nc ∧ (Builtin.append_ ⟨st :: rest⟩ ty ⟨[.slice base len cap', x']⟩).run P w =
      .ok (.slice (some ⟨w.heap.size, 0, none⟩) (len + n) nc) { w with drawn := w.drawn + 1, heap := w.heap.push (.cells (old.toArray ++ new.toArray ++ Builtin.zeroCells z'.cells (nc - (len + n))) e) } := by
  refine ⟨(len + n) + (w.tape w.drawn (.appendCap (len + n) cap' e)) % (2 ^ 63 - (len + n)), by omega, ?_⟩
  have hbound : ¬ (Builtin.nextslicecap (len + n) cap' * i.bytes > 2 ^ 48) := by
    have h1 := nextcap_le (len + n) cap' (by omega)
    have h2 : Builtin.nextslicecap (len + n) cap' * i.bytes ≤ (2 * (len + n)) * i.bytes := Nat.mul_le_mul_right _ h1
    omega
  have hinf : ∀ w' : World, (typeInfo e).run P w' = .ok i w' := fun w' => by simp [typeInfo, hi]
  have hsz : ∀ w' : World, (sizeOf e).run P w' = .ok i.size w' := fun w' => by simp [sizeOf, hinf]
  have hzero : ∀ w' : World, (zeroValue e).run P w' = .ok z' w' := fun w' => by simp [zeroValue, hinf, hz]
  have hmax : ¬ (((len + n : Nat) : Int) > IntKind.i64.max ∧ (false = true ∨ i.bytes = 0)) := by
    rintro ⟨_, h | h⟩
    · cases h
    · omega
  have hov : ¬ (((len + n : Nat) : Int) > IntKind.i64.max) := by
    have : IntKind.i64.max = 9223372036854775807 := by decide
    rw [this]; omega
  have hbz : ¬ (i.bytes = 0) := by omega
  have hstep : (Builtin.append_ ⟨st :: rest⟩ ty ⟨[.slice base len cap', x']⟩).run P w = (do
      let newCap ← choose (.appendCap (len + n) cap' e)
      askRoom (newCap * (← typeInfo e).bytes)
      let old ← Builtin.firstCells i.size len (.slice base len cap')
      let new ← Builtin.firstCells i.size n x'
      let rest := Builtin.zeroCells (← zeroValue e).cells (newCap - (len + n))
      pure (.slice (some (← newRow e (old ++ new ++ rest))) (len + n) newCap) : Sem Value).run P w := by
    cases rest with
    | nil =>
      simp only [Builtin.append_, List.getElem?_toArray, List.getElem?_cons_zero, List.getElem?_cons_succ, List.getElem?_nil, Sem.run_bind, run_underlying hd, Result.andThen_ok, hsz, Sem.run_pure, Bool.false_eq_true, if_false, hlen, hcap,
        hinf, hov, hbz, hbound, false_or, and_false, Bool.not_false, if_true]
    | cons xt r =>
      obtain ⟨d, g1, g2⟩ := hrest xt r rfl
      have hm : (match d with | .int _ => true | _ => false) = false := by cases d <;> first | rfl | exact absurd rfl (g2 _)
      simp only [Builtin.append_, List.getElem?_toArray, List.getElem?_cons_zero, List.getElem?_cons_succ, Sem.run_bind, run_underlying hd, run_underlying g1, Result.andThen_ok, hsz, Sem.run_pure, hm, Bool.false_eq_true, if_false, hlen, hcap,
        hinf, hov, hbz, hbound, false_or, and_false, Bool.not_false, if_true]
  rw [hstep]
  simp only [Sem.run_bind, run_choose, Question.forced, Bool.false_eq_true, if_false, Result.andThen_ok, Question.cut, hinf, run_askRoom]
  rw [hold]
  simp only [Result.andThen_ok]
  rw [hnew]
  simp only [Result.andThen_ok, hzero, newRow, Sem.run_bind, run_newObj, Sem.run_pure]
end
end Go.Twin
