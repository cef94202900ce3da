/- A drawn region: whatever the order, the machine comes to what the order of the text says. -/
import Derived.Test.YtgcdilelbeobmaaGreatDoorTwinDrawC
import Derived.Orders
namespace Go.Twin
open Go

section
variable {E : Env} {self : Self} {n fn : Nat}

/-- the run of the text, by places -/
structure Trc (E : Env) (sf : Self) (L : List Oper) (rest : List Oper) (T : Tr AV) (H : AH) (Gs : List AH) (T' : Tr AV) (H' : AH) (Gs' : List AH) (Ts : Nat → Tr AV) (Hs : Nat → AH) (vs : Nat → AV) : Prop where
  t0 : Ts 0 = T
  h0 : Hs 0 = H
  tN : Ts rest.length = T'
  hN : Hs rest.length = H'
  step : ∀ (j : Nat) (o : Oper), rest[j]? = some o → Step1 E sf L o (Ts j) (Hs j) (vs j) (Hs (j + 1)) ∧ Ts (j + 1) = putT (Ts j) o.dst (vs j)
  keep : ∀ Gs0, Gs = H :: Gs0 → ((∃ pre, Gs' = pre ++ Gs) ∧ Gs'.length = Gs0.length + 1 + cnt E.P rest rest.length) ∧ ∀ j, j ≤ rest.length → Gs'.reverse[Gs0.length + cnt E.P rest j]? = some (Hs j)

theorem tra_trc {L : List Oper} : ∀ {rest : List Oper} {T : Tr AV} {H : AH} {Gs : List AH} {T' : Tr AV} {H' : AH} {Gs' : List AH}, Tra E self L rest T H Gs T' H' Gs' →
    ∃ Ts Hs vs, Trc E self L rest T H Gs T' H' Gs' Ts Hs vs := by
  intro rest
  induction rest with
  | nil =>
    intro T H Gs T' H' Gs' h
    cases h
    refine ⟨fun _ => T, fun _ => H, fun _ => .tu [], rfl, rfl, rfl, rfl, fun j o h => by simp at h, fun Gs0 e => ⟨⟨⟨[], rfl⟩, by subst e; simp [cnt]⟩, fun j hj => ?_⟩⟩
    subst e
    simp [cnt]
  | cons o rest ih =>
    intro T H Gs T' H' Gs' h
    cases h with
    | cons _ _ _ _ _ v H1 _ _ _ h1 h2 =>
      obtain ⟨Ts, Hs, vs, k⟩ := ih h2
      refine ⟨fun j => Nat.rec T (fun j _ => Ts j) j, fun j => Nat.rec H (fun j _ => Hs j) j, fun j => Nat.rec v (fun j _ => vs j) j, rfl, rfl, k.tN, k.hN, ?_, ?_⟩
      · intro j o' ho
        cases j with
        | zero =>
          simp at ho
          subst ho
          exact ⟨by show Step1 E self L o T H v (Hs 0); rw [k.h0]; exact h1, k.t0⟩
        | succ j => exact k.step j o' (by simpa using ho)
      · intro Gs0 e
        subst e
        cases hq : quietOp E.P o.op with
        | true =>
          have hH := Step1_quiet hq h1
          subst hH
          rw [if_pos hq] at h2 k
          obtain ⟨k1, k2⟩ := k.keep Gs0 rfl
          refine ⟨⟨k1.1, by rw [k1.2]; simp [cnt, List.filter_cons, hq]⟩, fun j hj => ?_⟩
          cases j with
          | zero =>
            have := k2 0 (by omega)
            rw [k.h0] at this
            show Gs'.reverse[Gs0.length + cnt E.P (o :: rest) 0]? = some H1
            simpa [cnt] using this
          | succ j =>
            have := k2 j (by simp at hj; omega)
            simpa [cnt, List.filter_cons, hq] using this
        | false =>
          rw [if_neg (by simp [hq])] at h2 k
          obtain ⟨⟨⟨pre, k1⟩, k3⟩, k2⟩ := k.keep (H :: Gs0) rfl
          refine ⟨⟨⟨pre ++ [H1], by rw [k1]; simp⟩, by rw [k3]; simp [cnt, List.filter_cons, hq]; omega⟩, fun j hj => ?_⟩
          cases j with
          | zero =>
            rw [k1]
            simp only [cnt, List.take_zero, List.filter_nil, List.length_nil, Nat.add_zero, List.reverse_append, List.reverse_cons, List.append_assoc]
            rw [List.getElem?_append_right (by simp)]
            simp
            rfl
          | succ j =>
            have := k2 j (by simp at hj; omega)
            have e : Gs0.length + cnt E.P (o :: rest) (j + 1) = (H :: Gs0).length + cnt E.P rest j := by
              simp [cnt, List.filter_cons, hq]; omega
            rw [e]
            exact this

variable {α : Nat → Value} {ρ0 : Rho} {w0 : World} {cs : List Frame}

/-- what stands fast of a drawn region -/
structure Ctx (E : Env) (sf : Self) (n : Nat) (ops : Array Oper) (fl : Nat) (T0 : Tr AV) (H0 : AH) (TF : Tr AV) (HF : AH) (Gs : List AH) (Ts : Nat → Tr AV) (Hs : Nat → AH) (vs : Nat → AV) : Prop where
  plan : Plan E.P n ops.toList fl
  trc : Trc E sf ops.toList ops.toList T0 H0 [H0] TF HF Gs Ts Hs vs
  chk : ∀ x ∈ asks E.P (rows ops.toList), ∀ G ∈ (Gs.drop x.2.1).take x.2.2, ∃ v G', Step1 E sf ops.toList x.1 TF G v G' ∧ ob x.1.dst (putT TF x.1.dst v).get = ob x.1.dst TF.get

section
variable {ops : Array Oper} {fl : Nat} {T0 TF : Tr AV} {H0 HF : AH} {Gs : List AH} {Ts : Nat → Tr AV} {Hs : Nat → AH} {vs : Nat → AV} (C : Ctx E self n ops fl T0 H0 TF HF Gs Ts Hs vs)
include C

theorem Ctx.ts_old : ∀ (j : Nat), j ≤ ops.toList.length → ∀ t, (∀ (i : Nat) (o : Oper), i < j → ops.toList[i]? = some o → o.dst ≠ some t) → (Ts j).get t = T0.get t := by
  intro j
  induction j with
  | zero => intro _ t _; rw [C.trc.t0]
  | succ j ih =>
    intro hj t h
    obtain ⟨o, ho⟩ : ∃ o, ops.toList[j]? = some o := ⟨_, List.getElem?_eq_getElem (by omega)⟩
    rw [(C.trc.step j o ho).2, putT_get, if_neg (h j o (by omega) ho)]
    exact ih (by omega) t fun i o hi => h i o (by omega)
theorem Ctx.ts_new {i : Nat} {o : Oper} {t : Nat} (ho : ops.toList[i]? = some o) (hd : o.dst = some t) : ∀ (j : Nat), j ≤ ops.toList.length → i < j → (Ts j).get t = some (vs i) := by
  intro j
  induction j with
  | zero => intro _ h; omega
  | succ j ih =>
    intro hj hi
    obtain ⟨o', ho'⟩ : ∃ o, ops.toList[j]? = some o := ⟨_, List.getElem?_eq_getElem (by omega)⟩
    rw [(C.trc.step j o' ho').2, putT_get]
    by_cases e : i = j
    · subst e
      rw [ho] at ho'; cases ho'
      rw [if_pos hd]
    · rw [if_neg fun hd' => e (C.plan.duniq i j o o' t ho ho' hd hd')]
      exact ih (by omega) (by omega)
theorem Ctx.quiet {j : Nat} {o : Oper} (ho : ops.toList[j]? = some o) (hq : quietOp E.P o.op = true) : Hs (j + 1) = Hs j := Step1_quiet hq (C.trc.step j o ho).1
/-- no effect between: the same memory -/
theorem Ctx.same {p : Nat} : ∀ (i : Nat), p ≤ i → i ≤ ops.toList.length → (∀ (z : Nat) (o : Oper), p ≤ z → z < i → ops.toList[z]? = some o → quietOp E.P o.op = true) → Hs i = Hs p := by
  intro i
  induction i with
  | zero => intro h _ _; have : p = 0 := by omega
            rw [this]
  | succ i ih =>
    intro h1 h2 h3
    by_cases e : p = i + 1
    · rw [e]
    · obtain ⟨o, ho⟩ : ∃ o, ops.toList[i]? = some o := ⟨_, List.getElem?_eq_getElem (by omega)⟩
      rw [C.quiet ho (h3 i o (by omega) (by omega) ho)]
      exact ih (by omega) (by omega) fun z o hz1 hz2 => h3 z o hz1 (by omega)
theorem Ctx.edge : ∀ j o, ops.toList[j]? = some o → ∀ e ∈ edgesOf o, e < j := C.plan.edge

/-- a quiet operation, at another memory -/
theorem Ctx.quiet_at {i p : Nat} {o : Oper} {T' : Tr AV} (ho : ops.toList[i]? = some o) (hq : quietOp E.P o.op = true) (hp : p ≤ ops.toList.length)
    (hl : ∀ t ∈ looks ops.toList o, (Ts i).get t = T'.get t)
    (hlo : ∀ (y : Nat) (oy : Oper), ops.toList[y]? = some oy → quietOp E.P oy.op = false → testB (anc ops.toList i) y = true → y < p)
    (hhi : ∀ (y : Nat) (oy : Oper), ops.toList[y]? = some oy → quietOp E.P oy.op = false → y < p → testB (anc ops.toList y) i = false)
    (hF : (∀ t i' oi, t ∈ looks ops.toList o → ops.toList[i']? = some oi → oi.dst = some t → testB (anc ops.toList i) i' = true) → ∀ t ∈ looks ops.toList o, TF.get t = T'.get t) :
    Step1 E self ops.toList o T' (Hs p) (vs i) (Hs p) := by
  have hi : i < ops.toList.length := (List.getElem?_eq_some_iff.1 ho).1
  have h1 := (C.trc.step i o ho).1
  rw [C.quiet ho hq] at h1
  have h2 := Step1_loc h1 hl
  cases hpu : pureOp E.P o.op with
  | true => exact Step1_pure hpu h2
  | false =>
    have hmem : ∀ y ∈ effs E.P (rows ops.toList), ops.toList[y.2.1]? = some y.1 ∧ y.2.2 = anc ops.toList y.2.1 ∧ quietOp E.P y.1.op = false := by
      intro y hy
      obtain ⟨g1, g2⟩ := List.mem_filter.1 hy
      exact ⟨(rows_mem g1).1, (rows_mem g1).2, by simpa using g2⟩
    have l1 : loOf E.P (rows ops.toList) (o, i, anc ops.toList i) ≤ cnt E.P ops.toList p := by
      rw [← effs_cnt]
      refine filter_len_mono fun y hy ht => ?_
      obtain ⟨g1, g2, g3⟩ := hmem y hy
      simp only [decide_eq_true_eq]
      exact hlo _ _ g1 g3 ht
    have l2 : cnt E.P ops.toList p ≤ hiOf E.P (rows ops.toList) (o, i, anc ops.toList i) := by
      rw [← effs_cnt]
      refine filter_len_mono fun y hy ht => ?_
      obtain ⟨g1, g2, g3⟩ := hmem y hy
      simp only [decide_eq_true_eq] at ht
      have := hhi _ _ g1 g3 ht
      rw [g2, this]; rfl
    have l3 : loOf E.P (rows ops.toList) (o, i, anc ops.toList i) ≤ cnt E.P ops.toList i := by
      rw [← effs_cnt]
      refine filter_len_mono fun y hy ht => ?_
      simp only [decide_eq_true_eq]
      exact anc_lt C.edge _ _ ht
    have l4 : cnt E.P ops.toList i ≤ hiOf E.P (rows ops.toList) (o, i, anc ops.toList i) := by
      rw [← effs_cnt]
      refine filter_len_mono fun y hy ht => ?_
      obtain ⟨g1, g2, g3⟩ := hmem y hy
      simp only [decide_eq_true_eq] at ht
      cases hb : testB y.2.2 i with
      | false => rfl
      | true =>
        rw [g2] at hb
        have := anc_lt C.edge _ _ hb
        omega
    obtain ⟨⟨_, hGlen⟩, kk⟩ := C.trc.keep [] rfl
    simp only [List.length_nil, Nat.zero_add] at kk hGlen
    rcases C.plan.ask i o ho hq hpu with he | ⟨⟨d, hd⟩, hst⟩
    · have e1 := kk i (by omega)
      have e2 := kk p hp
      have : cnt E.P ops.toList p = cnt E.P ops.toList i := by omega
      rw [this] at e2
      rw [e1] at e2
      have e3 : Hs i = Hs p := by simpa using e2
      rw [← e3]; exact h2
    · by_cases he : loOf E.P (rows ops.toList) (o, i, anc ops.toList i) = hiOf E.P (rows ops.toList) (o, i, anc ops.toList i)
      · have e1 := kk i (by omega)
        have e2 := kk p hp
        have : cnt E.P ops.toList p = cnt E.P ops.toList i := by omega
        rw [this] at e2
        rw [e1] at e2
        have e3 : Hs i = Hs p := by simpa using e2
        rw [← e3]; exact h2
      · have hask : (o, (effs E.P (rows ops.toList)).length - hiOf E.P (rows ops.toList) (o, i, anc ops.toList i), (hiOf E.P (rows ops.toList) (o, i, anc ops.toList i) - loOf E.P (rows ops.toList) (o, i, anc ops.toList i)) + 1) ∈ asks E.P (rows ops.toList) := by
          unfold asks
          refine List.mem_map.2 ⟨(o, i, anc ops.toList i), List.mem_filter.2 ⟨rows_of ho, ?_⟩, rfl⟩
          simp only [hq, hpu, Bool.not_false, Bool.and_self, Bool.true_and]
          have : Nat.beq (loOf E.P (rows ops.toList) (o, i, anc ops.toList i)) (hiOf E.P (rows ops.toList) (o, i, anc ops.toList i)) = false := nat_beq_false he
          rw [this]; rfl
        have hlen : Gs.length = (effs E.P (rows ops.toList)).length + 1 := by
          have hK : cnt E.P ops.toList ops.toList.length = (effs E.P (rows ops.toList)).length := by
            rw [← effs_cnt]
            congr 1
            refine List.filter_eq_self.2 fun y hy => ?_
            have := (List.getElem?_eq_some_iff.1 (hmem y hy).1).1
            simpa using this
          omega
        have hGp : Gs[(effs E.P (rows ops.toList)).length - cnt E.P ops.toList p]? = some (Hs p) := by
          have e2 := kk p hp
          have hlt : cnt E.P ops.toList p < Gs.length := by
            have := (List.getElem?_eq_some_iff.1 e2).1
            simpa using this
          rw [List.getElem?_reverse hlt] at e2
          have : Gs.length - 1 - cnt E.P ops.toList p = (effs E.P (rows ops.toList)).length - cnt E.P ops.toList p := by omega
          rw [this] at e2
          exact e2
        have hhiK : hiOf E.P (rows ops.toList) (o, i, anc ops.toList i) ≤ (effs E.P (rows ops.toList)).length := List.length_filter_le _ _
        have hin : Hs p ∈ (Gs.drop ((effs E.P (rows ops.toList)).length - hiOf E.P (rows ops.toList) (o, i, anc ops.toList i))).take ((hiOf E.P (rows ops.toList) (o, i, anc ops.toList i) - loOf E.P (rows ops.toList) (o, i, anc ops.toList i)) + 1) := by
          refine List.mem_iff_getElem?.2 ⟨hiOf E.P (rows ops.toList) (o, i, anc ops.toList i) - cnt E.P ops.toList p, ?_⟩
          rw [List.getElem?_take, if_pos (by omega), List.getElem?_drop]
          rw [← hGp]
          congr 1
          omega
        obtain ⟨v, G', g1, g2⟩ := C.chk _ hask (Hs p) hin
        have hv : v = vs i := by
          simp only at g2
          rw [hd] at g2
          have e4 : (putT TF (some d) v).get d = TF.get d := g2
          rw [putT_get, if_pos rfl, ← C.trc.tN, C.ts_new ho hd _ (Nat.le_refl _) hi] at e4
          cases e4; rfl
        have hG := Step1_quiet hq g1
        subst hv
        rw [hG] at g1
        exact Step1_loc g1 (hF hst)
end
end
end Go.Twin
