/- A drawn region: what its plan says, what its run in the order of the text says. -/
import Derived.Test.YtgcdilelbeobmaaGreatDoorTwinDrawB
namespace Go.Twin
open Go

theorem testB_eq (m i : Nat) : testB m i = m.testBit i := by
  unfold testB
  rw [Nat.testBit_eq_decide_div_mod_eq]
  show Nat.beq (m / 2 ^ i % 2) 1 = _
  rw [Bool.eq_iff_iff]
  simp

theorem fold_bit (g : Nat → Nat) (i : Nat) : ∀ (l : List Nat) (s : Nat), (l.foldl (fun s e => s ||| (2 ^ e ||| g e)) s).testBit i = true ↔ s.testBit i = true ∨ ∃ e ∈ l, e = i ∨ (g e).testBit i = true := by
  intro l
  induction l with
  | nil => intro s; simp
  | cons a l ih =>
    intro s
    simp only [List.foldl_cons]
    rw [ih]
    simp only [Nat.testBit_or, Nat.testBit_two_pow, Bool.or_eq_true, decide_eq_true_eq, List.mem_cons, exists_eq_or_imp]
    constructor
    · rintro ((h | h) | h)
      · exact .inl h
      · exact .inr (.inl h)
      · exact .inr (.inr h)
    · rintro (h | h | h)
      · exact .inl (.inl h)
      · exact .inl (.inr h)
      · exact .inr h
theorem fold_congr {g g' : Nat → Nat} : ∀ (l : List Nat) (s : Nat), (∀ e ∈ l, g e = g' e) → l.foldl (fun s e => s ||| (2 ^ e ||| g e)) s = l.foldl (fun s e => s ||| (2 ^ e ||| g' e)) s := by
  intro l
  induction l with
  | nil => intro s _; rfl
  | cons a l ih =>
    intro s h
    simp only [List.foldl_cons]
    rw [h a (by simp)]
    exact ih _ fun e he => h e (by simp [he])

theorem ancGo_len : ∀ (r : List Oper) (M : List Nat), (ancGo r M).length = M.length + r.length := by
  intro r
  induction r with
  | nil => intro M; simp [ancGo]
  | cons o r ih => intro M; simp only [ancGo]; rw [ih]; simp; omega
theorem getD_append_lt {M : List Nat} {x e : Nat} (h : e < M.length) : (M ++ [x]).getD e 0 = M.getD e 0 := by
  simp only [List.getD_eq_getElem?_getD]
  rw [List.getElem?_append_left h]
theorem ancGo_pre : ∀ (r : List Oper) (M : List Nat) (e : Nat), e < M.length → (ancGo r M).getD e 0 = M.getD e 0 := by
  intro r
  induction r with
  | nil => intro M e _; rfl
  | cons o r ih =>
    intro M e h
    simp only [ancGo]
    rw [ih _ e (by simp; omega), getD_append_lt h]
theorem ancGo_spec : ∀ (r : List Oper) (M : List Nat) (j : Nat) (o : Oper), r[j]? = some o → (∀ e ∈ edgesOf o, e < M.length + j) →
    (ancGo r M).getD (M.length + j) 0 = (edgesOf o).foldl (fun s e => s ||| (2 ^ e ||| (ancGo r M).getD e 0)) 0 := by
  intro r
  induction r with
  | nil => intro M j o h; simp at h
  | cons a r ih =>
    intro M j o h he
    cases j with
    | zero =>
      simp at h
      subst h
      have hlt : M.length < (M ++ [(edgesOf a).foldl (fun s e => s ||| (2 ^ e ||| M.getD e 0)) 0]).length := by simp
      have e1 : (ancGo (a :: r) M).getD M.length 0 = (edgesOf a).foldl (fun s e => s ||| (2 ^ e ||| M.getD e 0)) 0 := by
        simp only [ancGo]
        rw [ancGo_pre _ _ _ hlt]
        simp [List.getD_eq_getElem?_getD]
      rw [Nat.add_zero, e1]
      refine fold_congr _ _ fun e hx => ?_
      have := he e hx
      simp only [ancGo]
      rw [ancGo_pre _ _ _ (by simp; omega), getD_append_lt (by omega)]
    | succ j =>
      have hl : (M ++ [(edgesOf a).foldl (fun s e => s ||| (2 ^ e ||| M.getD e 0)) 0]).length + j = M.length + (j + 1) := by simp; omega
      have := ih (M ++ [(edgesOf a).foldl (fun s e => s ||| (2 ^ e ||| M.getD e 0)) 0]) j o (by simpa using h) (fun e hx => by have := he e hx; omega)
      rw [hl] at this
      exact this

/-- what is before an operation -/
def anc (L : List Oper) (j : Nat) : Nat := (ancs L).getD j 0

section
variable {L : List Oper}
theorem anc_bit {i j : Nat} {o : Oper} (ho : L[j]? = some o) (he : ∀ e ∈ edgesOf o, e < j) (h : testB (anc L j) i = true) : ∃ e ∈ edgesOf o, e = i ∨ testB (anc L e) i = true := by
  rw [testB_eq] at h
  have := ancGo_spec L [] j o ho (fun e hx => by simpa using he e hx)
  simp only [List.length_nil, Nat.zero_add] at this
  unfold anc ancs at h
  rw [this, fold_bit] at h
  rcases h with h | ⟨e, h1, h2⟩
  · simp at h
  · refine ⟨e, h1, h2.imp id fun h => ?_⟩
    rw [testB_eq]; exact h
theorem anc_out {j : Nat} (h : L[j]? = none) (i : Nat) : testB (anc L j) i = false := by
  have : (ancs L)[j]? = none := by
    rw [List.getElem?_eq_none_iff] at h ⊢
    unfold ancs; rw [ancGo_len]; simpa using h
  unfold anc
  rw [List.getD_eq_getElem?_getD, this, testB_eq]
  simp
variable (hE : ∀ j o, L[j]? = some o → ∀ e ∈ edgesOf o, e < j)
include hE
theorem anc_lt : ∀ (j i : Nat), testB (anc L j) i = true → i < j := by
  intro j
  induction j using Nat.strongRecOn with
  | _ j ih =>
    intro i h
    cases ho : L[j]? with
    | none => rw [anc_out ho] at h; cases h
    | some o =>
      obtain ⟨e, h1, h2⟩ := anc_bit ho (hE j o ho) h
      have h3 := hE j o ho e h1
      rcases h2 with rfl | h2
      · exact h3
      · have := ih e h3 i h2; omega
theorem anc_closed {S : Nat → Prop} (hS : ∀ j o, L[j]? = some o → S j → ∀ e ∈ edgesOf o, S e) : ∀ (j i : Nat), testB (anc L j) i = true → (∀ o, L[j]? = some o → ∀ e ∈ edgesOf o, S e) → S i := by
  intro j
  induction j using Nat.strongRecOn with
  | _ j ih =>
    intro i h hj
    cases ho : L[j]? with
    | none => rw [anc_out ho] at h; cases h
    | some o =>
      obtain ⟨e, h1, h2⟩ := anc_bit ho (hE j o ho) h
      have h3 := hj o ho e h1
      rcases h2 with rfl | h2
      · exact h3
      · exact ih e (hE j o ho e h1) i h2 fun o' ho' => hS e o' ho' h3
end

theorem rows_mem {L : List Oper} {x : Row} (h : x ∈ rows L) : L[x.2.1]? = some x.1 ∧ x.2.2 = anc L x.2.1 := by
  unfold rows at h
  obtain ⟨y, h1, h2⟩ := List.mem_map.1 h
  obtain ⟨k, hk⟩ := List.mem_iff_getElem?.1 h1
  rw [List.getElem?_zip_eq_some] at hk
  obtain ⟨k1, k2⟩ := hk
  rw [List.getElem?_zipIdx] at k1
  cases ho : L[k]? with
  | none => rw [ho] at k1; cases k1
  | some o =>
    rw [ho] at k1
    simp at k1
    subst h2
    rw [← k1]
    refine ⟨ho, ?_⟩
    unfold anc
    rw [List.getD_eq_getElem?_getD, k2]; rfl
theorem rows_of {L : List Oper} {j : Nat} {o : Oper} (h : L[j]? = some o) : (o, j, anc L j) ∈ rows L := by
  unfold rows
  refine List.mem_map.2 ⟨((o, j), anc L j), ?_, rfl⟩
  refine List.mem_iff_getElem?.2 ⟨j, ?_⟩
  rw [List.getElem?_zip_eq_some]
  refine ⟨by rw [List.getElem?_zipIdx, h]; simp, ?_⟩
  have hj : j < L.length := (List.getElem?_eq_some_iff.1 h).1
  have : j < (ancs L).length := by unfold ancs; rw [ancGo_len]; simpa using hj
  unfold anc
  rw [List.getD_eq_getElem?_getD, List.getElem?_eq_getElem this]; rfl

/-- how many effects there are among the first so many -/
def cnt (P : Program) (L : List Oper) (j : Nat) : Nat := ((L.take j).filter fun o => !quietOp P o.op).length
theorem rows_cnt (P : Program) : ∀ (L : List Oper) (s : Nat) (A : List Nat) (q : Nat), A.length = L.length →
    ((((L.zipIdx s).zip A).map fun x => (x.1.1, x.1.2, x.2)).filter fun x : Row => !quietOp P x.1.op && decide (x.2.1 < q)).length = cnt P L (q - s) := by
  intro L
  induction L with
  | nil => intro s A q _; simp [cnt]
  | cons o L ih =>
    intro s A q hA
    cases A with
    | nil => simp at hA
    | cons a A =>
      have := ih (s + 1) A q (by simpa using hA)
      simp only [List.zipIdx_cons, List.zip_cons_cons, List.map_cons, List.filter_cons]
      by_cases hq : s < q
      · obtain ⟨m, hm⟩ : ∃ m, q - s = m + 1 := ⟨q - s - 1, by omega⟩
        have hm' : q - (s + 1) = m := by omega
        rw [hm'] at this
        rw [hm]
        simp only [cnt, List.take_succ_cons, List.filter_cons]
        cases hqu : quietOp P o.op with
        | true => simp only [cnt] at this; simpa using this
        | false => simp [hq]; exact this
      · have hm : q - s = 0 := by omega
        have hm' : q - (s + 1) = 0 := by omega
        rw [hm'] at this
        rw [hm]
        simp only [cnt, List.take_zero, List.filter_nil, List.length_nil] at this ⊢
        rw [if_neg (by simp [hq])]
        exact this
theorem effs_cnt (P : Program) (L : List Oper) (q : Nat) : ((effs P (rows L)).filter fun x => decide (x.2.1 < q)).length = cnt P L q := by
  have := rows_cnt P L 0 (ancs L) q (by unfold ancs; rw [ancGo_len]; simp)
  unfold effs
  rw [List.filter_filter]
  rw [Nat.sub_zero] at this
  rw [← this]
  unfold rows
  congr 1
  refine List.filter_congr fun x _ => ?_
  rw [Bool.and_comm]
theorem filter_len_mono {β : Type} {p q : β → Bool} : ∀ {l : List β}, (∀ x ∈ l, p x = true → q x = true) → (l.filter p).length ≤ (l.filter q).length := by
  intro l
  induction l with
  | nil => intro _; simp
  | cons a l ih =>
    intro h
    have := ih fun x hx => h x (by simp [hx])
    simp only [List.filter_cons]
    have h1 := h a (by simp)
    cases hp : p a with
    | true => rw [h1 hp]; simp; exact this
    | false =>
      cases hq : q a with
      | true => simp; omega
      | false => simpa using this
theorem filter_len_le {β : Type} {p : β → Bool} (l : List β) : (l.filter p).length ≤ l.length := List.length_filter_le p l

structure Plan (P : Program) (n : Nat) (L : List Oper) (fl : Nat) : Prop where
  edge : ∀ (j : Nat) (o : Oper), L[j]? = some o → ∀ e ∈ edgesOf o, e < j
  dlt : ∀ (j : Nat) (o : Oper) (t : Nat), L[j]? = some o → o.dst = some t → t < n
  duniq : ∀ (i j : Nat) (oi oj : Oper) (t : Nat), L[i]? = some oi → L[j]? = some oj → oi.dst = some t → oj.dst = some t → i = j
  mild : ∀ (j : Nat) (o : Oper), L[j]? = some o → mildOp o.op = true
  look : ∀ (i j : Nat) (oi oj : Oper) (t : Nat), L[j]? = some oj → t ∈ looks L oj → L[i]? = some oi → oi.dst = some t → testB (anc L j) i = true ∨ testB (anc L i) j = true
  eff : ∀ (i j : Nat) (oi oj : Oper), L[i]? = some oi → L[j]? = some oj → i < j → quietOp P oi.op = false → quietOp P oj.op = false → testB (anc L j) i = true ∨ j = fl
  flo : ∀ o : Oper, L[fl]? = some o → isAlloc o.op = true ∧ o.guard = none ∧ (∃ t, o.dst = some t) ∧
    ∀ (y z : Nat) (oy oz : Oper), L[y]? = some oy → testB (anc L y) fl = true → L[z]? = some oz → quietOp P oz.op = false → z < fl → testB (anc L y) z = true
  ask : ∀ (j : Nat) (o : Oper), L[j]? = some o → quietOp P o.op = true → pureOp P o.op = false → loOf P (rows L) (o, j, anc L j) = hiOf P (rows L) (o, j, anc L j) ∨
    ((∃ t, o.dst = some t) ∧ ∀ (t i : Nat) (oi : Oper), t ∈ looks L o → L[i]? = some oi → oi.dst = some t → testB (anc L j) i = true)

theorem plan_of {P : Program} {n : Nat} {L : List Oper} (h : planOK P n L = true) : ∃ fl, Plan P n L fl := by
  unfold planOK at h
  simp only [Bool.and_eq_true] at h
  obtain ⟨⟨⟨h1, h2⟩, h3⟩, h4⟩ := h
  rw [List.all_eq_true] at h1 h2 h4
  have hrow : ∀ j o, L[j]? = some o → rowOK P L n (rows L) (o, j, anc L j) = true := fun j o ho => h1 _ (rows_of ho)
  unfold rowOK at hrow
  simp only [Bool.and_eq_true] at hrow
  have dstne : ∀ {u t : Nat} {od : Option Nat}, od = some t → (match od with | none => true | some u' => !Nat.beq u' u) = true → t ≠ u := by
    intro u t od e hh e2
    subst e2; rw [e] at hh
    simp [Nat.beq_refl] at hh
  refine ⟨findFloat P (rows L), ?_, ?_, ?_, ?_, ?_, ?_, ?_, ?_⟩
  · intro j o ho e he
    have := (hrow j o ho).1.1.1
    rw [List.all_eq_true] at this
    exact blt_lt (this e he)
  · intro j o t ho hd
    have := (hrow j o ho).1.1.2
    rw [hd] at this
    simp only [Bool.and_eq_true] at this
    exact blt_lt this.1
  · intro i j oi oj t hi hj hdi hdj
    have := (hrow j oj hj).1.1.2
    rw [hdj] at this
    simp only [Bool.and_eq_true] at this
    have := List.all_eq_true.1 this.2 _ (rows_of hi)
    simp only [Bool.or_eq_true] at this
    rcases this with h | h
    · exact Nat.eq_of_beq_eq_true h
    · exact absurd rfl (dstne hdi h)
  · intro j o ho
    exact (hrow j o ho).1.2
  · intro i j oi oj t hj ht hi hd
    have := (hrow j oj hj).2
    have := List.all_eq_true.1 this t ht
    have := List.all_eq_true.1 this _ (rows_of hi)
    simp only [Bool.or_eq_true] at this
    rcases this with (h | h) | h
    · exact absurd rfl (dstne hd h)
    · exact .inl h
    · exact .inr h
  · intro i j oi oj hi hj hij hqi hqj
    have := h2 _ (rows_of hj)
    unfold effOK at this
    simp only [Bool.or_eq_true] at this
    rcases this with h | h
    · rw [hqj] at h; cases h
    · have := List.all_eq_true.1 h _ (rows_of hi)
      simp only [Bool.or_eq_true] at this
      rcases this with ((h | h) | h) | h
      · rw [hqi] at h; cases h
      · rw [show Nat.blt i j = true from Nat.ble_eq_true_of_le hij] at h; cases h
      · exact .inl h
      · exact .inr (Nat.eq_of_beq_eq_true h).symm
  · intro o ho
    unfold floatOK at h3
    have := List.all_eq_true.1 h3 _ (rows_of ho)
    simp only [Bool.or_eq_true, Bool.and_eq_true, Nat.beq_refl, Bool.not_true, Bool.false_eq_true, false_or] at this
    obtain ⟨⟨⟨k1, k2⟩, k3⟩, k4⟩ := this
    refine ⟨k1, by simpa using k2, Option.isSome_iff_exists.1 k3, ?_⟩
    intro y z oy oz hy hyf hz hqz hlt
    have := List.all_eq_true.1 k4 _ (rows_of hy)
    simp only [Bool.or_eq_true] at this
    rcases this with h | h
    · rw [hyf] at h; cases h
    · have := List.all_eq_true.1 h _ (rows_of hz)
      simp only [Bool.or_eq_true] at this
      rcases this with (h | h) | h
      · rw [hqz] at h; cases h
      · rw [show Nat.blt z (findFloat P (rows L)) = true from Nat.ble_eq_true_of_le hlt] at h; cases h
      · exact h
  · intro j o ho hq hp
    have := h4 _ (rows_of ho)
    simp only [hq, hp, Bool.or_eq_true, Bool.and_eq_true, Bool.not_true, Bool.not_false, Bool.and_self, Bool.false_eq_true, false_or] at this
    rcases this with h | ⟨h5, h6⟩
    · exact .inl (Nat.eq_of_beq_eq_true h)
    · refine .inr ⟨Option.isSome_iff_exists.1 h5, ?_⟩
      intro t i oi ht hi hd
      have := List.all_eq_true.1 h6 t ht
      have := List.all_eq_true.1 this _ (rows_of hi)
      simp only [Bool.or_eq_true] at this
      rcases this with h | h
      · exact absurd rfl (dstne hd h)
      · exact h
end Go.Twin
