/- What an operation looks at: its operands alone; a quiet one leaves the memory. -/
import Derived.Test.YtgcdilelbeobmaaGreatDoorTwinGoA
namespace Go.Twin
open Go

theorem obs_congr {α β : Type} {f g : α → Option β} : ∀ {l : List α}, (∀ a ∈ l, f a = g a) → obs f l = obs g l := by
  intro l
  induction l with
  | nil => intro _; rfl
  | cons a l ih =>
    intro h
    show ob (f a) (fun b => ob (obs f l) fun r => some (b :: r)) = ob (g a) (fun b => ob (obs g l) fun r => some (b :: r))
    rw [h a (by simp), ih (fun x hx => h x (by simp [hx]))]
section
variable {P : Program} {T T' : Tr AV} {H G : AH}
theorem ev_loc {x : Operand} (h : ∀ t, x = .tmp t → T.get t = T'.get t) : ev T x = ev T' x := by
  cases x with
  | tmp t => simp only [ev]; rw [h t rfl]
  | _ => rfl
theorem evs_loc {l : List Operand} (h : ∀ x ∈ l, ev T x = ev T' x) : evs T l = evs T' l := obs_congr h
theorem parts_loc {l : List (Nat × Operand)} (h : ∀ x ∈ l.map (·.2), ev T x = ev T' x) : partsA T l = partsA T' l := by
  unfold partsA
  refine obs_congr fun a ha => ?_
  rw [h a.2 (List.mem_map.2 ⟨a, ha, rfl⟩)]
theorem opt_loc {o : Option Operand} (h : ∀ x ∈ o.toList, ev T x = ev T' x) : opt T o = opt T' o := by
  cases o with
  | none => rfl
  | some x => simp only [opt]; rw [h x (by simp)]

theorem evalOp_loc {op : Op} (h : ∀ x ∈ op.operands.toList, ev T x = ev T' x) : evalOp P T H op = evalOp P T' H op := by
  cases op with
  | build t ps =>
    simp only [Op.operands, List.toList_toArray] at h
    simp only [evalOp]; rw [parts_loc h]
  | buildSlice t n ps =>
    simp only [Op.operands, List.toList_toArray] at h
    simp only [evalOp]; rw [parts_loc h]
  | makeFunc fn a c =>
    simp only [Op.operands, Array.toList_append, List.mem_append] at h
    simp only [evalOp]; rw [evs_loc fun x hx => h x (.inl hx), evs_loc fun x hx => h x (.inr hx)]
  | makeMap t r => cases r <;> rfl
  | slice t x l hi m =>
    simp only [Op.operands, Array.toList_append, List.mem_append] at h
    simp only [evalOp]
    rw [h x (by simp), opt_loc (fun y hy => h y (.inl (.inl (.inr (by simpa using hy))))), opt_loc (fun y hy => h y (.inl (.inr (by simpa using hy)))), opt_loc (fun y hy => h y (.inr (by simpa using hy)))]
  | call c =>
    obtain ⟨cl, as, ts⟩ := c
    simp only [Op.operands, Call.operands, Array.toList_append, List.mem_append] at h
    simp only [evalOp, callA]
    rw [evs_loc fun x hx => h x (.inr hx)]
    cases cl with
    | value f => dsimp only; rw [h f (.inl (by simp))]
    | invoke f n => dsimp only; rw [h f (.inl (by simp))]
    | builtin b => rfl
  | defer c =>
    obtain ⟨cl, as, ts⟩ := c
    simp only [Op.operands, Call.operands, Array.toList_append, List.mem_append] at h
    simp only [evalOp, deferA]
    rw [evs_loc fun x hx => h x (.inr hx)]
    cases cl with
    | value f => dsimp only; rw [h f (.inl (by simp))]
    | invoke f n => rfl
    | builtin b => rfl
  | _ => first | rfl | (simp [Op.operands] at h; simp only [evalOp, h])

/-- what an operation comes to, by its closure -/
noncomputable def opR (P : Program) (op : Op) (T : Tr AV) (G : AH) : Option ER :=
  match opC P op with
  | .q f => ob (f T) fun v => some (.val v G)
  | .h f => ob (f T G.t) fun v => some (.val v G)
  | .s f => ob (f T G.t) fun t' => some (.skip ⟨t', G.next⟩)
  | .e f => f T G

theorem opR_loc {op : Op} (h : ∀ x ∈ op.operands.toList, ev T x = ev T' x) : opR P op T G = opR P op T' G := by
  have he := evalOp_loc (P := P) (H := G) h
  unfold opR
  cases op with
  | move x => simp [Op.operands] at h; simp only [opC, opdC_run, h]
  | assign x => simp [Op.operands] at h; simp only [opC, opdC_run, h]
  | binOp op t x y u => simp [Op.operands] at h; simp only [opC, opdC_run, h]
  | extract x k => simp [Op.operands] at h; simp only [opC, opdC_run, h]
  | field t x k => simp [Op.operands] at h; simp only [opC, opdC_run, h]
  | index t x i => simp [Op.operands] at h; simp only [opC, opdC_run, h]
  | convert src dst x =>
    simp [Op.operands] at h
    simp only [opC]
    generalize P.underlying src = a
    generalize P.underlying dst = b
    cases a with
    | none => exact he
    | some a => cases b with
      | none => exact he
      | some b => cases b <;> first | exact he | simp only [opdC_run, h]
  | load t a =>
    simp [Op.operands] at h
    simp only [opC]
    generalize isAggB P t = a
    cases a with
    | none => simp only [opdC_run, h]
    | some a => cases a <;> simp only [opdC_run, h]
  | store t a v =>
    simp [Op.operands] at h
    simp only [opC]
    generalize sizeB P t = a
    cases a with
    | none => exact he
    | some a => cases a with
      | zero => exact he
      | succ a => cases a with
        | zero => simp only [opdC_run, h]
        | succ a => exact he
  | indexAddr t x i =>
    simp [Op.operands] at h
    simp only [opC]
    generalize P.underlying t = a
    cases a with
    | none => exact he
    | some a => cases a with
      | array n e => dsimp only; generalize sizeB P e = b; cases b with
        | none => exact he
        | some b => simp only [opdC_run, h]
      | slice e => dsimp only; generalize sizeB P e = b; cases b with
        | none => exact he
        | some b => simp only [opdC_run, h]
      | _ => exact he
  | fieldAddr t x k =>
    simp [Op.operands] at h
    simp only [opC]
    generalize P.underlying t = a
    cases a with
    | none => exact he
    | some a => cases a with
      | struct fs => dsimp only; generalize lget fs.toList k = c; cases c with
        | none => exact he
        | some c => dsimp only; generalize sizeB P c.type = b; cases b with
          | none => exact he
          | some b => cases b with
            | zero => exact he
            | succ b => simp only [opdC_run, h]
      | _ => exact he
  | _ => exact he

theorem vq_val {o : Option AV} {r : ER} (h : vq H o = some r) : ∃ v, r = .val v H := by
  obtain ⟨v, _, h2⟩ := ob_some.1 h
  cases h2; exact ⟨v, rfl⟩
theorem evalOp_quiet {op : Op} {r : ER} (hq : quietOp P op = true) (h : evalOp P T G op = some r) : ∃ v, r = .val v G := by
  cases op with
  | move x => exact vq_val h
  | assign x => exact vq_val h
  | pick c a b => exact vq_val h
  | build t ps => obtain ⟨l, _, h⟩ := ob_some.1 h; exact vq_val h
  | load t a => obtain ⟨l, _, h⟩ := ob_some.1 h; exact vq_val h
  | nilCheck a => obtain ⟨l, _, h⟩ := ob_some.1 h; exact vq_val h
  | binOp op t x y u => obtain ⟨l, _, h⟩ := ob_some.1 h; obtain ⟨l, _, h⟩ := ob_some.1 h; exact vq_val h
  | unOp op t x => obtain ⟨l, _, h⟩ := ob_some.1 h; exact vq_val h
  | makeInterface t x => obtain ⟨l, _, h⟩ := ob_some.1 h; exact vq_val h
  | makeFunc fn a c =>
    obtain ⟨l, _, h⟩ := ob_some.1 h
    obtain ⟨l2, _, h⟩ := ob_some.1 h
    split at h
    · cases h; exact ⟨_, rfl⟩
    · cases h
  | slice t x l hi m => obtain ⟨l, _, h⟩ := ob_some.1 h; obtain ⟨l, _, h⟩ := ob_some.1 h; obtain ⟨l, _, h⟩ := ob_some.1 h; obtain ⟨l, _, h⟩ := ob_some.1 h; exact vq_val h
  | fieldAddr t x k => obtain ⟨l, _, h⟩ := ob_some.1 h; exact vq_val h
  | field t x k => obtain ⟨l, _, h⟩ := ob_some.1 h; exact vq_val h
  | indexAddr t x i => obtain ⟨l, _, h⟩ := ob_some.1 h; obtain ⟨l, _, h⟩ := ob_some.1 h; exact vq_val h
  | index t x i => obtain ⟨l, _, h⟩ := ob_some.1 h; obtain ⟨l, _, h⟩ := ob_some.1 h; exact vq_val h
  | lookup t x i ok => obtain ⟨l, _, h⟩ := ob_some.1 h; obtain ⟨l, _, h⟩ := ob_some.1 h; exact vq_val h
  | entry x => obtain ⟨l, _, h⟩ := ob_some.1 h; exact vq_val h
  | typeAssert x a t ok => obtain ⟨l, _, h⟩ := ob_some.1 h; exact vq_val h
  | extract x k => obtain ⟨l, _, h⟩ := ob_some.1 h; exact vq_val h
  | convert src dst x =>
    obtain ⟨a, _, h⟩ := ob_some.1 h
    obtain ⟨⟨v, H'⟩, h1, h2⟩ := ob_some.1 h
    cases h2
    suffices h : H' = G by subst h; exact ⟨_, rfl⟩
    simp only [quietOp] at hq
    unfold convA at h1
    split at h1
    · cases h1
    · split at h1
      · rw [sI_eq] at h1; cases h1; rfl
      · cases h1; rfl
      · exfalso; simp_all
      · split at h1
        · cases h1; rfl
        · cases h1
      · split at h1
        · rw [bc_eq] at h1
          split at h1
          · cases h1; rfl
          · obtain ⟨l, _, h1⟩ := ob_some.1 h1
            obtain ⟨l, _, h1⟩ := ob_some.1 h1
            cases h1; rfl
        · cases h1
      · cases h1
  | call c =>
    obtain ⟨cl, as, ts⟩ := c
    obtain ⟨args, _, h⟩ := ob_some.1 h
    cases cl with
    | value f => cases hq
    | invoke f n => cases hq
    | builtin b =>
      cases b <;> first | (cases hq; done) | exact vq_val h | (dsimp only [builtinA] at h; split at h; exact vq_val h; cases h)
  | _ => cases hq

theorem vq_re {o : Option AV} {v : AV} (h : vq H o = some (.val v H)) : vq G o = some (.val v G) := by
  obtain ⟨u, h1, h2⟩ := ob_some.1 h
  cases h2; rw [h1]; rfl
theorem evalOp_pure {op : Op} {v : AV} (hq : pureOp P op = true) (h : evalOp P T H op = some (.val v H)) : evalOp P T G op = some (.val v G) := by
  cases op with
  | move x => exact vq_re h
  | assign x => exact vq_re h
  | pick c a b => exact vq_re h
  | build t ps => obtain ⟨l, h1, h⟩ := ob_some.1 h; exact ob_some.2 ⟨l, h1, vq_re h⟩
  | nilCheck a => obtain ⟨l, h1, h⟩ := ob_some.1 h; exact ob_some.2 ⟨l, h1, vq_re h⟩
  | unOp op t x => obtain ⟨l, h1, h⟩ := ob_some.1 h; exact ob_some.2 ⟨l, h1, vq_re h⟩
  | makeInterface t x => obtain ⟨l, h1, h⟩ := ob_some.1 h; exact ob_some.2 ⟨l, h1, vq_re h⟩
  | fieldAddr t x k => obtain ⟨l, h1, h⟩ := ob_some.1 h; exact ob_some.2 ⟨l, h1, vq_re h⟩
  | field t x k => obtain ⟨l, h1, h⟩ := ob_some.1 h; exact ob_some.2 ⟨l, h1, vq_re h⟩
  | typeAssert x a t ok => obtain ⟨l, h1, h⟩ := ob_some.1 h; exact ob_some.2 ⟨l, h1, vq_re h⟩
  | extract x k => obtain ⟨l, h1, h⟩ := ob_some.1 h; exact ob_some.2 ⟨l, h1, vq_re h⟩
  | binOp op t x y u => obtain ⟨l, h1, h⟩ := ob_some.1 h; obtain ⟨l2, h2, h⟩ := ob_some.1 h; exact ob_some.2 ⟨l, h1, ob_some.2 ⟨l2, h2, vq_re h⟩⟩
  | indexAddr t x i => obtain ⟨l, h1, h⟩ := ob_some.1 h; obtain ⟨l2, h2, h⟩ := ob_some.1 h; exact ob_some.2 ⟨l, h1, ob_some.2 ⟨l2, h2, vq_re h⟩⟩
  | index t x i => obtain ⟨l, h1, h⟩ := ob_some.1 h; obtain ⟨l2, h2, h⟩ := ob_some.1 h; exact ob_some.2 ⟨l, h1, ob_some.2 ⟨l2, h2, vq_re h⟩⟩
  | slice t x l hi m =>
    obtain ⟨l, h1, h⟩ := ob_some.1 h; obtain ⟨l2, h2, h⟩ := ob_some.1 h; obtain ⟨l3, h3, h⟩ := ob_some.1 h; obtain ⟨l4, h4, h⟩ := ob_some.1 h
    exact ob_some.2 ⟨l, h1, ob_some.2 ⟨l2, h2, ob_some.2 ⟨l3, h3, ob_some.2 ⟨l4, h4, vq_re h⟩⟩⟩⟩
  | makeFunc fn a c =>
    obtain ⟨l, h1, h⟩ := ob_some.1 h
    obtain ⟨l2, h2, h⟩ := ob_some.1 h
    refine ob_some.2 ⟨l, h1, ob_some.2 ⟨l2, h2, ?_⟩⟩
    split at h
    · cases h; rfl
    · cases h
  | convert src dst x =>
    obtain ⟨a, h1, h⟩ := ob_some.1 h
    refine ob_some.2 ⟨a, h1, ?_⟩
    obtain ⟨⟨u, H'⟩, h2, h3⟩ := ob_some.1 h
    cases h3
    refine ob_some.2 ⟨(u, G), ?_, rfl⟩
    simp only [pureOp] at hq
    unfold convA at h2 ⊢
    cases hs : P.underlying src with
    | none => rw [hs] at h2; cases h2
    | some ds =>
      rw [hs] at h2
      cases hd : P.underlying dst with
      | none => rw [hd] at hq; cases hq
      | some dd =>
        rw [hd] at hq h2
        cases dd <;> first | (cases hq; done) | skip
        cases a <;> first | (cases ds <;> cases h2; done) | skip
        cases ds <;> (dsimp only at h2 ⊢; rw [sI_eq] at h2 ⊢; cases h2; rfl)
  | call c =>
    obtain ⟨cl, as, ts⟩ := c
    obtain ⟨args, h1, h⟩ := ob_some.1 h
    refine ob_some.2 ⟨args, h1, ?_⟩
    cases cl with
    | value f => cases hq
    | invoke f n => cases hq
    | builtin b =>
      cases b <;> first | (cases hq; done) | exact vq_re h | skip
      · dsimp only [builtinA] at h ⊢
        split at h
        · exact vq_re h
        · cases h
      · simp only [pureOp] at hq
        dsimp only [builtinA] at h ⊢
        split at hq
        · rename_i t ht
          rw [ht] at h ⊢
          cases args with
          | nil => cases h
          | cons x r => cases r with
            | cons y r => cases h
            | nil =>
              dsimp only at h ⊢
              obtain ⟨u, h2, h3⟩ := ob_some.1 h
              cases h3
              refine ob_some.2 ⟨v, ?_, rfl⟩
              unfold lenA at h2 ⊢
              cases hd : P.underlying t with
              | none => rw [hd] at h2; cases h2
              | some d =>
                rw [hd] at hq h2
                cases d <;> first | (cases hq; done) | (cases x <;> exact h2)
        · cases hq
  | _ => cases hq

theorem opR_quiet {op : Op} {r : ER} (hq : quietOp P op = true) (h : opR P op T G = some r) : ∃ v, r = .val v G := by
  unfold opR at h
  split at h
  · obtain ⟨v, _, h⟩ := ob_some.1 h; cases h; exact ⟨_, rfl⟩
  · obtain ⟨v, _, h⟩ := ob_some.1 h; cases h; exact ⟨_, rfl⟩
  · rename_i f hf
    exfalso
    cases op <;> first | (cases hq; done) | (cases hf; done) | skip
    all_goals (simp only [opC] at hf; repeat' (first | (cases hf; done) | split at hf))
  · rename_i f hf
    refine evalOp_quiet hq (r := r) (T := T) ?_
    rw [← h]
    cases op <;> first | (cases hf; rfl) | (simp only [opC] at hf; repeat' (first | (cases hf; done) | (cases hf; rfl) | split at hf))
theorem opR_pure {op : Op} {v : AV} (hq : pureOp P op = true) (h : opR P op T H = some (.val v H)) : opR P op T G = some (.val v G) := by
  unfold opR at h ⊢
  cases hc : opC P op with
  | q f =>
    rw [hc] at h
    obtain ⟨u, h1, h⟩ := ob_some.1 h; cases h
    exact ob_some.2 ⟨v, h1, rfl⟩
  | h f =>
    exfalso
    cases op <;> first | (cases hq; done) | (cases hc; done) | skip
    all_goals (simp only [opC] at hc; repeat' (first | (cases hc; done) | split at hc))
  | s f =>
    exfalso
    cases op <;> first | (cases hq; done) | (cases hc; done) | skip
    all_goals (simp only [opC] at hc; repeat' (first | (cases hc; done) | split at hc))
  | e f =>
    rw [hc] at h
    have key : f = fun T H => evalOp P T H op := by
      cases op <;> first | (cases hc; rfl) | (simp only [opC] at hc; repeat' (first | (cases hc; done) | (cases hc; rfl) | split at hc))
    subst key
    exact evalOp_pure hq h
def Mild (r : ER) : Prop := (∀ f a, r ≠ .defer f a) ∧ r ≠ .recov
theorem Mild.vq {o : Option AV} {r : ER} (h : vq H o = some r) : Mild r := by
  obtain ⟨v, rfl⟩ := vq_val h
  exact ⟨fun _ _ e => (by cases e), fun e => (by cases e)⟩
theorem Mild.ve {o : Option (AV × AH)} {r : ER} (h : ve o = some r) : Mild r := by
  obtain ⟨⟨v, H'⟩, _, h2⟩ := ob_some.1 h
  cases h2
  exact ⟨fun _ _ e => (by cases e), fun e => (by cases e)⟩
theorem Mild.vs {o : Option AH} {r : ER} (h : vs o = some r) : Mild r := by
  obtain ⟨H', _, h2⟩ := ob_some.1 h
  cases h2
  exact ⟨fun _ _ e => (by cases e), fun e => (by cases e)⟩
theorem Mild.ob {β : Type} {o : Option β} {f : β → Option ER} {r : ER} (h : ob o f = some r) (k : ∀ b, f b = some r → Mild r) : Mild r := by
  obtain ⟨b, _, h2⟩ := ob_some.1 h
  exact k b h2
theorem evalOp_mild {op : Op} {r : ER} (hm : mildOp op = true) (h : evalOp P T G op = some r) : Mild r := by
  cases op with
  | defer c => cases hm
  | call c =>
    obtain ⟨cl, as, ts⟩ := c
    refine Mild.ob h fun args h => ?_
    cases cl with
    | value f =>
      refine Mild.ob h fun g h => ?_
      split at h
      · cases h; exact ⟨fun _ _ e => (by cases e), fun e => (by cases e)⟩
      · refine Mild.ob h fun q h => ?_
        cases h; exact ⟨fun _ _ e => (by cases e), fun e => (by cases e)⟩
    | invoke f n =>
      refine Mild.ob h fun g h => ?_
      split at h
      · refine Mild.ob h fun q h => ?_
        cases h; exact ⟨fun _ _ e => (by cases e), fun e => (by cases e)⟩
      · cases h
    | builtin b =>
      dsimp only [builtinA] at h
      split at h <;> first | exact Mild.vq h | exact Mild.ve h | (cases hm; done) | (cases h; done) | skip
      · split at h
        · exact Mild.vq h
        · cases h
      · split at h
        · exact Mild.vq h
        · cases h
      · split at h
        · refine Mild.ob h fun q h => ?_
          cases h; exact ⟨fun _ _ e => (by cases e), fun e => (by cases e)⟩
        · cases h
  | panic x =>
    refine Mild.ob h fun a h => ?_
    split at h
    · cases h; exact ⟨fun _ _ e => (by cases e), fun e => (by cases e)⟩
    · cases h
  | makeFunc fn a c =>
    refine Mild.ob h fun a h => Mild.ob h fun b h => ?_
    split at h
    · cases h; exact ⟨fun _ _ e => (by cases e), fun e => (by cases e)⟩
    · cases h
  | makeMap t r => cases r with
    | none => exact Mild.ve h
    | some x => cases h
  | _ => first | exact Mild.vq h | exact Mild.ve h | exact Mild.vs h | (cases h; done) | (refine Mild.ob h fun a h => ?_; first | exact Mild.vq h | exact Mild.ve h | exact Mild.vs h | (refine Mild.ob h fun a h => ?_; first | exact Mild.vq h | exact Mild.ve h | exact Mild.vs h | (refine Mild.ob h fun a h => ?_; first | exact Mild.vq h | exact Mild.ve h | exact Mild.vs h | (refine Mild.ob h fun a h => ?_; exact Mild.vq h))))
theorem opR_mild {op : Op} {r : ER} (hm : mildOp op = true) (h : opR P op T G = some r) : Mild r := by
  unfold opR at h
  split at h
  · obtain ⟨v, _, h⟩ := ob_some.1 h; cases h; exact ⟨fun _ _ e => (by cases e), fun e => (by cases e)⟩
  · obtain ⟨v, _, h⟩ := ob_some.1 h; cases h; exact ⟨fun _ _ e => (by cases e), fun e => (by cases e)⟩
  · obtain ⟨v, _, h⟩ := ob_some.1 h; cases h; exact ⟨fun _ _ e => (by cases e), fun e => (by cases e)⟩
  · rename_i f hf
    refine evalOp_mild hm (r := r) (T := T) (G := G) (P := P) ?_
    rw [← h]
    cases op <;> first | (cases hf; rfl) | (simp only [opC] at hf; repeat' (first | (cases hf; done) | (cases hf; rfl) | split at hf))
end
end Go.Twin
