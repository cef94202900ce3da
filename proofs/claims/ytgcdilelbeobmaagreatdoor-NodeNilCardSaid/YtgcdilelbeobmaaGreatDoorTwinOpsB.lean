/- Operations that leave the memory as it is, more. -/
import Derived.Test.YtgcdilelbeobmaaGreatDoorTwinOpsA
import Derived.Laws.Entries
import Derived.Laws.Strings
namespace Go.Twin
open Go

section
variable {α : Nat → Value} {ρ : Rho} {H H' : AH} {w : World} {P : Program}

theorem strOf_append (a b : ByteArray) : strOf (a ++ b) = strOf a ++ strOf b := by
  unfold strOf
  rw [ByteArray.data_append, Array.toList_append, List.map_append]

theorem sop_sound {op : BinOp} {t : TypeId} {ox oy : Operand} {a b : List Nat} {bs cs : ByteArray} {v : AV} (ha : strOf bs = a) (hb : strOf cs = b) (h : sop op a b = some v) :
    QV P α ρ w (do eqGuard op t ox oy (.string bs) (.string cs); binOp op t (.string bs) (.string cs)) v := by
  unfold QV
  simp only [Sem.run_bind, eqGuard_str, Result.andThen_ok]
  have e1 : neq a b = (bs.toList == cs.toList) := by
    rw [neq_eq, ← ha, ← hb, ByteArray.toList_eq, ByteArray.toList_eq, Bool.eq_iff_iff]
    simp [strOf_inj]
  have e2 : nlt a b = Op.bytesLess bs.toList cs.toList := by
    rw [← ha, ← hb, ByteArray.toList_eq, ByteArray.toList_eq]
    exact nlt_eq _ _
  have hlen : a.length = bs.size ∧ b.length = cs.size := by
    rw [← ha, ← hb]; constructor <;> (simp only [strOf, List.length_map, Array.length_toList]; rfl)
  cases op
  case add =>
    change (bif Nat.blt (a.length + b.length) 1000000000 then some (AV.s (a ++ b)) else none) = some v at h
    cases hb2 : Nat.blt (a.length + b.length) 1000000000 with
    | false => rw [hb2] at h; cases h
    | true =>
      rw [hb2] at h; cases h
      have hlt : a.length + b.length < 1000000000 := Nat.le_of_ble_eq_true hb2
      have hle : ¬ (((bs.size + cs.size : Nat) : Int) > IntKind.i64.max) := by
        rw [← hlen.1, ← hlen.2]
        have : IntKind.i64.max = 9223372036854775807 := by decide
        rw [this]; omega
      refine ⟨.string (bs ++ cs), ?_, .s _ _ ?_⟩
      · simp only [binOp, Op.stringOp]
        rw [if_neg hle]; rfl
      · rw [← ha, ← hb]
        exact strOf_append bs cs
  all_goals cases h
  all_goals first
    | exact ⟨_, by simp only [binOp, Op.stringOp]; rw [e1]; rfl, .b _⟩
    | exact ⟨_, by simp only [binOp, Op.stringOp]; rw [e2]; rfl, .b _⟩
    | exact ⟨_, by simp only [binOp, Op.stringOp]; rw [e1, e2]; rfl, .b _⟩

theorem bopFlat_sound {op : BinOp} {t : TypeId} {ox oy : Operand} {x y v : AV} {x' y' : Value} (hx : VR α ρ x x') (hy : VR α ρ y y') (h : bopFlat P op t ox oy x y = some v) :
    QV P α ρ w (do eqGuard op t ox oy x' y'; binOp op t x' y') v := by
  unfold bopFlat at h
  split at h
  · rename_i u u' e1 e2
    obtain ⟨r, h1, h2⟩ := ob_some.1 h
    have := toFlat_sound e1 hx
    subst this
    have := toFlat_sound e2 hy
    subst this
    exact ⟨r, pureRun_sound _ h1 w, ofConst_sound h2⟩
  · cases h

theorem nilNe_sound {d : TypeDesc} {t : TypeId} {ox oy : Operand} {x y : AV} {x' y' : Value} (hd : P.underlying t = some d) (hx : VR α ρ x x') (hy : VR α ρ y y') (h : nilNe (some d) x y = true)
    (op : BinOp) (hop : op = .eql ∨ op = .neq) :
    (do eqGuard op t ox oy x' y'; binOp op t x' y' : Sem Value).run P w = .ok (.bool (match op with | .eql => false | _ => true)) w := by
  have key : (∀ e : Nat, (Op.equalIn (e + 1) t x' y').run P w = .ok false w) ∧ (eqGuard op t ox oy x' y').run P w = .ok () w ∧ binOp .eql t x' y' = (do pure (.bool (← Op.equal t x' y'))) ∧ binOp .neq t x' y' = (do pure (.bool (!(← Op.equal t x' y')))) := by
    unfold nilNe at h
    split at h <;> (try cases h) <;> rename_i e <;> cases e <;> cases hx <;> cases hy <;>
      refine ⟨?_, ?_, rfl, rfl⟩ <;>
      first
        | (intro e0
           simp only [Op.equalIn, Sem.run_bind, run_underlying hd, Result.andThen_ok, Sem.run_pure, Option.isNone]
           done)
        | (intro e0
           simp only [Op.equalIn, Sem.run_bind, run_underlying hd, Result.andThen_ok, Sem.run_pure, Option.isNone_some, Option.isNone_none]
           done)
        | (unfold eqGuard; cases op <;> rfl)
  obtain ⟨k0, k2, k3, k4⟩ := key
  have k1 : (Op.equal t x' y').run P w = .ok false w := k0 9999
  rcases hop with rfl | rfl
  · simp only [Sem.run_bind, k2, Result.andThen_ok, k3, k1, Sem.run_pure]
  · simp only [Sem.run_bind, k2, Result.andThen_ok, k4, k1, Sem.run_pure, Bool.not_false]

theorem bop_sound {op : BinOp} {t : TypeId} {ox oy : Operand} {x y v : AV} {x' y' : Value} (hx : VR α ρ x x') (hy : VR α ρ y y') (h : bop P op t ox oy x y = some v) :
    QV P α ρ w (do eqGuard op t ox oy x' y'; binOp op t x' y') v := by
  unfold bop at h
  split at h
  · rename_i k a k' b
    cases hk : decide (k = k') with
    | false => rw [hk] at h; exact bopFlat_sound hx hy h
    | true =>
      rw [hk] at h
      have := of_decide_eq_true hk
      subst this
      simp only [cond_true] at h
      cases hi : iop op k a b with
      | none => rw [hi] at h; exact bopFlat_sound hx hy h
      | some r =>
        rw [hi] at h
        cases h
        cases hx; cases hy
        exact iop_sound hi
  · cases hx with
    | s _ bs e1 => cases hy with
      | s _ cs e2 => exact sop_sound e1 e2 h
  · cases hn : nilNe (P.underlying t) x y with
    | false => rw [hn] at h; exact bopFlat_sound hx hy h
    | true =>
      rw [hn] at h
      cases hd : P.underlying t with
      | none => rw [hd] at hn; simp [nilNe] at hn
      | some d =>
        rw [hd] at hn
        have h0 := fun hop => nilNe_sound (w := w) (ox := ox) (oy := oy) hd hx hy hn op hop
        cases op <;> simp only [cond_true] at h <;> (try cases h)
        · exact ⟨_, h0 (.inl rfl), .b _⟩
        · exact ⟨_, h0 (.inr rfl), .b _⟩

theorem uop_sound {op : UnOp} {x v : AV} {x' : Value} (hx : VR α ρ x x') (h : uop P op x = some v) : QV P α ρ w (Op.unary op x') v := by
  unfold uop at h
  split at h
  · cases h; cases hx; exact ⟨_, rfl, .b _⟩
  · cases hf : toFlat1 x with
    | none => rw [hf] at h; cases h
    | some u =>
      rw [hf] at h
      obtain ⟨r, h1, h2⟩ := ob_some.1 h
      have := toFlat1_sound hf hx
      subst this
      exact ⟨r, pureRun_sound _ h1 w, ofConst_sound h2⟩

/-! the types' tables -/
theorem run_isAgg' {t : TypeId} {b : Bool} (h : isAggB P t = some b) : (isAgg t).run P w = .ok b w := by
  unfold isAggB at h
  unfold isAgg
  split at h <;> (try cases h) <;> rename_i e <;> simp only [Sem.run_bind, run_underlying e, Result.andThen_ok]
  · rfl
  · rfl
  · rename_i d n1 n2
    cases d <;> first | rfl | exact (n1 _ rfl).elim | exact (n2 _ _ rfl).elim
theorem run_size' {t : TypeId} {n : Nat} (h : sizeB P t = some n) : (sizeOf t).run P w = .ok n w := by
  unfold sizeB at h
  split at h
  · rename_i i e
    cases h
    simp [sizeOf, typeInfo, e]
  · cases h
theorem run_zero' {t : TypeId} {z : AV} (h : zeroB P t = some z) : ∃ z', (zeroValue t).run P w = .ok z' w ∧ VR α ρ z z' := by
  unfold zeroB at h
  split at h
  · rename_i i e
    split at h
    · rename_i v e2
      exact ⟨v, by simp [zeroValue, typeInfo, e, e2], ofConst_sound h⟩
    · cases h
  · cases h

theorem part_sound {t : TypeId} {l : List AV} {l' : List Value} {off : Nat} {v : AV} (hl : VRs α ρ l l') (h : partA P t l off = some v) : QV P α ρ w (part t ⟨l'⟩ off) v := by
  obtain ⟨a, h1, h2⟩ := ob_some.1 h
  rw [bc_eq] at h2
  unfold QV part
  cases a with
  | true =>
    rw [if_pos rfl] at h2
    obtain ⟨n, h3, h4⟩ := ob_some.1 h2
    cases h4
    refine ⟨.agg ⟨(l'.drop off).take n⟩, ?_, .ag _ _ ((hl.drop off).take n)⟩
    simp only [Sem.run_bind, run_isAgg' h1, Result.andThen_ok, if_true, run_size' h3, Sem.run_pure]
    congr 2
    apply Array.ext'
    rw [Array.toList_extract]
    simp
  | false =>
    rw [if_neg (by simp), lget_eq] at h2
    obtain ⟨u, hu, hr⟩ := hl.get h2
    refine ⟨u, ?_, hr⟩
    simp only [Sem.run_bind, run_isAgg' h1, Result.andThen_ok]
    have : (⟨l'⟩ : Array Value)[off]? = some u := by simpa using hu
    rw [this]; rfl

theorem load_sound (hr : Rel α ρ H w) {t : TypeId} {x v : AV} {x' : Value} (hx : VR α ρ x x') (h : loadA P H t x = some v) : QV P α ρ w (Instr.loadAt t x') v := by
  unfold loadA at h
  split at h
  · rename_i id off
    cases hx with
    | p _ _ lo hlo =>
      obtain ⟨a, h1, h2⟩ := ob_some.1 h
      rw [bc_eq] at h2
      unfold QV Instr.loadAt
      have hs : (Instr.sureAddr (.pointer (some ⟨lo.b, off + lo.sh, none⟩))).run P w = .ok ⟨lo.b, off + lo.sh, none⟩ w := rfl
      simp only [Sem.run_bind, hs, Result.andThen_ok, loadVar, run_isAgg' h1]
      cases a with
      | true =>
        rw [if_pos rfl] at h2
        obtain ⟨n, h3, h4⟩ := ob_some.1 h2
        obtain ⟨l, h5, h6⟩ := ob_some.1 h4
        cases h6
        obtain ⟨lo', vs, g1, g2, g3, g4⟩ := rdAt_sound hr h5
        rw [hlo] at g1; cases g1
        refine ⟨.agg ⟨vs⟩, ?_, .ag _ _ g2⟩
        have := run_loadCells_list (P := P) w ⟨lo.b, off + lo.sh, none⟩ vs g4
        rw [g3] at this
        simp only [if_true, Sem.run_bind, run_size' h3, Result.andThen_ok, this, Sem.run_pure]
      | false =>
        rw [if_neg (by simp)] at h2
        obtain ⟨l, h5, h6⟩ := ob_some.1 h2
        obtain ⟨lo', vs, g1, g2, g3, g4⟩ := rdAt_sound hr h5
        rw [hlo] at g1; cases g1
        rw [lget_eq] at h6
        obtain ⟨u, hu, hur⟩ := g2.get h6
        have := g4 0 u hu
        rw [add_none] at this
        refine ⟨u, ?_, hur⟩
        simp only [Bool.false_eq_true, if_false, run_load]
        rw [show off + lo.sh = off + lo.sh + 0 from rfl, this]
  · cases h

theorem fieldAddr_sound {t : TypeId} {x v : AV} {x' : Value} {k : Nat} (hx : VR α ρ x x') (h : fieldAddrA P t x k = some v) : QV P α ρ w (Instr.fieldAt t x' k) v := by
  unfold fieldAddrA at h
  split at h
  · rename_i fs id off e
    cases hx with
    | p _ _ lo hlo =>
      obtain ⟨f, h1, h2⟩ := ob_some.1 h
      obtain ⟨n, h3, h4⟩ := ob_some.1 h2
      rw [bc_eq] at h4
      split at h4
      · cases h4
      · rename_i hn
        rw [sN_eq] at h4
        cases h4
        have hn' : n ≠ 0 := fun e => hn (by rw [e]; rfl)
        rw [lget_eq] at h1
        have hf : fs[k]? = some f := by simpa using h1
        refine ⟨.pointer (some ⟨lo.b, off + f.offset + lo.sh, none⟩), ?_, .p _ _ _ hlo⟩
        simp only [Instr.fieldAt, Sem.run_bind, run_underlying e, Result.andThen_ok, hf]
        simp only [Instr.sureAddr, fieldPlace, Sem.run_bind, Sem.run_pure, Result.andThen_ok, run_size' h3, if_neg hn', add_none]
        rw [show off + lo.sh + f.offset = off + f.offset + lo.sh by omega]
  · cases h
theorem field_sound {t : TypeId} {x v : AV} {x' : Value} {k : Nat} (hx : VR α ρ x x') (h : fieldA P t x k = some v) : QV P α ρ w (Instr.field t x' k) v := by
  unfold fieldA at h
  split at h
  · rename_i fs l e
    cases hx with
    | ag _ l' hl =>
      obtain ⟨f, h1, h2⟩ := ob_some.1 h
      rw [lget_eq] at h1
      have hf : fs[k]? = some f := by simpa using h1
      obtain ⟨u, g1, g2⟩ := part_sound (P := P) (w := w) hl h2
      refine ⟨u, ?_, g2⟩
      simp only [Instr.field, Sem.run_bind, run_underlying e, Result.andThen_ok, hf, asAgg, Sem.run_pure, g1]
  · cases h
theorem indexAddr_sound {t : TypeId} {x ix v : AV} {x' ix' : Value} (hx : VR α ρ x x') (hi : VR α ρ ix ix') (h : indexAddrA P t x ix = some v) : QV P α ρ w (Instr.indexAt t x' ix') v := by
  unfold indexAddrA at h
  split at h
  · rename_i k i
    cases hi
    split at h
    · rename_i n e id off hd
      cases hx with
      | p _ _ lo hlo =>
        rw [bc_eq] at h
        split at h
        · rename_i hb
          obtain ⟨s, h1, h2⟩ := ob_some.1 h
          rw [sN_eq] at h2; cases h2
          have hlt : i < n := by simp [Nat.blt] at hb; omega
          refine ⟨.pointer (some ⟨lo.b, off + i * s + lo.sh, none⟩), ?_, .p _ _ _ hlo⟩
          simp only [Instr.indexAt, asIntOf, Sem.run_bind, Sem.run_pure, Result.andThen_ok, run_underlying hd, Instr.sureAddr]
          rw [if_pos (by constructor <;> simp <;> omega)]
          simp only [Sem.run_bind, run_size' h1, Result.andThen_ok, Sem.run_pure, add_none]
          simp only [Int.ofNat_eq_natCast, Int.toNat_natCast]
          rw [show off + lo.sh + i * s = off + i * s + lo.sh by omega]
        · cases h
    · rename_i e id off len cap x0 hd
      rw [bc_eq] at h
      split at h
      · rename_i hb
        obtain ⟨s, h1, h2⟩ := ob_some.1 h
        rw [sN_eq] at h2; cases h2
        have hlt : i < len := by simp [Nat.blt] at hb; omega
        cases hx with
        | sl _ _ _ _ _ lo o cap' hlo p1 p2 p3 p4 p5 =>
          have ho : o = off + lo.sh := by omega
          subst ho
          refine ⟨.pointer (some ⟨lo.b, off + i * s + lo.sh, none⟩), ?_, .p _ _ _ hlo⟩
          simp only [Instr.indexAt, asIntOf, Sem.run_bind, Sem.run_pure, Result.andThen_ok, run_underlying hd]
          rw [if_pos (by constructor <;> simp <;> omega)]
          simp only [Sem.run_bind, run_size' h1, Result.andThen_ok, Sem.run_pure, add_none]
          simp only [Int.ofNat_eq_natCast, Int.toNat_natCast]
          rw [show off + lo.sh + i * s = off + i * s + lo.sh by omega]
      · cases h
    · cases h
  · cases h
theorem index_sound {t : TypeId} {x ix v : AV} {x' ix' : Value} (hx : VR α ρ x x') (hi : VR α ρ ix ix') (h : indexA P t x ix = some v) : QV P α ρ w (Instr.index t x' ix') v := by
  unfold indexA at h
  split at h
  · rename_i k i
    cases hi
    split at h
    · rename_i n e l hd
      cases hx with
      | ag _ l' hl =>
        rw [bc_eq] at h
        split at h
        · rename_i hb
          obtain ⟨s, h1, h2⟩ := ob_some.1 h
          have hlt : i < n := by simp [Nat.blt] at hb; omega
          obtain ⟨u, g1, g2⟩ := part_sound (P := P) (w := w) hl h2
          refine ⟨u, ?_, g2⟩
          simp only [Instr.index, asIntOf, Sem.run_bind, Sem.run_pure, Result.andThen_ok, run_underlying hd]
          rw [if_pos (by constructor <;> simp <;> omega)]
          simp only [Sem.run_bind, run_size' h1, Result.andThen_ok]
          exact g1
        · cases h
    · rename_i l hd
      cases hx with
      | s _ bs e =>
        obtain ⟨c, h1, h2⟩ := ob_some.1 h
        cases h2
        rw [lget_eq, ← e] at h1
        refine ⟨.int .u8 (.ofNat c), ?_, .i _ _⟩
        simp only [Instr.index, asIntOf, Sem.run_bind, Sem.run_pure, Result.andThen_ok, run_underlying hd]
        rw [if_pos (by simp)]
        simp only [strOf, List.getElem?_map, Option.map_eq_some_iff] at h1
        obtain ⟨b, hb, hbc⟩ := h1
        have hb' : bs[(Int.ofNat i).toNat]? = some b := by
          simp only [Int.ofNat_eq_natCast, Int.toNat_natCast]
          have : bs.data[i]? = some b := by simpa using hb
          have hlt : i < bs.data.size := (Array.getElem?_eq_some_iff.1 this).1
          rw [getElem?_pos bs i hlt]
          have h9 := (Array.getElem?_eq_some_iff.1 this).2
          exact congrArg some h9
        rw [hb']
        simp [← hbc]
    · cases h
  · cases h
theorem extract_sound {x v : AV} {x' : Value} {k : Nat} (hx : VR α ρ x x') (h : extractA x k = some v) : QV P α ρ w (Instr.extract x' k) v := by
  unfold extractA at h
  split at h
  · cases hx with
    | tu _ l' hl =>
      obtain ⟨u, hu, hr⟩ := hl.get h
      refine ⟨u, ?_, hr⟩
      have : (⟨l'⟩ : Array Value)[k]? = some u := by simpa using hu
      simp [Instr.extract, this]
  · cases h
theorem typeAssert_sound {x v : AV} {x' : Value} {xt t : TypeId} {ok : Bool} (hx : VR α ρ x x') (h : typeAssertA P x t ok = some v) : QV P α ρ w (Instr.typeAssert x' xt t ok) v := by
  unfold typeAssertA at h
  split at h
  · cases h
  · rename_i d hne hd
    split at h
    · rename_i t' a
      cases hx with
      | ifc _ _ a' ha =>
        cases hb : Nat.beq t' t with
        | false => rw [hb] at h; cases h
        | true =>
          rw [hb] at h
          have := Nat.eq_of_beq_eq_true hb
          subst this
          simp only [cond_true, Option.some.injEq] at h
          subst h
          refine ⟨if ok then .tuple #[a', .bool true] else a', ?_, ?_⟩
          · simp only [Instr.typeAssert, Sem.run_bind, run_underlying hd, Result.andThen_ok]
            cases d <;> first | exact absurd rfl (hne _) | simp
          · cases ok
            · exact ha
            · exact .tu _ _ (.cons _ _ _ _ ha (.cons _ _ _ _ (.b true) .nil))
    · cases h
  · cases h
theorem iface_sound {x v : AV} {x' : Value} {t : TypeId} (hx : VR α ρ x x') (h : ifaceA P t x = some v) : QV P α ρ w (Instr.makeInterface t x') v := by
  unfold ifaceA at h
  split at h
  · cases h
  · rename_i d hne hd
    cases h
    refine ⟨.iface t x', ?_, .ifc _ _ _ hx⟩
    simp only [Instr.makeInterface, Sem.run_bind, run_underlying hd, Result.andThen_ok]
    cases d <;> first | exact absurd rfl (hne _) | rfl
  · cases h
end
end Go.Twin
