/- A map gone over: a round, and all rounds. -/
import Derived.Test.YtgcdilelbeobmaaGreatDoorTwinLoop
namespace Go.Twin
open Go

section
variable {E : Env} {self : Self} {α : Nat → Value} {ρ ρ' : Rho} {G G' H H1 : AH} {w w' : World} {cs : List Frame} {n fn : Nat}

/-- the memory behind some rounds -/
structure IsG (H : AH) (idl r id since clock : Nat) (t : Tr AV) (z : List AV) (zl nL : Nat) (A : List MRec) (G : AH) : Prop where
  next : G.next = H.next
  lay : G.t.get idl = some (.cells (layM A t) z zl nL)
  it : ∃ last, G.t.get r = some (.mapIter (some id) since (A.map (·.e.2.2)) last) ∧ (A = [] ∨ last = clock)
  rest : ∀ j, j ≠ idl → j ≠ r → G.t.get j = H.t.get j

/-- what stands fast of all rounds -/
structure MC (E : Env) (sf : Self) (n : Nat) (cd : Code) (s : MLS) (Bs : Blk) (ids : Nat) (H : AH) (Th Te : Tr AV) (r id since clock : Nat) (es : List (AV × AV × Nat)) (recs : List MRec) (idl : Nat) (t : Tr AV) (z : List AV) (zl nL : Nat) : Prop where
  shp : Shp n cd s
  hit : Th.get s.it = some (.p r 0)
  hids : H.t.get ids = some Bs
  hid : H.t.get id = some (.map es clock)
  hr : ∃ last, H.t.get r = some (.mapIter (some id) since [] last)
  hl : H.t.get idl = some (.cells t z zl nL)
  old : ∀ e ∈ es, e.2.2 < since ∧ e.2.2 < clock
  nodup : (es.map fun e => e.2.2).Nodup
  two : 2 ≤ es.length
  ids_r : ids ≠ r
  recsEq : recs.map (·.e) = es
  rnd : ∀ x ∈ recs, mlRound E sf n s Bs ids H Th x.e = some (idl, x)
  apart : ∀ x ∈ recs, ∀ y ∈ recs, ∀ j, inM x j → inM y j → x = y
  room : ∀ x ∈ recs, x.off + x.new.length ≤ nL
  free : ∀ o, o ∈ s.opsN.toList ++ (s.opsE.toList ++ s.opsB.toList) → ∀ d, o.dst = some d → Th.get d = none
  fin : strR E sf n Bs ids H.next s.rN (Th.put s.d1 (some (.tu [.b false]))) = some Te
  finc : Te.get s.c = some (.b false)

section
variable {cd : Code} {s : MLS} {Bs : Blk} {ids : Nat} {Th Te : Tr AV} {r id since clock : Nat} {es : List (AV × AV × Nat)} {recs : List MRec} {idl : Nat} {t : Tr AV} {z : List AV} {zl nL : Nat}
variable (C : MC E self n cd s Bs ids H Th Te r id since clock es recs idl t z zl nL)
include C

theorem MC.r_ne_idl : r ≠ idl := by
  intro e
  obtain ⟨last, h⟩ := C.hr
  rw [e, C.hl] at h; cases h
theorem MC.id_ne_idl : id ≠ idl := by
  intro e
  have := C.hid
  rw [e, C.hl] at this; cases this
theorem MC.id_ne_r : id ≠ r := by
  intro e
  obtain ⟨last, h⟩ := C.hr
  have := C.hid
  rw [e, h] at this; cases this
theorem MC.round_facts {x : MRec} (hx : x ∈ recs) : ∃ (T1 T2 T3 : Tr AV) (len cap y idv offv lenv capv xv size : Nat) (dt el : TypeId) (tr : List TypeId),
    strR E self n Bs ids H.next s.rN (Th.put s.d1 (some (.tu [.b true, x.e.1, x.e.2.1]))) = some T1 ∧ T1.get s.c = some (.b true) ∧
    strR E self n Bs ids H.next s.rE (T1.put s.d3 (some (.tu [x.e.1, x.e.2.1]))) = some T2 ∧ strR E self n Bs ids H.next s.rB T2 = some T3 ∧
    T3.get s.a1 = some (.sl idl x.off len cap y) ∧ T3.get s.a2 = some (.sl idv offv lenv capv xv) ∧ s.ts.toList = dt :: tr ∧ E.P.underlying dt = some (.slice el) ∧ sizeB E.P el = some size ∧
    (bc (Nat.ble lenv len) lenv len) * size ≠ 0 ∧ H.rdAt idv offv ((bc (Nat.ble lenv len) lenv len) * size) = some x.new ∧ x.new.length = (bc (Nat.ble lenv len) lenv len) * size ∧
    x.new.all one1 = true ∧ idv ≠ idl ∧ ids ≠ idl := by
  have h := C.rnd x hx
  unfold mlRound at h
  obtain ⟨T1, h1, h⟩ := ob_some.1 h
  split at h
  · rename_i hc
    obtain ⟨T2, h2, h⟩ := ob_some.1 h
    obtain ⟨T3, h3, h⟩ := ob_some.1 h
    split at h
    · rename_i idl' off len cap y idv offv lenv capv xv dt tr g1 g2 g3
      split at h
      · rename_i el hu
        obtain ⟨size, hs, h⟩ := ob_some.1 h
        rw [sN_eq] at h
        obtain ⟨new, hn, h⟩ := ob_some.1 h
        rw [bc_eq] at h
        split at h
        · rename_i hb
          simp only [Bool.and_eq_true, Bool.not_eq_true'] at hb
          obtain ⟨⟨⟨⟨b1, b2⟩, b3⟩, b4⟩, b5⟩ := hb
          have hne : ∀ {a b : Nat}, Nat.beq a b = false → a ≠ b := fun {a b} h e => by rw [e, Nat.beq_refl] at h; cases h
          simp only [Option.some.injEq, Prod.mk.injEq] at h
          obtain ⟨e1, e2⟩ := h
          subst e1
          have e3 : x.off = off := by rw [← e2]
          have e4 : x.new = new := by rw [← e2]
          refine ⟨T1, T2, T3, len, cap, y, idv, offv, lenv, capv, xv, size, dt, el, tr, h1, hc, h2, h3, by rw [e3]; exact g1, g2, g3, hu, hs, hne b2, by rw [e4]; exact hn, by rw [e4]; exact ((lenL_eq _).symm.trans (Nat.eq_of_beq_eq_true b1)), by rw [e4]; exact b3, hne b4, hne b5⟩
        · cases h
      · cases h
    · cases h
  · cases h

theorem MC.find {e : AV × AV × Nat} (he : e ∈ es) : (es.find? fun x => Nat.beq x.2.2 e.2.2) = some e := by
  have hn := C.nodup
  clear C
  induction es with
  | nil => cases he
  | cons a l ih =>
    simp only [List.map_cons, List.nodup_cons] at hn
    simp only [List.find?_cons]
    rcases List.mem_cons.1 he with rfl | he'
    · rw [Nat.beq_refl]
    · have hne : a.2.2 ≠ e.2.2 := fun e1 => hn.1 (by rw [e1]; exact List.mem_map.2 ⟨e, he', rfl⟩)
      rw [nat_beq_false hne]
      exact ih he' hn.2

theorem MC.copy_eval {x : MRec} (hx : x ∈ recs) {A : List MRec} {G : AH} (hlay : G.t.get idl = some (.cells (layM A t) z zl nL)) (hrest : ∀ j, j ≠ idl → j ≠ r → G.t.get j = H.t.get j) {T3 : Tr AV} {len cap y idv offv lenv capv xv size : Nat} {dt el : TypeId} {tr : List TypeId}
    (g1 : T3.get s.a1 = some (.sl idl x.off len cap y)) (g2 : T3.get s.a2 = some (.sl idv offv lenv capv xv)) (g3 : s.ts.toList = dt :: tr) (hu : E.P.underlying dt = some (.slice el)) (hs : sizeB E.P el = some size)
    (hne : (bc (Nat.ble lenv len) lenv len) * size ≠ 0) (hn : H.rdAt idv offv ((bc (Nat.ble lenv len) lenv len) * size) = some x.new) (hlen : x.new.length = (bc (Nat.ble lenv len) lenv len) * size) (h1 : x.new.all one1 = true) (hv : idv ≠ idl) :
    evalOp E.P T3 G (.call ⟨.builtin .copy, ⟨[.tmp s.a1, .tmp s.a2]⟩, s.ts⟩) = some (.val (.i .i64 (.ofNat (bc (Nat.ble lenv len) lenv len))) ⟨G.t.put idl (some (.cells (layM (A ++ [x]) t) z zl nL)), G.next⟩) := by
  have hvr : idv ≠ r := by
    intro e
    obtain ⟨last, h⟩ := C.hr
    obtain ⟨B, k1, k2⟩ := ob_some.1 hn
    rw [e, h] at k1; cases k1; cases k2
  have hev : evs T3 [.tmp s.a1, .tmp s.a2] = some [.sl idl x.off len cap y, .sl idv offv lenv capv xv] := by
    show ob (ev T3 (.tmp s.a1)) (fun b => ob (ob (ev T3 (.tmp s.a2)) fun b => ob (some []) fun r => some (b :: r)) fun r => some (b :: r)) = _
    have e1 : ev T3 (.tmp s.a1) = some (.sl idl x.off len cap y) := g1
    have e2 : ev T3 (.tmp s.a2) = some (.sl idv offv lenv capv xv) := g2
    rw [e1, e2]; rfl
  have hrd : G.rdAt idv offv ((bc (Nat.ble lenv len) lenv len) * size) = some x.new := by
    unfold AH.rdAt at hn ⊢
    rw [hrest idv hv hvr]; exact hn
  have hne' : Nat.beq ((bc (Nat.ble lenv len) lenv len) * size) 0 = false := nat_beq_false hne
  have hfst : firstA G size (bc (Nat.ble lenv len) lenv len) (.sl idv offv lenv capv xv) = some x.new := by
    show bc (Nat.beq ((bc (Nat.ble lenv len) lenv len) * size) 0) (some []) (G.rdAt idv offv ((bc (Nat.ble lenv len) lenv len) * size)) = _
    rw [hne', bc_eq]; simpa using hrd
  have hwr : G.wrAt idl x.off x.new = some ⟨G.t.put idl (some (.cells (layM (A ++ [x]) t) z zl nL)), G.next⟩ := by
    unfold AH.wrAt
    rw [hlay]
    show ob (wrs nL x.new (layM A t) x.off) (fun t' => some (⟨G.t.put idl (some (.cells t' z zl nL)), G.next⟩ : AH)) = _
    rw [wrs_eq nL x.new _ _ h1 (C.room x hx), layM_snoc]
    rfl
  have hcp : copyA E.P G s.ts.toList [.sl idl x.off len cap y, .sl idv offv lenv capv xv] = some (.i .i64 (.ofNat (bc (Nat.ble lenv len) lenv len)), ⟨G.t.put idl (some (.cells (layM (A ++ [x]) t) z zl nL)), G.next⟩) := by
    unfold copyA
    rw [g3]
    simp only [hu, hs]
    show sN (bc (Nat.ble lenv len) lenv len) (fun n => ob (firstA G size n (.sl idv offv lenv capv xv)) fun new => bc (Nat.beq (lenL new) (Nat.mul n size)) (copyGo G size (.sl idl x.off len cap y) n new) none) = _
    rw [sN_eq, hfst]
    show bc (Nat.beq (lenL x.new) ((bc (Nat.ble lenv len) lenv len) * size)) (copyGo G size (.sl idl x.off len cap y) (bc (Nat.ble lenv len) lenv len) x.new) none = _
    rw [lenL_eq, hlen, Nat.beq_refl, bc_eq, if_pos rfl]
    show bc (Nat.beq ((bc (Nat.ble lenv len) lenv len) * size) 0) (some (AV.i .i64 (.ofNat (bc (Nat.ble lenv len) lenv len)), G)) (ob (G.wrAt idl x.off x.new) fun H' => some (AV.i .i64 (.ofNat (bc (Nat.ble lenv len) lenv len)), H')) = _
    rw [hne', bc_eq, hwr]; rfl
  show ob (evs T3 [.tmp s.a1, .tmp s.a2]) (fun args => ve (copyA E.P G s.ts.toList args)) = _
  rw [hev]
  show ve (copyA E.P G s.ts.toList [.sl idl x.off len cap y, .sl idv offv lenv capv xv]) = _
  rw [hcp]; rfl
end
end
end Go.Twin
