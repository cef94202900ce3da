/- An iterator's next step, whatever entry it finds. -/
import Derived.Test.YtgcdilelbeobmaaGreatDoorTwinMachE
namespace Go.Twin
open Go

section
variable {α : Nat → Value} {ρ : Rho} {H H' : AH} {w : World} {P : Program}

theorem choose_run (n : Nat) (hn : 0 < n) (w : World) : ∃ i w1, (choose (.mapNext n)).run P w = .ok i w1 ∧ i < n ∧ (w1 = w ∨ w1 = w.drew) := by
  by_cases h : n ≤ 1
  · refine ⟨0, w, ?_, hn, .inl rfl⟩
    simp [Question.forced, h]
  · refine ⟨w.tape w.drawn (.mapNext n) % n, w.drew, ?_, Nat.mod_lt _ hn, .inr rfl⟩
    simp [Question.forced, h, Question.cut]

theorem ERs.get {es : List (AV × AV × Nat)} {es' : List MapEntry} (h : ERs α ρ es es') : ∀ {i : Nat} {e' : MapEntry}, es'[i]? = some e' → ∃ e, es[i]? = some e ∧ VR α ρ e.1 e'.key ∧ VR α ρ e.2.1 e'.val ∧ e.2.2 = e'.born := by
  induction h with
  | nil => intro i e' h; simp at h
  | cons k v n k' v' l l' h1 h2 _ ih =>
    intro i e' h
    cases i with
    | zero => simp at h; subst h; exact ⟨(k, v, n), rfl, h1, h2, rfl⟩
    | succ i => simp at h; obtain ⟨e, g⟩ := ih h; exact ⟨e, by simpa using g⟩
theorem ERs.length {es : List (AV × AV × Nat)} {es' : List MapEntry} (h : ERs α ρ es es') : es.length = es'.length := by
  induction h with
  | nil => rfl
  | cons k v n k' v' l l' h1 h2 _ ih => simp [ih]

theorem next_many (hr : Rel α ρ H w) {r id since last clock : Nat} {seen : List Nat} {es A : List (AV × AV × Nat)} {ty : TypeId} {x' : Value} (hx : VR α ρ (.p r 0) x')
    (hB : H.t.get r = some (.mapIter (some id) since seen last)) (hM : H.t.get id = some (.map es clock)) (hg : (!seen.isEmpty && !es.isEmpty && es.all fun e => Nat.ble last e.2.2) = false)
    (hC : (es.filter fun e => !memN e.2.2 seen).filter (fun e => Nat.ble since e.2.2) = []) (hA : (es.filter fun e => !memN e.2.2 seen).filter (fun e => Nat.blt e.2.2 since) = A) :
    (A ≠ [] → ∃ e ∈ A, ∃ v' w', (Instr.next x' false ty).run P w = .ok v' w' ∧ Ev α ρ H w ρ (H.set r (.mapIter (some id) since (seen ++ [e.2.2]) clock)) w' ∧ VR α ρ (.tu [.b true, e.1, e.2.1]) v') ∧
    (A = [] → ∃ w', (Instr.next x' false ty).run P w = .ok (.tuple #[.bool false]) w' ∧ Ev α ρ H w ρ H w') := by
  cases hx with
  | p _ _ lo hlo =>
    obtain ⟨l, o, f1, f2, f3⟩ := hr.blk r _ hB
    rw [hlo] at f1; cases f1
    cases f3 with
    | iter _ lm _ _ _ _ hlm h0 =>
      obtain ⟨l2, o2, k1, k2, k3⟩ := hr.blk id _ hM
      rw [hlm] at k1; cases k1
      cases k3 with
      | map _ es' _ _ hes =>
        have hgo := getObj_run (P := P) f2 (by intro c e f; simp)
        have hgo2 := getObj_run (P := P) k2 (by intro c e f; simp)
        have hg' : (!(⟨seen⟩ : Array Nat).isEmpty && !(⟨es'⟩ : Array MapEntry).isEmpty && (⟨es'⟩ : Array MapEntry).all fun e => decide (e.born ≥ last)) = false := by
          have e1 : (⟨seen⟩ : Array Nat).isEmpty = seen.isEmpty := by simp
          have e2 : (⟨es'⟩ : Array MapEntry).isEmpty = es.isEmpty := by
            have := hes.isEmpty
            cases es <;> cases es' <;> simp_all
          have e3 : ((⟨es'⟩ : Array MapEntry).all fun e => decide (e.born ≥ last)) = es.all fun e => Nat.ble last e.2.2 := by
            rw [hes.all (p := fun n => Nat.ble last n)]
            rw [← Array.all_toList]
            congr 1
            funext e; exact dec_ble _ _
          rw [e1, e2, e3]; exact hg
        have hl := hes.filter (p := fun n => !memN n seen)
        have ho := hl.filter (p := fun n => Nat.blt n since)
        have hn := hl.filter (p := fun n => Nat.ble since n)
        have f1 : ((⟨es'⟩ : Array MapEntry).filter fun e => !(⟨seen⟩ : Array Nat).contains e.born) = ⟨es'.filter fun e => !memN e.born seen⟩ := by
          apply Array.ext'
          rw [Array.toList_filter]
          simp only
          congr 1
          funext e
          rw [memN_eq]
          simp
        have f3' : ∀ q : List MapEntry, ((⟨q⟩ : Array MapEntry).filter fun e => decide (e.born < since)) = ⟨q.filter fun e => Nat.blt e.born since⟩ := by
          intro q
          apply Array.ext'
          rw [Array.toList_filter]
          simp only
          congr 1
          funext e; exact dec_blt _ _
        have f4' : ∀ q : List MapEntry, ((⟨q⟩ : Array MapEntry).filter fun e => decide (e.born ≥ since)) = ⟨q.filter fun e => Nat.ble since e.born⟩ := by
          intro q
          apply Array.ext'
          rw [Array.toList_filter]
          simp only
          congr 1
          funext e; exact dec_ble _ _
        rw [hA] at ho
        rw [hC] at hn
        generalize hA' : (es'.filter fun e => !memN e.born seen).filter (fun e => Nat.blt e.born since) = A' at ho
        generalize hB' : (es'.filter fun e => !memN e.born seen).filter (fun e => Nat.ble since e.born) = C' at hn
        cases hn
        rw [h0]
        refine ⟨fun hne => ?_, fun he => ?_⟩
        · have hlen := ho.length
          have hpos : 0 < A'.length := by
            cases A with
            | nil => exact absurd rfl hne
            | cons _ _ => simp at hlen; omega
          have hemp : (⟨A'⟩ : Array MapEntry).isEmpty = false := by
            cases A' with
            | nil => simp at hpos
            | cons _ _ => simp
          obtain ⟨i, w1, c1, c2, c3⟩ := choose_run (P := P) A'.length hpos w
          obtain ⟨e, g1, g2, g3, g4⟩ := ho.get (List.getElem?_eq_getElem c2)
          have hw1 : w1.heap = w.heap := by rcases c3 with rfl | rfl <;> rfl
          have f2' : w1.heap[lo.b]? = some (.mapIter (some lm.b) since ⟨seen⟩ last) := by rw [hw1]; exact f2
          have hso := setObj_run (P := P) (o' := .mapIter (some lm.b) since ((⟨seen⟩ : Array Nat).push A'[i].born) clock) f2' (by intro c e f; simp)
          have hr1 : Rel α ρ H w1 := by
            rcases c3 with rfl | rfl
            · exact hr
            · exact hr.drew _
          have hev1 : Ev α ρ H w ρ H w1 := by
            rcases c3 with rfl | rfl
            · exact Ev.refl hr
            · exact Ev.drew hr _
          have hturn := turn_obj hr1 hB hlo f2' (BR.iter id lm since (seen ++ [e.2.2]) clock lo hlm h0)
          refine ⟨e, List.mem_of_getElem? g1, .tuple ⟨[.bool true, A'[i].key, A'[i].val]⟩, _, ?_, hev1.trans hturn, .tu _ _ (.cons _ _ _ _ (.b true) (.cons _ _ _ _ g2 (.cons _ _ _ _ g3 .nil)))⟩
          have hsz : ((if (⟨A'⟩ : Array MapEntry).isEmpty then #[none] else (#[] : Array (Option MapEntry))) ++ ((⟨A'⟩ : Array MapEntry) ++ ⟨[]⟩).map some) = ⟨A'.map some⟩ := by
            rw [hemp]
            apply Array.ext'
            simp
          simp only [Instr.next, Nat.add_zero, Sem.run_bind, hgo, Result.andThen_ok, hgo2, hg', Bool.false_eq_true, if_false, f1, f3', f4', hA', hB']
          rw [hsz]
          have hc1 : (choose (.mapNext (⟨A'.map some⟩ : Array (Option MapEntry)).size)).run P w = .ok i w1 := by
            have : (⟨A'.map some⟩ : Array (Option MapEntry)).size = A'.length := by simp
            rw [this]; exact c1
          rw [hc1]
          have hget : (⟨A'.map some⟩ : Array (Option MapEntry))[i]? = some (some A'[i]) := by simp [c2]
          simp only [Result.andThen_ok, hget, Sem.run_bind, hso, Sem.run_pure]
          have : ((⟨seen⟩ : Array Nat).push A'[i].born) = ⟨seen ++ [e.2.2]⟩ := by
            apply Array.ext'
            simp [g4]
          rw [this]
        · subst he
          cases ho
          refine ⟨w, ?_, Ev.refl hr⟩
          simp only [Instr.next, Nat.add_zero, Sem.run_bind, hgo, Result.andThen_ok, hgo2, hg', Bool.false_eq_true, if_false, f1, f3', f4', hA', hB']
          simp [Question.forced]
end
end Go.Twin
