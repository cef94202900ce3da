/- NodeNil: no node answers no node's answers, and the closed run of a node goes as the document says. -/
import Derived.Test.YtgcdilelbeobmaaGreatDoorNodeNilRow
import Derived.Test.YtgcdilelbeobmaaGreatDoorTie
import Derived.Test.YtgcdilelbeobmaaGreatDoorCards
import Derived.SevenTiedAt
namespace Go.Proofs.YtgcdilelbeobmaaGreatDoor
open Go.ChangeShapes Go.WideShapes Go.ChangeAt Go.RowKit
theorem card_holds : Rows.NodeNilCardSaid :=
  Claim7.holds_tied_plain_at .later [] [.data, .pinned] true (true, "55c561a7dc02a297ac9f62188c24d401a8c2fce2c17c912a601f1cb700909755") true holds (fun _ h => by cases h) (by kernel_rfl) (fun _ h => by cases h) nodeNil_row_tie rfl ⟨rfl, rfl⟩ (by kernel_rfl) rfl
    (fun f fn hf hfn => by
      obtain rfl : f = 3 := Option.some.inj ((show Tryz.prog.funcNamed "tabulary/tabularylaw26.NodeNil" = some 3 by kernel_rfl).symm.trans hf) |>.symm
      obtain rfl : fn = Tryz.f3 := (Option.some.inj (Tryz.func3.symm.trans hfn)).symm
      exact ⟨by kernel_rfl, fun j t ht => by
        rw [Tryz.params3] at ht
        have hm : t ∈ [32] := by simpa using Array.mem_of_getElem? ht
        have hall : ([32].all fun u => !Tryz.prog.wantsStandIn u) = true := by kernel_rfl
        exact (show Tryz.prog.wantsStandIn t = false by simpa using List.all_eq_true.1 hall t hm)⟩)
    (by kernel_rfl)
#print axioms card_holds
end Go.Proofs.YtgcdilelbeobmaaGreatDoor
