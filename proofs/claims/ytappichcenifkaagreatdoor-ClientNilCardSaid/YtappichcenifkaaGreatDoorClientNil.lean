/- ClientNil returns true for every input: no client answers no client's answers, and the closed run of a client goes as the document says. -/
import Derived.Test.YtappichcenifkaaGreatDoorClientNilRow
import Derived.Test.YtappichcenifkaaGreatDoorTie
import Derived.Test.YtappichcenifkaaGreatDoorCards
import Derived.SevenTiedAt
namespace Go.Proofs.YtappichcenifkaaGreatDoor
open Go.ChangeShapes Go.WideShapes Go.ChangeAt Go.RowKit
theorem card_holds : Rows.ClientNilCardSaid :=
  Claim7.holds_tied_plain_at .later [] [.data, .data, .data, .data, .data, .data, .pinned] true (true, "2378c24093f68dff2af4586674ccb5f8a89577b815da9d0930c96ed187329900") true holds (fun _ h => by cases h) (by kernel_rfl) (fun _ h => by cases h) clientNil_row_tie rfl ⟨rfl, rfl⟩ (by kernel_rfl) rfl
    (fun f fn hf hfn => by
      obtain rfl : f = 3 := Option.some.inj ((show Tryz.prog.funcNamed "tabulary/tabularylaw27.ClientNil" = some 3 by kernel_rfl).symm.trans hf) |>.symm
      obtain rfl : fn = Tryz.f3 := (Option.some.inj (Tryz.func3.symm.trans hfn)).symm
      exact ⟨by kernel_rfl, fun j t ht => by
        rw [Tryz.params3] at ht
        have hm : t ∈ [34] := by simpa using Array.mem_of_getElem? ht
        have hall : ([34].all fun u => !Tryz.prog.wantsStandIn u) = true := by kernel_rfl
        exact (show Tryz.prog.wantsStandIn t = false by simpa using List.all_eq_true.1 hall t hm)⟩)
    (by kernel_rfl)
#print axioms card_holds
end Go.Proofs.YtappichcenifkaaGreatDoor
