/- StoreNil: no store answers no store's answers, and the closed run of a store goes as the document says. -/
import Derived.Test.YtnjbdjianccbjaaGreatDoorStoreNilRow
import Derived.Test.YtnjbdjianccbjaaGreatDoorTie
import Derived.Test.YtnjbdjianccbjaaGreatDoorCards
import Derived.SevenTiedAt
namespace Go.Proofs.YtnjbdjianccbjaaGreatDoor
open Go.ChangeShapes Go.WideShapes Go.ChangeAt Go.RowKit
theorem card_holds : Rows.StoreNilCardSaid :=
  Claim7.holds_tied_plain_at .later [] [.data, .pinned] true (true, "32d5181a6bb2de030b4391f65821b694d8e5bbe040628a40f904c5e649ffc32e") true holds (fun _ h => by cases h) (by kernel_rfl) (fun _ h => by cases h) storeNil_row_tie rfl ⟨rfl, rfl⟩ (by kernel_rfl) rfl
    (fun f fn hf hfn => by
      obtain rfl : f = 4 := Option.some.inj ((show Tryz.prog.funcNamed "tabulary/tabularylaw17.StoreNil" = some 4 by kernel_rfl).symm.trans hf) |>.symm
      obtain rfl : fn = Tryz.f4 := (Option.some.inj (Tryz.func4.symm.trans hfn)).symm
      exact ⟨by kernel_rfl, fun j t ht => by
        rw [Tryz.params4] at ht
        have hm : t ∈ [51, 3, 23] := by simpa using Array.mem_of_getElem? ht
        have hall : ([51, 3, 23].all fun u => !Tryz.prog.wantsStandIn u) = true := by kernel_rfl
        exact (show Tryz.prog.wantsStandIn t = false by simpa using List.all_eq_true.1 hall t hm)⟩)
    (by kernel_rfl)
#print axioms card_holds
end Go.Proofs.YtnjbdjianccbjaaGreatDoor
