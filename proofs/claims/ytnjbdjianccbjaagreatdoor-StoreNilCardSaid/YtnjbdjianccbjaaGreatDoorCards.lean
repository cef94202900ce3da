/-
  DERIVED. GIVEN WITH THE SEED: THE CARDS: each row of YtnjbdjianccbjaaGreatDoorRows.lean that lists a variable, with what it lists TIED to the program's text (the seventh form; the later family's looks); each row that meets fmt, with fmt's text TOLD by the authors' own Lean function (tested against real Go, not proved from fmt's source: count such statements apart). THE CARD IS WHAT COUNTS. Prove the row's statement (the work); the ties are given (YtnjbdjianccbjaaGreatDoorTie.lean); close each card by the builder's one call (the guide's Derived/Test/ToyasCard.lean, 'card_holds'). Laid BY PROGRAM, IN A SANDBOX (cutbox-door.mjs). By AI agents, Wed Nov 11 2026. No macro, syntax, notation, axiom, sorry.
-/
import Derived.Test.YtnjbdjianccbjaaGreatDoorRows
import GoSem.ClaimSeven
namespace Go.Proofs.YtnjbdjianccbjaaGreatDoor
namespace Rows

/-- THE TIED CARD OF 'tabularylaw17.StoreRecords'. -/
def storeRecordsCard : Claim7 := { stood := { row := storeRecordsRow, standIns := [], harness := (true, "32d5181a6bb2de030b4391f65821b694d8e5bbe040628a40f904c5e649ffc32e"), looks := true }, kinds := [], alts := [], laidByText := true, laidKinds := [.data, .pinned], laidTests := true, laidLooks := .later }
def StoreRecordsCardSaid : Prop := Claim7.holds Tryz.pinned (.plain (OpenSpec.ofChange storeRecordsSpec)) storeRecordsCard

/-- THE TIED CARD OF 'tabularylaw17.StoreNil'. -/
def storeNilCard : Claim7 := { stood := { row := storeNilRow, standIns := [], harness := (true, "32d5181a6bb2de030b4391f65821b694d8e5bbe040628a40f904c5e649ffc32e"), looks := true }, kinds := [], alts := [], laidByText := true, laidKinds := [.data, .pinned], laidTests := true, laidLooks := .later }
def StoreNilCardSaid : Prop := Claim7.holds Tryz.pinned (.plain (OpenSpec.ofChange storeNilSpec)) storeNilCard

/-- THE TIED CARD OF 'tabularylaw17.StoreRots'. -/
def storeRotsCard : Claim7 := { stood := { row := storeRotsRow, standIns := [], harness := (true, "32d5181a6bb2de030b4391f65821b694d8e5bbe040628a40f904c5e649ffc32e"), looks := true }, kinds := [], alts := [], laidByText := true, laidKinds := [.data, .pinned], laidTests := true, laidLooks := .later }
def StoreRotsCardSaid : Prop := Claim7.holds Tryz.pinned (.plain (OpenSpec.ofChange storeRotsSpec)) storeRotsCard

/-- THE TIED CARD OF 'tabularylaw17.StoreWhole'. -/
def storeWholeCard : Claim7 := { stood := { row := storeWholeRow, standIns := [], harness := (true, "32d5181a6bb2de030b4391f65821b694d8e5bbe040628a40f904c5e649ffc32e"), looks := true }, kinds := [], alts := [], laidByText := true, laidKinds := [.data, .pinned], laidTests := true, laidLooks := .later }
def StoreWholeCardSaid : Prop := Claim7.holds Tryz.pinned (.plain (OpenSpec.ofChange storeWholeSpec)) storeWholeCard

/-- THE SECOND FORM's CARD OF 'tabularylaw17.StoreRecords'. -/
def storeRecordsUptoCard : Claim7 := { stood := { row := storeRecordsUptoRow, standIns := [], harness := (true, "32d5181a6bb2de030b4391f65821b694d8e5bbe040628a40f904c5e649ffc32e"), looks := true }, kinds := [], alts := [], laidByText := true, laidKinds := [.data, .pinned], laidTests := true, laidLooks := .later }
def StoreRecordsUptoCardSaid : Prop := Claim7.holds Tryz.pinned (.plain (OpenSpec.upto storeRecordsSpec)) storeRecordsUptoCard

/-- THE SECOND FORM's CARD OF 'tabularylaw17.StoreNil'. -/
def storeNilUptoCard : Claim7 := { stood := { row := storeNilUptoRow, standIns := [], harness := (true, "32d5181a6bb2de030b4391f65821b694d8e5bbe040628a40f904c5e649ffc32e"), looks := true }, kinds := [], alts := [], laidByText := true, laidKinds := [.data, .pinned], laidTests := true, laidLooks := .later }
def StoreNilUptoCardSaid : Prop := Claim7.holds Tryz.pinned (.plain (OpenSpec.upto storeNilSpec)) storeNilUptoCard

/-- THE SECOND FORM's CARD OF 'tabularylaw17.StoreRots'. -/
def storeRotsUptoCard : Claim7 := { stood := { row := storeRotsUptoRow, standIns := [], harness := (true, "32d5181a6bb2de030b4391f65821b694d8e5bbe040628a40f904c5e649ffc32e"), looks := true }, kinds := [], alts := [], laidByText := true, laidKinds := [.data, .pinned], laidTests := true, laidLooks := .later }
def StoreRotsUptoCardSaid : Prop := Claim7.holds Tryz.pinned (.plain (OpenSpec.upto storeRotsSpec)) storeRotsUptoCard

/-- THE SECOND FORM's CARD OF 'tabularylaw17.StoreWhole'. -/
def storeWholeUptoCard : Claim7 := { stood := { row := storeWholeUptoRow, standIns := [], harness := (true, "32d5181a6bb2de030b4391f65821b694d8e5bbe040628a40f904c5e649ffc32e"), looks := true }, kinds := [], alts := [], laidByText := true, laidKinds := [.data, .pinned], laidTests := true, laidLooks := .later }
def StoreWholeUptoCardSaid : Prop := Claim7.holds Tryz.pinned (.plain (OpenSpec.upto storeWholeSpec)) storeWholeUptoCard
end Rows
end Go.Proofs.YtnjbdjianccbjaaGreatDoor
