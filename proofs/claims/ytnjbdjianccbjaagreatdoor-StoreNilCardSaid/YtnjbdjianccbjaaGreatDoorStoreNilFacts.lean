/- The row's closed facts, each by the kernel. -/
import Derived.Test.YtnjbdjianccbjaaGreatDoorRows
import Derived.Test.YtnjbdjianccbjaaGreatDoorTwinFacts
import Derived.KernelRfl
namespace Go.Proofs.YtnjbdjianccbjaaGreatDoor
namespace Fact
theorem a1 : Rows.storeNilRow.wf (OpenSpec.ofChange Rows.storeNilSpec) = true := by kernel_rfl
theorem a2 : laidOutB Tryz.prog = true := by kernel_rfl
theorem a3 : mapsRowed Tryz.prog = true := by kernel_rfl
theorem b1 : Tryz.f4.params.all (Tryz.prog.readableRec ·) = true := by kernel_rfl
theorem b2 : namedTie Tryz.prog Rows.storeNilRow.named Rows.storeNilSpec.vars = true := by kernel_rfl
theorem d1 : (Rows.storeNilRow.stops == []) = true := by kernel_rfl
theorem d2 : (Tryz.prog.stops == []) = true := by kernel_rfl
theorem d3 : (Rows.storeNilRow.knobs == []) = true := by kernel_rfl
theorem d4 : (Tryz.prog.stopKnobs == []) = true := by kernel_rfl
theorem e1 : (Rows.storeNilRow.inPlace == Tryz.prog.inPlace 4) = true := by kernel_rfl
theorem e2 : (Rows.storeNilRow.unfollowed == Tryz.prog.unfollowed 4) = true := by kernel_rfl
theorem e3 : (Rows.storeNilRow.recurses == Tryz.prog.recurses 4) = true := by kernel_rfl
theorem e4 : (Rows.storeNilRow.named == Tryz.prog.varsNamed 4) = true := by kernel_rfl
theorem g1 : (Rows.storeNilRow.maps == (Tryz.f4.params.toList ++ Rows.storeNilSpec.plain.varTypes Tryz.prog).any (Tryz.prog.mapsRec ·)) = true := by kernel_rfl
theorem g2 : (Rows.storeNilRow.ifaces == (Tryz.f4.params.toList ++ Rows.storeNilSpec.plain.varTypes Tryz.prog).any (Tryz.prog.ifacesRec ·)) = true := by kernel_rfl
theorem g3 : (Rows.storeNilRow.mapsOut == Tryz.prog.mapsAmong Tryz.f4.resultTypes.toList) = true := by kernel_rfl
theorem h1 : (Rows.storeNilRow.loops == (Tryz.f4.params.toList ++ Rows.storeNilSpec.plain.varTypes Tryz.prog).any (Tryz.prog.loopsFrom ·)) = true := by kernel_rfl
theorem h2 : (Rows.storeNilRow.wideKeys == (Tryz.f4.params.toList ++ Rows.storeNilSpec.plain.varTypes Tryz.prog ++ Tryz.f4.resultTypes.toList).any (Tryz.prog.wideKeysFrom ·)) = true := by kernel_rfl
theorem i1 : Rows.storeNilSpec.vars.all (Tryz.prog.varReadable ·) = true := by kernel_rfl
theorem i2 : Tryz.f4.resultTypes.all (fun t => Tryz.prog.readableRec t && decide (t < Tryz.prog.types.size)) = true := by kernel_rfl
theorem i3 : (Rows.storeNilRow.ifacesOut == Tryz.f4.resultTypes.toList.any (Tryz.prog.ifacesRec ·)) = true := by kernel_rfl
theorem i4 : (Rows.storeNilRow.loopsOut == Tryz.f4.resultTypes.toList.any (Tryz.prog.loopsFrom ·)) = true := by kernel_rfl
theorem i5 : (Rows.storeNilRow.plainKeys == Tryz.prog.plainKeys) = true := by kernel_rfl
theorem i6 : Rows.storeNilRow.shortTexts.isNone = true := by kernel_rfl
theorem j1 : Tryz.prog.stopsHeard = true := by kernel_rfl
theorem j2 : Tryz.prog.mayEnter = true := by kernel_rfl
theorem j3 : (Rows.storeNilRow.lifted == Tryz.prog.liftsFinal) = true := by kernel_rfl
theorem j4 : (Tryz.prog.make == some Rows.storeNilRow.make) = true := by kernel_rfl
theorem j5 : (Rows.storeNilRow.kinds == []) = true := by kernel_rfl
theorem j7 : Rows.storeNilRow.domain.isEmpty = true := by kernel_rfl
theorem j6 : (Rows.storeNilRow.pinned == Rows.storeNilRow.pinnedBy) = true := by kernel_rfl
theorem k1 : (Rows.storeNilRow.veiled == (Tryz.f4.params.toList ++ Rows.storeNilSpec.plain.varTypes Tryz.prog ++ Tryz.f4.resultTypes.toList).any (Tryz.prog.veiledRec ·)) = true := by kernel_rfl
theorem k2 : Rows.storeNilRow.veiledFits Tryz.prog Tryz.f4.params.toList (Tryz.f4.params.toList ++ Rows.storeNilSpec.plain.varTypes Tryz.prog ++ Tryz.f4.resultTypes.toList) = true := by kernel_rfl
end Fact
open Fact in
theorem facts : joinedFacts Tryz.prog 4 Tryz.f4 Rows.storeNilSpec Rows.storeNilRow = true :=
  Twin.joined_of a1 a2 a3 b1 b2 d1 d2 d3 d4 e1 e2 e3 e4 g1 g2 g3 h1 h2 i1 i2 i3 i4 i5 i6 j1 j2 j3 j4 j5 j7 j6 k1 k2
end Go.Proofs.YtnjbdjianccbjaaGreatDoor
