/- The row's closed facts, each by the kernel. -/
import Derived.Test.YtgcdilelbeobmaaGreatDoorRows
import Derived.Test.YtgcdilelbeobmaaGreatDoorTwinFacts
import Derived.KernelRfl
namespace Go.Proofs.YtgcdilelbeobmaaGreatDoor
namespace Fact
theorem a1 : Rows.nodeNilRow.wf (OpenSpec.ofChange Rows.nodeNilSpec) = true := by kernel_rfl
theorem a2 : laidOutB Tryz.prog = true := by kernel_rfl
theorem a3 : mapsRowed Tryz.prog = true := by kernel_rfl
theorem b1 : Tryz.f3.params.all (Tryz.prog.readableRec ·) = true := by kernel_rfl
theorem b2 : namedTie Tryz.prog Rows.nodeNilRow.named Rows.nodeNilSpec.vars = true := by kernel_rfl
theorem d1 : (Rows.nodeNilRow.stops == []) = true := by kernel_rfl
theorem d2 : (Tryz.prog.stops == []) = true := by kernel_rfl
theorem d3 : (Rows.nodeNilRow.knobs == []) = true := by kernel_rfl
theorem d4 : (Tryz.prog.stopKnobs == []) = true := by kernel_rfl
theorem e1 : (Rows.nodeNilRow.inPlace == Tryz.prog.inPlace 3) = true := by kernel_rfl
theorem e2 : (Rows.nodeNilRow.unfollowed == Tryz.prog.unfollowed 3) = true := by kernel_rfl
theorem e3 : (Rows.nodeNilRow.recurses == Tryz.prog.recurses 3) = true := by kernel_rfl
theorem e4 : (Rows.nodeNilRow.named == Tryz.prog.varsNamed 3) = true := by kernel_rfl
theorem g1 : (Rows.nodeNilRow.maps == (Tryz.f3.params.toList ++ Rows.nodeNilSpec.plain.varTypes Tryz.prog).any (Tryz.prog.mapsRec ·)) = true := by kernel_rfl
theorem g2 : (Rows.nodeNilRow.ifaces == (Tryz.f3.params.toList ++ Rows.nodeNilSpec.plain.varTypes Tryz.prog).any (Tryz.prog.ifacesRec ·)) = true := by kernel_rfl
theorem g3 : (Rows.nodeNilRow.mapsOut == Tryz.prog.mapsAmong Tryz.f3.resultTypes.toList) = true := by kernel_rfl
theorem h1 : (Rows.nodeNilRow.loops == (Tryz.f3.params.toList ++ Rows.nodeNilSpec.plain.varTypes Tryz.prog).any (Tryz.prog.loopsFrom ·)) = true := by kernel_rfl
theorem h2 : (Rows.nodeNilRow.wideKeys == (Tryz.f3.params.toList ++ Rows.nodeNilSpec.plain.varTypes Tryz.prog ++ Tryz.f3.resultTypes.toList).any (Tryz.prog.wideKeysFrom ·)) = true := by kernel_rfl
theorem i1 : Rows.nodeNilSpec.vars.all (Tryz.prog.varReadable ·) = true := by kernel_rfl
theorem i2 : Tryz.f3.resultTypes.all (fun t => Tryz.prog.readableRec t && decide (t < Tryz.prog.types.size)) = true := by kernel_rfl
theorem i3 : (Rows.nodeNilRow.ifacesOut == Tryz.f3.resultTypes.toList.any (Tryz.prog.ifacesRec ·)) = true := by kernel_rfl
theorem i4 : (Rows.nodeNilRow.loopsOut == Tryz.f3.resultTypes.toList.any (Tryz.prog.loopsFrom ·)) = true := by kernel_rfl
theorem i5 : (Rows.nodeNilRow.plainKeys == Tryz.prog.plainKeys) = true := by kernel_rfl
theorem i6 : Rows.nodeNilRow.shortTexts.isNone = true := by kernel_rfl
theorem j1 : Tryz.prog.stopsHeard = true := by kernel_rfl
theorem j2 : Tryz.prog.mayEnter = true := by kernel_rfl
theorem j3 : (Rows.nodeNilRow.lifted == Tryz.prog.liftsFinal) = true := by kernel_rfl
theorem j4 : (Tryz.prog.make == some Rows.nodeNilRow.make) = true := by kernel_rfl
theorem j5 : (Rows.nodeNilRow.kinds == []) = true := by kernel_rfl
theorem j7 : Rows.nodeNilRow.domain.isEmpty = true := by kernel_rfl
theorem j6 : (Rows.nodeNilRow.pinned == Rows.nodeNilRow.pinnedBy) = true := by kernel_rfl
theorem k1 : (Rows.nodeNilRow.veiled == (Tryz.f3.params.toList ++ Rows.nodeNilSpec.plain.varTypes Tryz.prog ++ Tryz.f3.resultTypes.toList).any (Tryz.prog.veiledRec ·)) = true := by kernel_rfl
theorem k2 : Rows.nodeNilRow.veiledFits Tryz.prog Tryz.f3.params.toList (Tryz.f3.params.toList ++ Rows.nodeNilSpec.plain.varTypes Tryz.prog ++ Tryz.f3.resultTypes.toList) = true := by kernel_rfl
end Fact
open Fact in
theorem facts : joinedFacts Tryz.prog 3 Tryz.f3 Rows.nodeNilSpec Rows.nodeNilRow = true :=
  Twin.joined_of a1 a2 a3 b1 b2 d1 d2 d3 d4 e1 e2 e3 e4 g1 g2 g3 h1 h2 i1 i2 i3 i4 i5 i6 j1 j2 j3 j4 j5 j7 j6 k1 k2
end Go.Proofs.YtgcdilelbeobmaaGreatDoor
