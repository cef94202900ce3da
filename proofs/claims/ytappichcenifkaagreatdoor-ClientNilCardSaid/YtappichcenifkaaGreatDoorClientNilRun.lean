/- ClientNil returns true for every input: the closed run, by the kernel. -/
import Derived.Test.YtappichcenifkaaGreatDoorProg
import Derived.Test.YtappichcenifkaaGreatDoorTwinRow
import Derived.KernelRfl
namespace Go.Proofs.YtappichcenifkaaGreatDoor
theorem run : Twin.isT (Twin.callC (Twin.env0 Tryz.prog) 400000 3 [.ag (Twin.atms 0 19)] ⟨.leaf, 100⟩) = true := by kernel_rfl

end Go.Proofs.YtappichcenifkaaGreatDoor
