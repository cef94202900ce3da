/- NodeNil: the closed run, by the kernel. -/
import Derived.Test.YtgcdilelbeobmaaGreatDoorNodeNilLit1
namespace Go.Proofs.YtgcdilelbeobmaaGreatDoor
theorem run : Twin.isT (Twin.callC (Twin.envL Tryz.prog lits1) 400000 3 [.ag (Twin.atms 0 18)] ⟨.leaf, 100⟩) = true := by kernel_rfl
end Go.Proofs.YtgcdilelbeobmaaGreatDoor
