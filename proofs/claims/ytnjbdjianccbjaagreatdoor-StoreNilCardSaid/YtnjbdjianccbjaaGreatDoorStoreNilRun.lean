/- StoreNil: the closed run, by the kernel. -/
import Derived.Test.YtnjbdjianccbjaaGreatDoorStoreNilLit1
namespace Go.Proofs.YtnjbdjianccbjaaGreatDoor
theorem run : Twin.isT (Twin.callC (Twin.envL Tryz.prog lits1) 400000 4 (Twin.atms 0 3) ⟨.leaf, 100⟩) = true := by kernel_rfl
end Go.Proofs.YtnjbdjianccbjaaGreatDoor
