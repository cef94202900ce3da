/- NodeNil: a call reckoned once. -/
import Derived.Test.YtgcdilelbeobmaaGreatDoorNodeNilLit0
namespace Go.Proofs.YtgcdilelbeobmaaGreatDoor
open Twin (nums)
def lBlocks : Twin.Lit := ⟨34, [.i .u64 7, .i .u8 0, .i .i64 2], .sl 487 0 2 2 1, [(487, [.sl 241 0 128 128 1, .sl 485 0 128 128 1]), (485, nums .u8 [84, 66, 76, 75, 0, 0, 0, 0, 0, 0, 0, 7, 0, 0, 0, 1, 0, 2, 0, 0, 0, 0, 0, 0, 0, 0, 0, 0, 1, 7, 0, 0, 0, 0, 0, 0, 0, 0, 0, 0, 0, 0, 0, 0, 0, 0, 0, 0, 0, 0, 0, 0, 0, 0, 0, 0, 0, 0, 0, 0, 0, 0, 0, 0, 0, 0, 0, 0, 0, 0, 0, 0, 0, 0, 0, 0, 0, 0, 0, 0, 0, 0, 0, 0, 0, 0, 0, 0, 0, 0, 0, 0, 0, 0, 0, 0, 0, 0, 0, 0, 0, 0, 0, 0, 0, 0, 0, 0, 0, 0, 0, 0, 0, 0, 0, 0, 0, 0, 0, 0, 0, 0, 0, 0, 204, 212, 23, 103]), (241, nums .u8 [84, 66, 76, 75, 0, 0, 0, 0, 0, 0, 0, 7, 0, 0, 0, 0, 0, 2, 0, 0, 0, 0, 0, 0, 0, 0, 0, 0, 0, 7, 0, 0, 0, 0, 0, 0, 0, 0, 0, 0, 0, 0, 0, 0, 0, 0, 0, 0, 0, 0, 0, 0, 0, 0, 0, 0, 0, 0, 0, 0, 0, 0, 0, 0, 0, 0, 0, 0, 0, 0, 0, 0, 0, 0, 0, 0, 0, 0, 0, 0, 0, 0, 0, 0, 0, 0, 0, 0, 0, 0, 0, 0, 0, 0, 0, 0, 0, 0, 0, 0, 0, 0, 0, 0, 0, 0, 0, 0, 0, 0, 0, 0, 0, 0, 0, 0, 0, 0, 0, 0, 0, 0, 0, 0, 221, 207, 187, 223])], 488⟩
theorem lBlocks_ok : Twin.litCk (Twin.callC (Twin.envL Tryz.prog lits0) 100000 lBlocks.f lBlocks.args ⟨.leaf, 0⟩) lBlocks = true := by kernel_rfl
noncomputable def lits1 : List Twin.Lit := lBlocks :: lits0
theorem lits1_ok : Twin.LitOK Tryz.prog lits1 := Twin.litOK_cons lits0_ok 100000 lBlocks_ok
end Go.Proofs.YtgcdilelbeobmaaGreatDoor
