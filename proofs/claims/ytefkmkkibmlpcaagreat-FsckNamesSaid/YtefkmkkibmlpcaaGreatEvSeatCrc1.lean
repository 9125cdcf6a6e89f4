/-
  The check sum of a text, run.
-/
import Derived.Test.YtefkmkkibmlpcaaGreatEvSeatTabs
set_option maxRecDepth 100000
set_option linter.unusedSimpArgs false
set_option linter.unusedVariables false
open Go Go.Ev
namespace Go.Proofs.YtefkmkkibmlpcaaGreat
noncomputable def crcT1 : List UInt8 := [68, 70, 83, 0, 0, 0, 0, 51, 0, 0, 0, 0, 0, 0, 0, 1, 0, 0, 0, 10, 0, 0, 2, 0, 0, 0, 0, 64, 0, 0, 0, 8, 0, 0, 0, 4, 0, 0, 0, 16, 0, 0, 0, 64, 0, 0, 0, 128, 0, 0, 0, 0, 0, 0, 0, 7, 1, 0, 1]
noncomputable def crcV1 : Value := .int .u32 (.ofNat 1815658977)
theorem run_crc1 : callRun (tabOf [] [] []) 1000000 124 [.string ⟨⟨crcT1⟩⟩] = .ok crcV1 := by kernel_rfl
end Go.Proofs.YtefkmkkibmlpcaaGreat
