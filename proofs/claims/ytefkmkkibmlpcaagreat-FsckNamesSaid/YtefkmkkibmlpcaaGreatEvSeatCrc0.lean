/-
  The check sum of a text, run.
-/
import Derived.Test.YtefkmkkibmlpcaaGreatEvSeatTabs
set_option maxRecDepth 100000
set_option linter.unusedSimpArgs false
set_option linter.unusedVariables false
open Go Go.Ev
namespace Go.Proofs.YtefkmkkibmlpcaaGreat
noncomputable def crcT0 : List UInt8 := [68, 78, 79, 68, 1, 0, 0, 2, 0, 0, 0, 39, 9, 13, 105, 0, 0, 0, 0, 0, 0, 0, 1, 2, 0, 0, 0, 0, 0, 0, 0, 2, 0, 0, 0, 1, 1, 12, 115, 0, 0, 0, 2, 0, 0, 0, 1, 0, 0, 0, 1]
noncomputable def crcV0 : Value := .int .u32 (.ofNat 3399128841)
theorem run_crc0 : callRun (tabOf [] [] []) 1000000 124 [.string ⟨⟨crcT0⟩⟩] = .ok crcV0 := by kernel_rfl
end Go.Proofs.YtefkmkkibmlpcaaGreat
