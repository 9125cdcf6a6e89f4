/-
  awake, run.
-/
import Derived.Test.YtefkmkkibmlpcaaGreatEvSeatMid
set_option maxRecDepth 100000
set_option linter.unusedSimpArgs false
set_option linter.unusedVariables false
open Go Go.Ev
namespace Go.Proofs.YtefkmkkibmlpcaaGreat
theorem awake_run : callRun (tabOf [297, 124] [] tell1) 1000000 4 [] = .ok (.bool true) := by kernel_rfl
end Go.Proofs.YtefkmkkibmlpcaaGreat
