/-
  lives, run.
-/
import Derived.Test.YtkhpjkbfkebonaaGreatEvSeatMid
set_option maxRecDepth 100000
set_option linter.unusedSimpArgs false
set_option linter.unusedVariables false
open Go Go.Ev
namespace Go.Proofs.YtkhpjkbfkebonaaGreat
theorem lives_Chunk : callRun (tabOf [250, 102] memo1 []) 100000 11 [] = .ok (.bool true) := by kernel_rfl
end Go.Proofs.YtkhpjkbfkebonaaGreat
