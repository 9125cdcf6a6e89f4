/-
  Open, run from the disk as it lies there.
-/
import Derived.Test.YtopkigockpiggaaGreatEvSeatOpenSnap
set_option maxRecDepth 100000
set_option linter.unusedSimpArgs false
set_option linter.unusedVariables false
open Go Go.Ev
namespace Go.Proofs.YtopkigockpiggaaGreat
theorem open_run : ruleRun (tabOf [176, 258, 245, 18] memo1 tell1 []) 1000000 ruleOpen = .ok true := by kernel_rfl
end Go.Proofs.YtopkigockpiggaaGreat
