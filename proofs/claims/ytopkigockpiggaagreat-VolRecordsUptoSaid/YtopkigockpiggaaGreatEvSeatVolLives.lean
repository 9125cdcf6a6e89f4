/-
  lives, run, where the work of Open is known.
-/
import Derived.Test.YtopkigockpiggaaGreatEvSeatOpenSnap
set_option maxRecDepth 100000
set_option linter.unusedSimpArgs false
set_option linter.unusedVariables false
open Go Go.Ev
namespace Go.Proofs.YtopkigockpiggaaGreat
theorem lives_run : callRun (tabOf [176, 258, 245, 18] memo1 tell1 [ruleOpen]) 1000000 6 [] = .ok (.bool true) := by kernel_rfl
end Go.Proofs.YtopkigockpiggaaGreat
