/-
  The sum of some bytes, run.
-/
import Derived.Test.YtkhpjkbfkebonaaGreatEvSeatTabs
set_option maxRecDepth 100000
set_option linter.unusedSimpArgs false
set_option linter.unusedVariables false
open Go Go.Ev
namespace Go.Proofs.YtkhpjkbfkebonaaGreat
noncomputable def sum_B : List Value := [.int .u8 (.ofNat 62), .int .u8 (.ofNat 35), .int .u8 (.ofNat 232), .int .u8 (.ofNat 22), .int .u8 (.ofNat 0), .int .u8 (.ofNat 57), .int .u8 (.ofNat 89), .int .u8 (.ofNat 74), .int .u8 (.ofNat 51), .int .u8 (.ofNat 137), .int .u8 (.ofNat 79), .int .u8 (.ofNat 101), .int .u8 (.ofNat 100), .int .u8 (.ofNat 225), .int .u8 (.ofNat 177), .int .u8 (.ofNat 52), .int .u8 (.ofNat 139), .int .u8 (.ofNat 189), .int .u8 (.ofNat 122), .int .u8 (.ofNat 0), .int .u8 (.ofNat 136), .int .u8 (.ofNat 212), .int .u8 (.ofNat 44), .int .u8 (.ofNat 74), .int .u8 (.ofNat 203), .int .u8 (.ofNat 115), .int .u8 (.ofNat 238), .int .u8 (.ofNat 174), .int .u8 (.ofNat 213), .int .u8 (.ofNat 156), .int .u8 (.ofNat 0), .int .u8 (.ofNat 157)]
theorem run_B : ∀ el, memoRun (tabOf [] [] []) 100000 102 el [98] = .ok (.agg ⟨sum_B⟩) := by
  intro el
  kernel_rfl
theorem plain_B : ∀ x ∈ sum_B, plainV x = true := by
  have h : sum_B.all plainV = true := by kernel_rfl
  exact List.all_eq_true.1 h
end Go.Proofs.YtkhpjkbfkebonaaGreat
