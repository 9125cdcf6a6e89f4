/-
  The sum of some bytes, run.
-/
import Derived.Test.YtkhpjkbfkebonaaGreatEvSeatTabs
set_option maxRecDepth 100000
set_option linter.unusedSimpArgs false
set_option linter.unusedVariables false
open Go Go.Ev
namespace Go.Proofs.YtkhpjkbfkebonaaGreat
noncomputable def sum_A : List Value := [.int .u8 (.ofNat 202), .int .u8 (.ofNat 151), .int .u8 (.ofNat 129), .int .u8 (.ofNat 18), .int .u8 (.ofNat 202), .int .u8 (.ofNat 27), .int .u8 (.ofNat 189), .int .u8 (.ofNat 202), .int .u8 (.ofNat 250), .int .u8 (.ofNat 194), .int .u8 (.ofNat 49), .int .u8 (.ofNat 179), .int .u8 (.ofNat 154), .int .u8 (.ofNat 35), .int .u8 (.ofNat 220), .int .u8 (.ofNat 77), .int .u8 (.ofNat 167), .int .u8 (.ofNat 134), .int .u8 (.ofNat 239), .int .u8 (.ofNat 248), .int .u8 (.ofNat 20), .int .u8 (.ofNat 124), .int .u8 (.ofNat 78), .int .u8 (.ofNat 114), .int .u8 (.ofNat 185), .int .u8 (.ofNat 128), .int .u8 (.ofNat 119), .int .u8 (.ofNat 133), .int .u8 (.ofNat 175), .int .u8 (.ofNat 238), .int .u8 (.ofNat 72), .int .u8 (.ofNat 187)]
theorem run_A : ∀ el, memoRun (tabOf [] [] []) 100000 102 el [97] = .ok (.agg ⟨sum_A⟩) := by
  intro el
  kernel_rfl
theorem plain_A : ∀ x ∈ sum_A, plainV x = true := by
  have h : sum_A.all plainV = true := by kernel_rfl
  exact List.all_eq_true.1 h
end Go.Proofs.YtkhpjkbfkebonaaGreat
