/-
  The sum of some bytes, run.
-/
import Derived.Test.YtopkigockpiggaaGreatEvSeatTabs
set_option maxRecDepth 100000
set_option linter.unusedSimpArgs false
set_option linter.unusedVariables false
open Go Go.Ev
namespace Go.Proofs.YtopkigockpiggaaGreat
noncomputable def sum_Abc : List Value := [.int .u8 (.ofNat 186), .int .u8 (.ofNat 120), .int .u8 (.ofNat 22), .int .u8 (.ofNat 191), .int .u8 (.ofNat 143), .int .u8 (.ofNat 1), .int .u8 (.ofNat 207), .int .u8 (.ofNat 234), .int .u8 (.ofNat 65), .int .u8 (.ofNat 65), .int .u8 (.ofNat 64), .int .u8 (.ofNat 222), .int .u8 (.ofNat 93), .int .u8 (.ofNat 174), .int .u8 (.ofNat 34), .int .u8 (.ofNat 35), .int .u8 (.ofNat 176), .int .u8 (.ofNat 3), .int .u8 (.ofNat 97), .int .u8 (.ofNat 163), .int .u8 (.ofNat 150), .int .u8 (.ofNat 23), .int .u8 (.ofNat 122), .int .u8 (.ofNat 156), .int .u8 (.ofNat 180), .int .u8 (.ofNat 16), .int .u8 (.ofNat 255), .int .u8 (.ofNat 97), .int .u8 (.ofNat 242), .int .u8 (.ofNat 0), .int .u8 (.ofNat 21), .int .u8 (.ofNat 173)]
theorem run_Abc : ∀ el, memoRun (tabOf [] [] []) 100000 258 el [97, 98, 99] = .ok (.agg ⟨sum_Abc⟩) := by
  intro el
  kernel_rfl
theorem plain_Abc : ∀ x ∈ sum_Abc, plainV x = true := by
  have h : sum_Abc.all plainV = true := by kernel_rfl
  exact List.all_eq_true.1 h
end Go.Proofs.YtopkigockpiggaaGreat
