/-
  What the evaluator is told: the sums of three texts.
-/
import Derived.Test.YtkhpjkbfkebonaaGreatEvSeatIns
import Derived.Test.YtkhpjkbfkebonaaGreatEvSeatSumA
import Derived.Test.YtkhpjkbfkebonaaGreatEvSeatSumB
import Derived.Test.YtkhpjkbfkebonaaGreatEvSeatSumAbc
set_option maxRecDepth 100000
set_option linter.unusedSimpArgs false
set_option linter.unusedVariables false
open Go Go.Ev
namespace Go.Proofs.YtkhpjkbfkebonaaGreat
theorem mixed : Tryz.prog.follows .mixedOrders = true := by kernel_rfl
theorem ok0 : AllOK Tryz.prog (tabOf [] [] []) :=
  ⟨mixed, tabOK _ _ _, insOK _ _ _ (fun f fd h => (by cases h)), fun f b vs h => (by cases h), fun f l v h => (by cases h)⟩
noncomputable def memo1 : List (FuncId × List Nat × List Value) := [(102, [97], sum_A), (102, [98], sum_B), (102, [97, 98, 99], sum_Abc)]
theorem notThree {ins : List FuncId} (h : ins.all (fun f => f == 250 || (match Tryz.prog.funcs[f]? with | some fd => fd.params.toList.length != 3 | none => true)) = true) :
    ∀ f fd, ins.contains f = true → f ≠ 250 → Tryz.prog.funcs[f]? = some fd → fd.params.toList.length ≠ 3 := by
  intro f fd hf hne hfd
  have h1 := List.all_eq_true.1 h f (by simpa using hf)
  rw [hfd] at h1
  simp only [Bool.or_eq_true, beq_iff_eq, bne_iff_ne] at h1
  rcases h1 with h1 | h1
  · exact absurd h1 hne
  · exact h1
theorem ok1 : AllOK Tryz.prog (tabOf [250, 102] memo1 []) := by
  refine ⟨mixed, tabOK _ _ _, insOK _ _ _ (notThree (by kernel_rfl)), fun f b vs h hm => ?_, fun f l v h hm => (by cases hm)⟩
  have := memoFind_mem hm
  simp only [tabOf, memo1, List.mem_cons, List.mem_nil_iff, or_false, Prod.mk.injEq] at this
  rcases this with ⟨rfl, rfl, rfl⟩ | ⟨rfl, rfl, rfl⟩ | ⟨rfl, rfl, rfl⟩
  · exact memo_run ok0 run_A plain_A
  · exact memo_run ok0 run_B plain_B
  · exact memo_run ok0 run_Abc plain_Abc
end Go.Proofs.YtkhpjkbfkebonaaGreat
