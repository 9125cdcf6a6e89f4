/-
  What the evaluator is told: the check sum of any text; the sum of one.
-/
import Derived.Test.YtopkigockpiggaaGreatEvSeatIns
import Derived.Test.YtopkigockpiggaaGreatEvSeatCrcWalk
import Derived.Test.YtopkigockpiggaaGreatEvSeatSumAbc
set_option maxRecDepth 100000
set_option linter.unusedSimpArgs false
set_option linter.unusedVariables false
open Go Go.Ev
namespace Go.Proofs.YtopkigockpiggaaGreat
theorem mixed : Tryz.prog.follows .mixedOrders = true := by kernel_rfl
theorem ok0 : AllOK Tryz.prog (tabOf [] [] []) :=
  ⟨mixed, tabOK _ _ _ _, insOK _ _ _ _ (fun f fd h => (by cases h)), fun f b vs h => (by cases h), fun f g h => (by cases h), fun q hq => (by cases hq)⟩
noncomputable def memo1 : List (FuncId × List Nat × List Value) := [(258, [97, 98, 99], sum_Abc)]
noncomputable def tell1 : List (FuncId × (List Value → Option Value)) := [(245, crcTold)]
theorem notThree {ins : List FuncId} (h : ins.all (fun f => f == 176 || (match Tryz.prog.funcs[f]? with | some fd => fd.params.toList.length != 3 | none => true)) = true) :
    ∀ f fd, ins.contains f = true → f ≠ 176 → Tryz.prog.funcs[f]? = some fd → fd.params.toList.length ≠ 3 := by
  intro f fd hf hne hfd
  have h1 := List.all_eq_true.1 h f (by simpa using hf)
  rw [hfd] at h1
  simp only [Bool.or_eq_true, beq_iff_eq, bne_iff_ne] at h1
  rcases h1 with h1 | h1
  · exact absurd h1 hne
  · exact h1
theorem okR (rules : List Rule) (hr : RuleOK Tryz.prog (tabOf [176, 258, 245, 18] memo1 tell1 rules)) : AllOK Tryz.prog (tabOf [176, 258, 245, 18] memo1 tell1 rules) := by
  refine ⟨mixed, tabOK _ _ _ _, insOK _ _ _ _ (notThree (by kernel_rfl)), fun f b vs h hm => ?_, fun f g h hm => ?_, hr⟩
  · have hm := memoFind_mem hm
    simp only [tabOf, memo1, List.mem_cons, List.mem_nil_iff, or_false, Prod.mk.injEq] at hm
    obtain ⟨rfl, rfl, rfl⟩ := hm
    exact memo_run ok0 run_Abc plain_Abc
  · simp only [tabOf, tell1, List.mem_cons, List.mem_nil_iff, or_false, Prod.mk.injEq] at hm
    obtain ⟨rfl, rfl⟩ := hm
    exact crc_told
end Go.Proofs.YtopkigockpiggaaGreat
