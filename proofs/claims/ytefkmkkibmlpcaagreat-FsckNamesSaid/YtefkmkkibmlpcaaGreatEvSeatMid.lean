/-
  What the evaluator is told: the check sums of three texts.
-/
import Derived.Test.YtefkmkkibmlpcaaGreatEvSeatIns
import Derived.Test.YtefkmkkibmlpcaaGreatEvSeatCrc0
import Derived.Test.YtefkmkkibmlpcaaGreatEvSeatCrc1
import Derived.Test.YtefkmkkibmlpcaaGreatEvSeatCrc2
set_option maxRecDepth 100000
set_option linter.unusedSimpArgs false
set_option linter.unusedVariables false
open Go Go.Ev
namespace Go.Proofs.YtefkmkkibmlpcaaGreat
theorem mixed : Tryz.prog.follows .mixedOrders = true := by kernel_rfl
theorem ok0 : AllOK Tryz.prog (tabOf [] [] []) :=
  ⟨mixed, tabOK _ _ _, insOK _ _ _ (fun f fd h => (by cases h)), fun f b vs h => (by cases h), fun f l v h => (by cases h)⟩
noncomputable def tell1 : List (FuncId × List Value × Value) := [(124, [.string ⟨⟨crcT0⟩⟩], crcV0), (124, [.string ⟨⟨crcT1⟩⟩], crcV1), (124, [.string ⟨⟨crcT2⟩⟩], crcV2)]
theorem notThree {ins : List FuncId} (h : ins.all (fun f => f == 297 || (match Tryz.prog.funcs[f]? with | some fd => fd.params.toList.length != 3 | none => true)) = true) :
    ∀ f fd, ins.contains f = true → f ≠ 297 → Tryz.prog.funcs[f]? = some fd → fd.params.toList.length ≠ 3 := by
  intro f fd hf hne hfd
  have h1 := List.all_eq_true.1 h f (by simpa using hf)
  rw [hfd] at h1
  simp only [Bool.or_eq_true, beq_iff_eq, bne_iff_ne] at h1
  rcases h1 with h1 | h1
  · exact absurd h1 hne
  · exact h1
theorem one {x : Value} (h : plainV x = true) : ∀ y ∈ [x], plainV y = true := fun y hy => by
  rw [List.mem_singleton.1 hy]; exact h
theorem ok1 : AllOK Tryz.prog (tabOf [297, 124] [] tell1) := by
  refine ⟨mixed, tabOK _ _ _, insOK _ _ _ (notThree (by kernel_rfl)), fun f b vs h hm => (by cases hm), fun f l v h hm => ?_⟩
  simp only [tabOf, tell1, List.mem_cons, List.mem_nil_iff, or_false, Prod.mk.injEq] at hm
  rcases hm with ⟨rfl, rfl, rfl⟩ | ⟨rfl, rfl, rfl⟩ | ⟨rfl, rfl, rfl⟩
  · exact tell_run ok0 run_crc0 rfl (one rfl)
  · exact tell_run ok0 run_crc1 rfl (one rfl)
  · exact tell_run ok0 run_crc2 rfl (one rfl)
end Go.Proofs.YtefkmkkibmlpcaaGreat
