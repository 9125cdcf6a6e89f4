/-
  FileNobody, run.
-/
import Derived.Test.YtkhpjkbfkebonaaGreatEvSeatFile
set_option maxRecDepth 100000
set_option linter.unusedSimpArgs false
set_option linter.unusedVariables false
open Go Go.Ev
namespace Go.Proofs.YtkhpjkbfkebonaaGreat
theorem ok2F : AllOK Tryz.prog (tabOf [7] [] [(7, [], .bool true)]) := by
  refine ⟨mixed, tabOK _ _ _, insOK _ _ _ (notThree (by kernel_rfl)), fun f b vs h hm => (by cases hm), fun f l v h hm => ?_⟩
  simp only [tabOf, List.mem_cons, List.mem_nil_iff, or_false, Prod.mk.injEq] at hm
  obtain ⟨rfl, rfl, rfl⟩ := hm
  exact tell_run ok1 lives_File rfl (fun x hx => by cases hx)
theorem all_File (n : Int) (d : ByteArray) : callRun (tabOf [7] [] [(7, [], .bool true)]) 100000 3 [.int .i64 n, .string d] = .ok (.bool true) := by kernel_rfl
theorem file_any (n : Int) (d : ByteArray) (w : World) : Calls Tryz.prog 3 #[.int .i64 n, .string d] w fun e w' => e = .returned (.bool true) ∧ RowKit.Below w.heap.size w w' :=
  call_plain ok2F (all_File n d) rfl (.cons (.flat rfl) (.cons (.flat rfl) (LR.nil _))) w
end Go.Proofs.YtkhpjkbfkebonaaGreat
