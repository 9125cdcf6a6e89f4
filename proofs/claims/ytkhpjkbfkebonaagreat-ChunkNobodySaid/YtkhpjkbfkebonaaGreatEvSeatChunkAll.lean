/-
  ChunkNobody, run.
-/
import Derived.Test.YtkhpjkbfkebonaaGreatEvSeatChunk
set_option maxRecDepth 100000
set_option linter.unusedSimpArgs false
set_option linter.unusedVariables false
open Go Go.Ev
namespace Go.Proofs.YtkhpjkbfkebonaaGreat
theorem ok2C : AllOK Tryz.prog (tabOf [11] [] [(11, [], .bool true)]) := by
  refine ⟨mixed, tabOK _ _ _, insOK _ _ _ (notThree (by kernel_rfl)), fun f b vs h hm => (by cases hm), fun f l v h hm => ?_⟩
  simp only [tabOf, List.mem_cons, List.mem_nil_iff, or_false, Prod.mk.injEq] at hm
  obtain ⟨rfl, rfl, rfl⟩ := hm
  exact tell_run ok1 lives_Chunk rfl (fun x hx => by cases hx)
theorem all_Chunk (n : Int) : callRun (tabOf [11] [] [(11, [], .bool true)]) 100000 4 [.chan (some 0), .int .i64 n] = .ok (.bool true) := by kernel_rfl
theorem chunk_any (a : Option Addr) (len cap : Nat) (n : Int) (w : World) : Calls Tryz.prog 4 #[.slice a len cap, .int .i64 n] w fun e w' => e = .returned (.bool true) ∧ RowKit.Below w.heap.size w w' :=
  call_plain ok2C (all_Chunk n) rfl (.cons (.any rfl (fun b h => by cases h)) (.cons (.flat rfl) (LR.nil _))) w
end Go.Proofs.YtkhpjkbfkebonaaGreat
