/-
  VolNobody, run.
-/
import Derived.Test.YtopkigockpiggaaGreatEvSeatOpenRun
import Derived.Test.YtopkigockpiggaaGreatEvSeatVolLives
set_option maxRecDepth 100000
set_option linter.unusedSimpArgs false
set_option linter.unusedVariables false
open Go Go.Ev
namespace Go.Proofs.YtopkigockpiggaaGreat
theorem ok1 : AllOK Tryz.prog (tabOf [176, 258, 245, 18] memo1 tell1 []) := okR [] (fun q hq => by cases hq)
theorem ruleOpen_ok : RuleOK Tryz.prog (tabOf [176, 258, 245, 18] memo1 tell1 [ruleOpen]) := by
  intro q hq hins
  have hq : q ∈ [ruleOpen] := hq
  rw [List.mem_singleton] at hq
  subst hq
  exact rule_run ok1.mixed ok1.tab ok1.ins ok1.memo ok1.tell ok1.rule open_run
theorem tells {rules : List Rule} {ins : List FuncId} {memo : List (FuncId × List Nat × List Value)} {tell : List (FuncId × (List Value → Option Value))} (A : AllOK Tryz.prog (tabOf ins memo tell rules)) {n : Nat} {f : FuncId} {d : List Value} {v : Value}
    (hq : callRun (tabOf ins memo tell rules) n f d = .ok v) (hv : plainV v = true) (l : List Value) (u : Value) (h : told d v l = some u) : (∀ x ∈ l, plainV x = true) ∧ isFlat u = true ∧ (∀ X w, (callFunc f X).run Tryz.prog w = .ok (.enter f X) w) ∧
    ∀ (w : World) m ro, CallsIn (Fw ro) m Tryz.prog f ⟨l⟩ w fun e w' => e = .returned u ∧ w'.os = w.os ∧ w'.tape = w.tape ∧ w'.output = w.output ∧ w.heap.size ≤ w'.heap.size ∧ ∀ j, j < w.heap.size → w'.heap[j]? = w.heap[j]? := by
  obtain ⟨rfl, rfl, hp⟩ := told_ok h
  exact ⟨hp, tell_run A hq hv hp⟩
theorem ok2 : AllOK Tryz.prog (tabOf [6] [] [(6, told [] (.bool true))] []) := by
  refine ⟨mixed, tabOK _ _ _ _, insOK _ _ _ _ (notThree (by kernel_rfl)), fun f b vs h hm => (by cases hm), fun f g h hm => ?_, fun q hq => (by cases hq)⟩
  simp only [tabOf, List.mem_cons, List.mem_nil_iff, or_false, Prod.mk.injEq] at hm
  obtain ⟨rfl, rfl⟩ := hm
  exact tells (okR _ ruleOpen_ok) lives_run rfl
theorem all_run : callRun (tabOf [6] [] [(6, told [] (.bool true))] []) 100000 5 [.chan (some 0)] = .ok (.bool true) := by kernel_rfl
theorem vol_any (a : Option Addr) (len cap : Nat) (w : World) : Calls Tryz.prog 5 #[.slice a len cap] w fun e w' => e = .returned (.bool true) ∧ RowKit.Below w.heap.size w w' :=
  call_plain ok2 all_run rfl (.cons (.any rfl (fun b h => by cases h)) (LR.nil _)) w
end Go.Proofs.YtopkigockpiggaaGreat
