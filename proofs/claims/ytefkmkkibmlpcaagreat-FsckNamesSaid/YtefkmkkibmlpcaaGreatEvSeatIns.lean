/-
  slices.Insert at []string, laid at this program.
-/
import Derived.Test.YtefkmkkibmlpcaaGreatEvSeatTabs
set_option maxRecDepth 100000
set_option linter.unusedSimpArgs false
set_option linter.unusedVariables false
open Go Go.Ev Go.Shelf
namespace Go.Proofs.YtefkmkkibmlpcaaGreat
noncomputable def insRen : Go.Shelf.Ren := ⟨fun | 22 => 297 | 29 => 348 | 30 => 349 | 36 => 379 | 17 => 406 | n => n, fun | 24 => 22 | n => n, fun n => n⟩
theorem insLays : Lays2.n22 Tryz.prog insRen := {
  mixed := by kernel_rfl
  f17 := Tryz.func406.trans (congrArg some (by kernel_rfl))
  f22 := Tryz.func297.trans (congrArg some (by kernel_rfl))
  f29 := Tryz.func348.trans (congrArg some (by kernel_rfl))
  f30 := Tryz.func349.trans (congrArg some (by kernel_rfl))
  f36 := Tryz.func379.trans (congrArg some (by kernel_rfl))
  t0 := Tryz.underlying0
  a0 := Tryz.isAgg0
  z0 := Tryz.sizeOf0
  v0 := Tryz.zeroValue0
  t3 := Tryz.underlying3
  a3 := Tryz.isAgg3
  z3 := Tryz.sizeOf3
  v3 := Tryz.zeroValue3
  t4 := Tryz.underlying4
  a4 := Tryz.isAgg4
  z4 := Tryz.sizeOf4
  v4 := Tryz.zeroValue4
  t9 := Tryz.underlying9
  a9 := Tryz.isAgg9
  z9 := Tryz.sizeOf9
  v9 := Tryz.zeroValue9
  t24 := Tryz.underlying22
  a24 := Tryz.isAgg22
  z24 := Tryz.sizeOf22
  v24 := Tryz.zeroValue22
  i9 := by kernel_rfl }
theorem insOK (ins : List FuncId) (memo : List (FuncId × List Nat × List Value)) (tell : List (FuncId × List Value × Value))
    (h : ∀ f fd, ins.contains f = true → f ≠ 297 → Tryz.prog.funcs[f]? = some fd → fd.params.toList.length ≠ 3) : InsOK Tryz.prog (tabOf ins memo tell) := by
  intro R r f fd sT iT vT hins hfd hp s i v hp' c hq
  have hfd : Tryz.prog.funcs[f]? = some fd := T.All.find fnT_all hfd
  by_cases hf : f = 297
  · subst hf
    rw [Tryz.func297] at hfd
    cases hfd
    have hsT : sT = 22 := by
      have h1 : Tryz.f297.params.toList = [22, 3, 22] := by kernel_rfl
      rw [h1] at hp
      injection hp with hp _
      exact hp.symm
    subst hsT
    obtain ⟨u, h', h1, h2⟩ := ins_string (tabOK ins memo tell) insLays hq
    refine ⟨u, h', h1, fun X w => ?_, fun G E w s' i' v' a b c d e m ro => ?_⟩
    · have hnm : (Tryz.f297.name == "runtime.NumGoroutine") = false := by kernel_rfl
      have hnm' : ¬ Tryz.f297.name = "runtime.NumGoroutine" := by simpa using hnm
      have hb : ∃ b, Tryz.f297.body = some b := ⟨_, rfl⟩
      obtain ⟨b, hb⟩ := hb
      simp only [callFunc, Tryz.func297, hb]
      simp [callFunc, hnm', hb]
    · exact callsIn_wide.2 (h2 G E w s' i' v' a b c d e)
  · exact absurd (by rw [hp]; rfl) (h f fd hins hf hfd)
end Go.Proofs.YtefkmkkibmlpcaaGreat
