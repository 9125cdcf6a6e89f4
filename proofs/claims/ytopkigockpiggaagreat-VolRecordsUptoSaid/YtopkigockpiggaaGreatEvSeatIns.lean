/-
  slices.Insert at []string, laid at this program.
-/
import Derived.Test.YtopkigockpiggaaGreatEvSeatTabs
set_option maxRecDepth 100000
set_option linter.unusedSimpArgs false
set_option linter.unusedVariables false
open Go Go.Ev Go.Shelf
namespace Go.Proofs.YtopkigockpiggaaGreat
noncomputable def insRen : Go.Shelf.Ren := ⟨fun | 22 => 176 | 29 => 277 | 30 => 278 | 36 => 370 | 17 => 431 | n => n, fun | 24 => 145 | n => n, fun n => n⟩
theorem insLays : Lays2.n22 Tryz.prog insRen := {
  mixed := by kernel_rfl
  f17 := Tryz.func431.trans (congrArg some (by kernel_rfl))
  f22 := Tryz.func176.trans (congrArg some (by kernel_rfl))
  f29 := Tryz.func277.trans (congrArg some (by kernel_rfl))
  f30 := Tryz.func278.trans (congrArg some (by kernel_rfl))
  f36 := Tryz.func370.trans (congrArg some (by kernel_rfl))
  t0 := Tryz.underlying0
  a0 := Tryz.isAgg0
  z0 := Tryz.sizeOf0
  v0 := Tryz.zeroValue0
  t3 := Tryz.underlying3
  a3 := Tryz.isAgg3
  z3 := Tryz.sizeOf3
  v3 := Tryz.zeroValue3
  t4 := Tryz.underlying4
  a4 := Tryz.isAgg4
  z4 := Tryz.sizeOf4
  v4 := Tryz.zeroValue4
  t9 := Tryz.underlying9
  a9 := Tryz.isAgg9
  z9 := Tryz.sizeOf9
  v9 := Tryz.zeroValue9
  t24 := Tryz.underlying145
  a24 := Tryz.isAgg145
  z24 := Tryz.sizeOf145
  v24 := Tryz.zeroValue145
  i9 := by kernel_rfl }
theorem insOK (ins : List FuncId) (memo : List (FuncId × List Nat × List Value)) (tell : List (FuncId × (List Value → Option Value))) (rules : List Rule)
    (h : ∀ f fd, ins.contains f = true → f ≠ 176 → Tryz.prog.funcs[f]? = some fd → fd.params.toList.length ≠ 3) : InsOK Tryz.prog (tabOf ins memo tell rules) := by
  intro R r f fd sT iT vT hins hfd hp s i v hp' c hq
  have hfd : Tryz.prog.funcs[f]? = some fd := T.All.find fnT_all hfd
  by_cases hf : f = 176
  · subst hf
    rw [Tryz.func176] at hfd
    cases hfd
    have hsT : sT = 145 := by
      have h1 : Tryz.f176.params.toList = [145, 3, 145] := by kernel_rfl
      rw [h1] at hp
      injection hp with hp _
      exact hp.symm
    subst hsT
    obtain ⟨u, h', h1, h2⟩ := ins_string (tabOK ins memo tell rules) insLays hq
    refine ⟨u, h', h1, fun X w => ?_, fun G E w s' i' v' a b c d e m ro => ?_⟩
    · have hnm : (Tryz.f176.name == "runtime.NumGoroutine") = false := by kernel_rfl
      have hnm' : ¬ Tryz.f176.name = "runtime.NumGoroutine" := by simpa using hnm
      have hb : ∃ b, Tryz.f176.body = some b := ⟨_, rfl⟩
      obtain ⟨b, hb⟩ := hb
      simp only [callFunc, Tryz.func176, hb]
      simp [callFunc, hnm', hb]
    · exact callsIn_wide.2 (h2 G E w s' i' v' a b c d e)
  · exact absurd (by rw [hp]; rfl) (h f fd hins hf hfd)
end Go.Proofs.YtopkigockpiggaaGreat
