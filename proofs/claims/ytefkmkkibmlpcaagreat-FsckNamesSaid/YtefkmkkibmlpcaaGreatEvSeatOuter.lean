/-
  FsckNames: whatever the number is.
-/
import Derived.Test.YtefkmkkibmlpcaaGreatEvSeatTabs
import Derived.WalkKit
import Derived.WalkSpells
import Derived.WalkLawsBesides
set_option maxRecDepth 100000
set_option linter.unusedSimpArgs false
set_option linter.unusedVariables false
open Go Go.Ev Go.RowKit
namespace Go.Proofs.YtefkmkkibmlpcaaGreat
theorem name_out (hparts : ∀ w : World, Calls Tryz.prog 14 #[] w fun e w' => (∃ b o, e = .returned (.slice (some ⟨b, o, none⟩) 10 10)) ∧ Below w.heap.size w w')
    (n : Int) (h : n ≤ 0 ∨ 10 ≤ n) (w : World) : Calls Tryz.prog 5 #[.int .i64 n] w fun e w' => e = .returned (.string ⟨#[]⟩) ∧ Below w.heap.size w w' := by
  rcases h with h | h
  · have h1 : ¬ (0 < n) := by omega
    go_enter Tryz.func5, Tryz.ntmps5
    go_wp2_with (go_at_call 14; refine (hparts _).mono ?_; rintro e w' ⟨⟨b, o, rfl⟩, hb⟩)
    go_ret
    exact ⟨rfl, hb⟩
  · have h1 : (0 < n) := by omega
    have h2 : ¬ (n < 10) := by omega
    go_enter Tryz.func5, Tryz.ntmps5
    go_wp2_with (go_at_call 14; refine (hparts _).mono ?_; rintro e w' ⟨⟨b, o, rfl⟩, hb⟩)
    go_ret
    exact ⟨rfl, hb⟩
theorem names_out (hparts : ∀ w : World, Calls Tryz.prog 14 #[] w fun e w' => (∃ b o, e = .returned (.slice (some ⟨b, o, none⟩) 10 10)) ∧ Below w.heap.size w w')
    (hawake : ∀ w : World, Calls Tryz.prog 4 #[] w fun e w' => e = .returned (.bool true) ∧ Below w.heap.size w w')
    (n : Int) (h : n ≤ 0 ∨ 10 ≤ n) (w : World) : Calls Tryz.prog 3 #[.int .i64 n] w fun e w' => e = .returned (.bool true) ∧ Below w.heap.size w w' := by
  have hname := name_out hparts n h
  rcases h with h | h
  · have h1 : ¬ (0 < n) := by omega
    go_enter Tryz.func3, Tryz.ntmps3
    go_wp2_with (first | (go_at_call 4; refine (hawake _).mono ?_; rintro e w' ⟨rfl, hb⟩) | (go_at_call 5; refine (hname _).mono ?_; rintro e w2 ⟨rfl, hb2⟩))
    go_ret
    refine ⟨rfl, ?_⟩
    exact (((Below.refl _ _).alloc (Nat.le_refl _) _).trans (hb.mono (by simp))).trans (hb2.mono (by have := hb.size; simp at this; omega))
  · have h1 : (0 < n) := by omega
    have h2 : ¬ (n < 10) := by omega
    go_enter Tryz.func3, Tryz.ntmps3
    go_wp2_with (first | (go_at_call 4; refine (hawake _).mono ?_; rintro e w' ⟨rfl, hb⟩) | (go_at_call 5; refine (hname _).mono ?_; rintro e w2 ⟨rfl, hb2⟩))
    go_ret
    refine ⟨rfl, ?_⟩
    exact (((Below.refl _ _).alloc (Nat.le_refl _) _).trans (hb.mono (by simp))).trans (hb2.mono (by have := hb.size; simp at this; omega))
end Go.Proofs.YtefkmkkibmlpcaaGreat
