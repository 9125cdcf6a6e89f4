/-
  FsckNames: every number.
-/
import Derived.Test.YtefkmkkibmlpcaaGreatEvSeatOuter
import Derived.Test.YtefkmkkibmlpcaaGreatEvSeatAwake
set_option maxRecDepth 100000
set_option linter.unusedSimpArgs false
set_option linter.unusedVariables false
open Go Go.Ev Go.RowKit
namespace Go.Proofs.YtefkmkkibmlpcaaGreat
theorem awake_any (w : World) : Calls Tryz.prog 4 #[] w fun e w' => e = .returned (.bool true) ∧ Below w.heap.size w w' :=
  call_plain ok1 awake_run rfl (LR.nil _) w
theorem parts_run : callRun (tabOf [] [] []) 1000000 14 [] = .ok (.slice (some ⟨0, 0, none⟩) 10 10) := by kernel_rfl
theorem parts_any (w : World) : Calls Tryz.prog 14 #[] w fun e w' => (∃ b o, e = .returned (.slice (some ⟨b, o, none⟩) 10 10)) ∧ Below w.heap.size w w' := by
  have h := callsIn_wide.1 (call_run ok0 parts_run (LR.nil _) w 0 none).2
  refine h.mono ?_
  rintro e w' ⟨E, v', rfl, h1, h2⟩
  obtain ⟨en, c', _, hc, _, rfl⟩ := h1.inv_sl
  have : c' = 10 := by rcases hc with ⟨_, h⟩ | ⟨h, _⟩ <;> omega
  subst this
  exact ⟨⟨_, _, rfl⟩, h2⟩
noncomputable def tabN : Tab := tabOf [4] [] [(4, [], .bool true)]
theorem okN : AllOK Tryz.prog tabN := by
  refine ⟨mixed, tabOK _ _ _, insOK _ _ _ (notThree (by kernel_rfl)), fun f b vs h hm => (by cases hm), fun f l v h hm => ?_⟩
  simp only [tabN, tabOf, List.mem_cons, List.mem_nil_iff, or_false, Prod.mk.injEq] at hm
  obtain ⟨rfl, rfl, rfl⟩ := hm
  exact tell_run ok1 awake_run rfl (fun x hx => by cases hx)
theorem in_run : ((List.range 9).all fun i => match callRun tabN 1000000 3 [.int .i64 (.ofNat (Nat.succ i))] with | .ok (.bool b) => b | _ => false) = true := by kernel_rfl
theorem names_any (n : Int) (w : World) : Calls Tryz.prog 3 #[.int .i64 n] w fun e w' => e = .returned (.bool true) ∧ Below w.heap.size w w' := by
  rcases Int.lt_or_le n 1 with h | h
  · exact names_out parts_any awake_any n (Or.inl (by omega)) w
  · rcases Int.lt_or_le n 10 with h2 | h2
    · obtain ⟨m, rfl⟩ := Int.eq_ofNat_of_zero_le (by omega : 0 ≤ n)
      obtain ⟨i, rfl⟩ : ∃ i, m = Nat.succ i := ⟨m - 1, by omega⟩
      have h1 := List.all_eq_true.1 in_run i (List.mem_range.2 (by omega))
      split at h1
      · rename_i b hb
        subst h1
        exact call_plain okN hb rfl (.cons (.flat rfl) (LR.nil _)) w
      · cases h1
    · exact names_out parts_any awake_any n (Or.inr h2) w
end Go.Proofs.YtefkmkkibmlpcaaGreat
