/-
  Two arrays of 32 bytes: are they equal?
-/
import Derived.Test.YtmcpobmmogeiiaaLives
import Derived.ChangeKeysEq
namespace Go.Proofs.Ytmcpobmmogeiiaa
open Go.RowKit
theorem run_eqItems_ints {P : Program} (w : World) (d e : Nat) (kk : IntKind) (xs ys : Array Value) (f g : Nat → Int) (he : P.underlying e = some (.int kk)) : ∀ (is : List Nat)
    (_ : ∀ i ∈ is, xs[i]? = some (.int kk (f i))) (_ : ∀ i ∈ is, ys[i]? = some (.int kk (g i))),
    (Op.eqItems (d + 1) e 1 xs ys is).run P w = .ok (is.all fun i => f i == g i) w
  | [], _, _ => by simp [Op.eqItems]
  | i :: is, hx, hy => by
    have ih := run_eqItems_ints w d e kk xs ys f g he is (fun j hj => hx j (by simp [hj])) (fun j hj => hy j (by simp [hj]))
    have h1 : (part e xs i).run P w = .ok (.int kk (f i)) w := by simp [part, isAgg, run_underlying he, hx i (by simp)]
    have h2 : (part e ys i).run P w = .ok (.int kk (g i)) w := by simp [part, isAgg, run_underlying he, hy i (by simp)]
    simp only [Op.eqItems, Nat.mul_one, Sem.run_bind, h1, h2, Result.andThen_ok, run_equalIn_int w d e kk kk _ _ he]
    cases hb : (f i == g i)
    · simp [hb]
    · simp only [Bool.not_true, Bool.false_eq_true, if_false, ih, List.all_cons, hb, Bool.true_and]

theorem by_all (bs cs : List By) (hb : bs.length = 32) (hc : cs.length = 32) : ((List.range 32).all fun i => ((bs.getD i 0).toNat : Int) == ((cs.getD i 0).toNat : Int)) = (bs == cs) := by
  rw [Bool.eq_iff_iff]
  simp only [List.all_eq_true, List.mem_range, beq_iff_eq]
  constructor
  · intro h
    apply List.ext_getElem (by omega)
    intro i h1 h2
    have := h i (by omega)
    simp only [List.getD_eq_getElem?_getD, List.getElem?_eq_getElem h1, List.getElem?_eq_getElem h2, Option.getD_some] at this
    exact BitVec.eq_of_toNat_eq (by omega)
  · intro h i _; rw [h]
theorem run_eql_by (w : World) (bs cs : List By) (hb : bs.length = 32) (hc : cs.length = 32) : (Op.equalIn 10000 24 (.agg (byRow bs)) (.agg (byRow cs))).run Try.prog w = .ok (bs == cs) w := by
  obtain ⟨i0, hi, _, _, _⟩ := info_parts Try.info5
  have h := run_eqItems_ints (P := Try.prog) w 9998 5 .u8 (byRow bs) (byRow cs) (fun i => ((bs.getD i 0).toNat : Int)) (fun i => ((cs.getD i 0).toNat : Int)) Try.underlying5 (List.range 32)
    (fun i hi => rowN_get _ _ _ (by simpa using hi)) (fun i hi => rowN_get _ _ _ (by simpa using hi))
  rw [by_all _ _ hb hc] at h
  rw [run_equalIn_array w 9999 _ _ Try.underlying24 hi, show Try.prog.cellsOf 5 = 1 from by kernel_rfl]
  exact h
theorem eqGuard24 : Try.prog.eqGuardType Try.prog.depth 24 = false := by kernel_rfl
/-- thirty-two noughts. -/
def by0 : List By := List.replicate 32 0#8
theorem z32_by : z32 = byRow by0 := by kernel_rfl
end Go.Proofs.Ytmcpobmmogeiiaa
