/-
  An array by value, indexed by a number that is not written out.
-/
import Derived.WalkKit
namespace Go.Proofs.Ytmcpobmmogeiiaa
open Go.RowKit

theorem run_index_cells {P : Program} (w : World) (t e n : Nat) (kk : IntKind) (cs : Array Value) (k : IntKind) (i : Nat) (v : Value) (hu : P.underlying t = some (.array n e)) (he : P.underlying e = some (.int kk))
    (hsz : (P.info? e).map (·.size) = some 1) (hi : i < n) (hv : cs[i]? = some v) : (Instr.index t (.agg cs) (.int k (i : Int))).run P w = .ok v w := by
  cases hq : P.info? e with
  | none => simp [hq] at hsz
  | some ie =>
    have hs : ie.size = 1 := by simpa [hq] using hsz
    have h0 : (0 : Int) ≤ (i : Int) ∧ (i : Int) < (n : Int) := by omega
    simp [Instr.index, asIntOf, run_underlying hu, h0, sizeOf, typeInfo, hq, hs, part, isAgg, run_underlying he, hv]
    intro h; omega

end Go.Proofs.Ytmcpobmmogeiiaa
