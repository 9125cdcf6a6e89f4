/-
  Whole arrays in a walk, more laws.
-/
import Derived.Test.YtmcpobmmogeiiaaArr
namespace Go.Proofs.Ytmcpobmmogeiiaa
open Go.RowKit
section
variable {P : Program} {ops : Array Oper} {rest : List Oper} {o : Oper} {a : Act} {w : World} {Q : Exit → Act → World → Prop}
/-- A whole array into the block that was made last, its number said by the caller. -/
theorem wpList_store_lastN (N : Nat) (hN : w.heap.size = N) (hgd : o.guard = none) (ty : TypeId) (x y : Operand) (ho : o.op = .store ty x y) (hd : o.dst = none)
    (cells old : Array Value) (t : TypeId) (hx : a.eval x = .pointer (some ⟨N, 0, none⟩)) (hy : a.eval y = .agg cells) (hi : (P.info? ty).map (·.size) = some cells.size)
    (hold : old.size = cells.size) (h1 : cells.all (·.oneCell') = true)
    (h : wpList P ops Q rest a (w.alloc (.cells cells t))) : wpList P ops Q (o :: rest) a (w.alloc (.cells old t)) := by
  subst hN
  exact wpList_store_last hgd ty x y ho hd cells old t hx hy hi hold h1 h
end
end Go.Proofs.Ytmcpobmmogeiiaa
