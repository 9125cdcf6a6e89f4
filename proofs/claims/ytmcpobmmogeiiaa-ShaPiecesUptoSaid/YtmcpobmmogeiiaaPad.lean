/-
  The padding, and a sum's 32 bytes: plain.
-/
import Derived.Test.YtmcpobmmogeiiaaBlocks
import Derived.Test.YtmcpobmmogeiiaaArr
namespace Go.Proofs.Ytmcpobmmogeiiaa
open Go.RowKit

/-- how many noughts. -/
def nz (len : Nat) : Nat := (119 - len % 64) % 64
def bit8 (len i : Nat) : By := BitVec.ofNat 8 (len * 8 / 2 ^ (56 - 8 * i))
def padTo (len t : Nat) : List By := 128#8 :: (List.replicate (nz len) 0#8 ++ (List.range t).map (bit8 len))
def padL (L : List By) : List By := padTo L.length 8
/-- the state behind bytes and their padding. -/
def shaS (L : List By) : S8 := stateOf (L ++ padL L)
def sumByte (S : S8) (i : Nat) : By := ((S.get (i / 4)) >>> (24 - 8 * (i % 4))).setWidth 8
def sumRow (S : S8) : Array Value := rowN 32 fun i => vB (sumByte S i)
def outRow (S : S8) (t : Nat) : Array Value := rowN 32 fun i => if i < t then vB (sumByte S i) else .int .u8 0
def z32 : Array Value := Array.replicate 32 (.int .u8 0)
theorem z32_size : z32.size = 32 := by kernel_rfl
theorem outRow_zero (S : S8) : outRow S 0 = z32 := by unfold outRow z32 rowN; simp; rfl
theorem outRow_full (S : S8) : outRow S 32 = sumRow S := by
  unfold outRow sumRow
  apply rowN_ext
  intro i hi
  rw [if_pos hi]
theorem outRow_size (S : S8) (t : Nat) : (outRow S t).size = 32 := by rw [outRow, rowN_size]
theorem sumRow_size (S : S8) : (sumRow S).size = 32 := by rw [sumRow, rowN_size]
theorem sumRow_all (S : S8) : (sumRow S).all (·.oneCell') = true := rowN_all _ _ fun _ => rfl
theorem outRow_set (S : S8) (t : Nat) (v : Value) (hv : v = vB (sumByte S t)) : (outRow S t).setIfInBounds t v = outRow S (t + 1) := by
  subst hv
  unfold outRow
  rw [rowN_set]
  apply rowN_ext
  intro i _
  by_cases h1 : i = t
  · subst h1; simp
  · by_cases h2 : i < t
    · simp [h1, h2, Nat.lt_succ_of_lt h2]
    · have : ¬ i < t + 1 := by omega
      simp [h1, h2, this]
theorem padTo_length (len t : Nat) : (padTo len t).length = 1 + nz len + t := by simp [padTo]; omega
theorem padTo_succ (len t : Nat) : padTo len (t + 1) = padTo len t ++ [bit8 len t] := by
  simp [padTo, List.range_succ]

end Go.Proofs.Ytmcpobmmogeiiaa
