/-
  A text's digits: plain; and the library's IndexByte over the sixteen digits.
-/
import Derived.Test.YtmcpobmmogeiiaaEq
import Derived.Laws.Externs
import Derived.Laws.ResultCell
namespace Go.Proofs.Ytmcpobmmogeiiaa
open Go.RowKit

def dig (b : By) : Option Nat := if 48 ≤ b.toNat ∧ b.toNat ≤ 57 then some (b.toNat - 48) else if 97 ≤ b.toNat ∧ b.toNat ≤ 102 then some (b.toNat - 87) else none
def isD (b : By) : Bool := (dig b).isSome
def dv (b : By) : Nat := (dig b).getD 0
def pairB (bs : List By) (i : Nat) : By := BitVec.ofNat 8 (16 * dv (bs.getD (2 * i) 0) + dv (bs.getD (2 * i + 1) 0))
def parseOk (bs : List By) : Bool := decide (bs.length = 64) && bs.all isD
def parseB (bs : List By) : List By := if parseOk bs then (List.range 32).map (pairB bs) else by0
theorem dv_lt (b : By) : dv b < 16 := by
  unfold dv dig
  split
  · simp; omega
  · split
    · simp; omega
    · simp
theorem parseB_length (bs : List By) : (parseB bs).length = 32 := by
  unfold parseB; split
  · simp
  · rfl
def digits16 : ByteArray := { data := #[48, 49, 50, 51, 52, 53, 54, 55, 56, 57, 97, 98, 99, 100, 101, 102] }
theorem idx_digit (c : By) : firstIdx digits16 (c.toNat : Int).toNat.toUInt8 = if isD c then (dv c : Int) else -1 := by
  have key : ∀ n : Nat, n < 256 → firstIdx digits16 (n : Int).toNat.toUInt8 = if isD (BitVec.ofNat 8 n) then (dv (BitVec.ofNat 8 n) : Int) else -1 := by decide +kernel
  have := key c.toNat c.isLt
  rwa [BitVec.ofNat_toNat, BitVec.setWidth_eq] at this

/-- a string's bytes. -/
def ofStr (s : ByteArray) : List By := s.data.toList.map (·.toBitVec)
theorem strOf_ofStr (s : ByteArray) : strOf (ofStr s) = s := by
  unfold strOf ofStr
  rw [List.map_map]
  have : (UInt8.ofBitVec ∘ fun x : UInt8 => x.toBitVec) = id := by funext x; rfl
  rw [this, List.map_id]
theorem strOf_size (bs : List By) : (strOf bs).size = bs.length := by simp [strOf, ByteArray.size]
theorem strOf_get (bs : List By) (i : Nat) (hi : i < (strOf bs).size) : ((strOf bs)[i]).toNat = (bs.getD i 0).toNat := by
  have h : i < bs.length := by rw [strOf_size] at hi; exact hi
  show (((bs.map UInt8.ofBitVec).toArray)[i]'(by simpa using h)).toNat = _
  simp [List.getD_eq_getElem?_getD, h]
theorem str_at (bs : List By) (i : Nat) (hi : i < bs.length) (W : World) : (Instr.index 9 (.string (strOf bs)) (.int .i64 i)).run Try.prog W = .ok (vB (bs.getD i 0)) W := by
  rw [run_index_string W 9 (strOf bs) .i64 i Try.underlying9, dif_pos ⟨by omega, by rw [strOf_size]; omega⟩]
  simp only [Int.toNat_natCast]
  rw [strOf_get]

@[go_sem] theorem ext38 (args : Array Value) (w : World) : (callFunc 38 args).run Try.prog w = ((Extern.BytealgIndexByte.indexByte args).run Try.prog w).andThen fun v w' => .ok (.value v) w' :=
  run_callFunc_extern Try.func38 (by kernel_rfl) (by kernel_rfl) (by kernel_rfl) (by kernel_rfl) args w

/-- a digit's place, -1 where it is none. -/
def digI (c : By) : Int := if isD c then (dv c : Int) else -1
theorem digI_yes {c : By} (h : isD c = true) : digI c = (dv c : Int) := by unfold digI; rw [if_pos h]
theorem digI_no {c : By} (h : isD c = false) : digI c = -1 := by unfold digI; rw [if_neg (by simp [h])]
set_option maxRecDepth 100000 in
set_option maxHeartbeats 400000 in
theorem idx36 (c : By) (w : World) : Calls Try.prog 36 #[.string digits16, vB c] w fun e w' => e = .returned (.int .i64 (digI c)) ∧ w = w' := by
  have hx := fun W : World => run_indexByte_string (P := Try.prog) digits16 (c.toNat : Int) W
  have hd : firstIdx digits16 (c.toNat : Int).toNat.toUInt8 = digI c := idx_digit c
  rw [hd] at hx
  clear hd
  go_enter Try.func36, Try.ntmps36
  go_wp2
  go_ret
  exact ⟨rfl, rfl⟩
set_option maxRecDepth 100000 in
set_option maxHeartbeats 400000 in
theorem idx29 (c : By) (w : World) : Calls Try.prog 29 #[.string { data := #[48, 49, 50, 51, 52, 53, 54, 55, 56, 57, 97, 98, 99, 100, 101, 102] }, vB c] w fun e w' => e = .returned (.int .i64 (digI c)) ∧ w = w' := by
  go_enter Try.func29, Try.ntmps29
  go_wp2_with fail
  refine (idx36 c _).mono ?_
  rintro e w' ⟨rfl, rfl⟩
  go_wp2
  go_ret
  exact ⟨rfl, rfl⟩
end Go.Proofs.Ytmcpobmmogeiiaa
