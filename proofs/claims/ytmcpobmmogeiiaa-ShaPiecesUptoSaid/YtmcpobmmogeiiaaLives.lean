/-
  'lives': the sum of "abc" has the text that it should have.
-/
import Derived.Test.YtmcpobmmogeiiaaHex
import Derived.Lib.SlBytesConst
namespace Go.Proofs.Ytmcpobmmogeiiaa
open Go.RowKit

def abc : List By := [97, 98, 99]
/-- a sum's bytes. -/
def sumL (S : S8) : List By := (List.range 32).map (sumByte S)
theorem sumL_length (S : S8) : (sumL S).length = 32 := by simp [sumL]
theorem sumRow_by (S : S8) : sumRow S = byRow (sumL S) := by
  unfold sumRow byRow
  apply rowN_ext
  intro i hi
  simp [sumL, List.getD_eq_getElem?_getD, hi]
theorem abc_state : shaS abc = ⟨0xba7816bf, 0x8f01cfea, 0x414140de, 0x5dae2223, 0xb00361a3, 0x96177a9c, 0xb410ff61, 0xf20015ad⟩ := by decide +kernel
def abcText : ByteArray := { data := #[98, 97, 55, 56, 49, 54, 98, 102, 56, 102, 48, 49, 99, 102, 101, 97, 52, 49, 52, 49, 52, 48, 100, 101, 53, 100, 97, 101, 50, 50, 50, 51, 98, 48, 48, 51, 54, 49, 97, 51, 57, 54, 49, 55, 55, 97, 57, 99, 98, 52, 49, 48, 102, 102, 54, 49, 102, 50, 48, 48, 49, 53, 97, 100] }
theorem abc_text : strOf (hexL (sumL (shaS abc))) = abcText := by
  rw [abc_state]
  have h : (hexL (sumL ⟨0xba7816bf, 0x8f01cfea, 0x414140de, 0x5dae2223, 0xb00361a3, 0x96177a9c, 0xb410ff61, 0xf20015ad⟩)).map UInt8.ofBitVec = [98, 97, 55, 56, 49, 54, 98, 102, 56, 102, 48, 49, 99, 102, 101, 97, 52, 49, 52, 49, 52, 48, 100, 101, 53, 100, 97, 101, 50, 50, 50, 51, 98, 48, 48, 51, 54, 49, 97, 51, 57, 54, 49, 55, 55, 97, 57, 99, 98, 52, 49, 48, 102, 102, 54, 49, 102, 50, 48, 48, 49, 53, 97, 100] := by decide +kernel
  unfold strOf abcText
  rw [h]

set_option maxRecDepth 100000 in
set_option maxHeartbeats 400000 in
theorem lives_any (w : World) : Calls Try.prog 10 #[] w fun e w' => e = .returned (.bool true) ∧ Below w.heap.size w w' := by
  have kc := fun (w : World) (C : Array Value) (n c : Nat) => Lib.run_convert_bytes_const (P := Try.prog) w 22 5 C n c Try.underlying22 Try.underlying5
  go_enter Try.func10, Try.ntmps10
  go_wp2_with fail
  refine (shasum_any abc _ w.heap.size 0 3 _ (by decide) (by decide) (fun _ => rfl) (fun _ => by simp) (fun i hi => ?_)).mono ?_
  · rw [cell_of_row _ _ _ _ _ _ (heap_alloc_last w _), Nat.zero_add]
    match i, hi with
    | 0, _ => rfl
    | 1, _ => rfl
    | 2, _ => rfl
  rintro e w1 ⟨rfl, hb1⟩
  rw [sumRow_by]
  go_wp2_with fail
  refine (hex_any (sumL (shaS abc)) (sumL_length _) _).mono ?_
  rintro e w2 ⟨rfl, hb2⟩
  rw [abc_text]
  have hb : Below w.heap.size w w2 := (((Below.refl _ _).alloc (Nat.le_refl _) _).trans (hb1.mono (by simp))).trans (hb2.mono (by have := hb1.size; simp at this; omega))
  clear hb1 hb2
  go_wp2
  go_ret
  exact ⟨congrArg (fun b => Ending.returned (.bool b)) (by kernel_rfl), hb⟩
end Go.Proofs.Ytmcpobmmogeiiaa
