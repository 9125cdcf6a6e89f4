/-
  The check sum of a text, in plain Lean: a word of 32 bits, and the same for the kernel.
-/
import Derived.Test.YtopkigockpiggaaGreatEvTop
set_option linter.unusedVariables false
set_option linter.unusedSimpArgs false
namespace Go.Ev
abbrev W32 := BitVec 32
noncomputable def crcPoly : W32 := 0x82f63b78
noncomputable def crcBit (c : W32) : W32 := (c >>> 1) ^^^ (crcPoly &&& (-(c &&& 1)))
noncomputable def crcByte (c : W32) (b : UInt8) : W32 := crcBit (crcBit (crcBit (crcBit (crcBit (crcBit (crcBit (crcBit (c ^^^ BitVec.ofNat 32 b.toNat))))))))
noncomputable def crcW (l : List UInt8) : W32 := ~~~ (l.foldl crcByte (~~~ 0))
/-- a number, reckoned ahead. -/
noncomputable def aheadI {α : Type} (n : Nat) (c : Nat → α) : α := c n
noncomputable def ahead {α : Type} (n : Nat) (c : Nat → α) : α := Nat.rec (motive := fun _ => α) (c 0) (fun m _ => c (Nat.succ m)) n
theorem ahead_eq {α : Type} (n : Nat) (c : Nat → α) : ahead n c = c n := by cases n <;> rfl
noncomputable def crcBitN (c : Nat) (k : Nat → Nat) : Nat := ahead (Nat.xor (Nat.div c 2) (Nat.mul 2197175160 (Nat.mod c 2))) k
noncomputable def crcByteN (c b : Nat) (k : Nat → Nat) : Nat := ahead (Nat.xor c b) fun c => crcBitN c fun c => crcBitN c fun c => crcBitN c fun c => crcBitN c fun c => crcBitN c fun c => crcBitN c fun c => crcBitN c fun c => crcBitN c k
noncomputable def crcGoI : List UInt8 → Nat → Nat
  | [], c => Nat.xor c 4294967295
  | b :: l, c => crcByteN c b.toNat (crcGoI l)
noncomputable def crcGo (l : List UInt8) (c : Nat) : Nat := List.rec (motive := fun _ => Nat → Nat) (fun c => Nat.xor c 4294967295) (fun b _ ih c => crcByteN c b.toNat ih) l c
noncomputable def crcN (l : List UInt8) : Nat := crcGo l 4294967295
theorem crcBit_toNat (c : W32) : (crcBit c).toNat = Nat.xor (Nat.div c.toNat 2) (Nat.mul 2197175160 (Nat.mod c.toNat 2)) := by
  unfold crcBit
  rw [BitVec.toNat_xor, BitVec.toNat_ushiftRight]
  have h1 : c.toNat >>> 1 = c.toNat / 2 := Nat.shiftRight_eq_div_pow _ _
  rw [h1]
  have h2 : (crcPoly &&& -(c &&& 1)).toNat = 2197175160 * (c.toNat % 2) := by
    have h3 : (c &&& 1) = BitVec.ofNat 32 (c.toNat % 2) := by
      apply BitVec.eq_of_toNat_eq
      rw [BitVec.toNat_and, BitVec.toNat_ofNat]
      show c.toNat &&& 1 = _
      rw [Nat.and_one_is_mod]
      omega
    rw [h3]
    rcases Nat.mod_two_eq_zero_or_one c.toNat with h | h <;> rw [h] <;> rfl
  rw [h2]
  rfl
theorem crcBitN_eq (c : W32) (k : Nat → Nat) : crcBitN c.toNat k = k (crcBit c).toNat := by
  unfold crcBitN
  rw [ahead_eq, crcBit_toNat]
theorem crcByteN_eq (c : W32) (b : UInt8) (k : Nat → Nat) : crcByteN c.toNat b.toNat k = k (crcByte c b).toNat := by
  unfold crcByteN crcByte
  rw [ahead_eq]
  have h : Nat.xor c.toNat b.toNat = (c ^^^ BitVec.ofNat 32 b.toNat).toNat := by
    rw [BitVec.toNat_xor, BitVec.toNat_ofNat, Nat.mod_eq_of_lt (by have := b.toNat_lt; omega)]; rfl
  rw [h]
  simp only [crcBitN_eq]
theorem crcGo_eq : ∀ (l : List UInt8) (c : W32), crcGo l c.toNat = (~~~ (l.foldl crcByte c)).toNat
  | [], c => by
    show Nat.xor c.toNat 4294967295 = (~~~ c).toNat
    rw [← BitVec.xor_allOnes, BitVec.toNat_xor]
    rfl
  | b :: l, c => by
    show crcByteN c.toNat b.toNat (crcGo l) = _
    rw [crcByteN_eq, crcGo_eq l]
    rfl
theorem crcN_eq (l : List UInt8) : crcN l = (crcW l).toNat := crcGo_eq l (~~~ 0)
/-- as a function that is told of. -/
noncomputable def crcTold (l : List Value) : Option Value := match l with
  | [.string ⟨⟨s⟩⟩] => (match Nat.ble s.length 1048576 with | true => some (.int .u32 (.ofNat (crcN s))) | false => none)
  | _ => none
end Go.Ev
