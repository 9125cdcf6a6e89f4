/-
  The check sum of any text: what the function computes.
-/
import Derived.Test.YtopkigockpiggaaGreatProg
import Derived.Test.YtopkigockpiggaaGreatEvCrc
import Derived.WalkKit
import Derived.WalkSpells
import Derived.WalkLawsBesides
import Derived.IntWalk
import Derived.Lib.Hide
set_option maxRecDepth 100000
set_option linter.unusedSimpArgs false
set_option linter.unusedVariables false
open Go Go.Ev Go.RowKit
namespace Go.Proofs.YtopkigockpiggaaGreat
theorem w_wrap (x : W32) : IntKind.u32.wrap (x.toNat : Int) = (x.toNat : Int) := by
  have := x.isLt; exact IntWalk.u32_in _ (by omega)
theorem w_of (x : W32) : BitVec.ofInt IntKind.u32.bits (x.toNat : Int) = x := by
  show BitVec.ofInt 32 (x.toNat : Int) = x
  rw [BitVec.ofInt_natCast, BitVec.ofNat_toNat]; simp
theorem w_and (x y : W32) : bits BinOp.and IntKind.u32 (x.toNat : Int) (y.toNat : Int) = ((x &&& y).toNat : Int) := by
  unfold bits; rw [w_of, w_of]; exact w_wrap _
theorem w_xor (x y : W32) : bits BinOp.xor IntKind.u32 (x.toNat : Int) (y.toNat : Int) = ((x ^^^ y).toNat : Int) := by
  unfold bits; rw [w_of, w_of]; exact w_wrap _
theorem w_not (x : W32) : bits BinOp.xor IntKind.u32 4294967295 (x.toNat : Int) = ((~~~x).toNat : Int) := by
  show IntKind.u32.wrap ((BitVec.ofInt 32 4294967295 ^^^ BitVec.ofInt 32 (x.toNat : Int)).toNat : Int) = _
  have h1 : BitVec.ofInt 32 (x.toNat : Int) = x := w_of x
  have h2 : BitVec.ofInt 32 4294967295 = BitVec.allOnes 32 := by decide
  rw [h1, h2, BitVec.allOnes_xor]; exact w_wrap _
noncomputable def crcBits : Nat → W32 → W32
  | 0, c => c
  | k + 1, c => crcBit (crcBits k c)
theorem crcBits_8 (c : W32) (b : UInt8) : crcBits 8 (c ^^^ BitVec.ofNat 32 b.toNat) = crcByte c b := rfl
theorem crc_snoc (s : ByteArray) (k : Nat) (h : k < s.size) : s.data.toList.take (k + 1) = s.data.toList.take k ++ [s[k]] := by
  rw [List.take_succ_eq_append_getElem (by simpa using h)]; rfl
theorem ret_int {k : IntKind} {a b : Int} (h : a = b) : Ending.returned (.int k a) = .returned (.int k b) := by rw [h]
theorem crc_bit (x : W32) : bits BinOp.xor IntKind.u32 ((x.toNat : Int) / 2) (bits BinOp.and IntKind.u32 2197175160 (-bits BinOp.and IntKind.u32 (x.toNat : Int) 1 % 4294967296)) = ((crcBit x).toNat : Int) := by
  have h1 : bits BinOp.and IntKind.u32 (x.toNat : Int) 1 = ((x &&& 1).toNat : Int) := w_and x 1
  have h2 : (-((x &&& 1).toNat : Int) % 4294967296) = ((-(x &&& 1)).toNat : Int) := by
    have := (x &&& 1).isLt
    rw [BitVec.toNat_neg]
    omega
  have h3 : (x.toNat : Int) / (2 : Int) = ((x >>> 1).toNat : Int) := by rw [BitVec.toNat_ushiftRight, Nat.shiftRight_eq_div_pow]; simp
  have h4 : bits BinOp.and IntKind.u32 2197175160 ((-(x &&& 1)).toNat : Int) = ((crcPoly &&& (-(x &&& 1))).toNat : Int) := w_and crcPoly (-(x &&& 1))
  rw [h1, h2, h3, h4, w_xor]
  rfl
set_option maxHeartbeats 400000 in
theorem crc_any (s : ByteArray) (hs : s.size ≤ maxLen) (w : World) : Calls Tryz.prog 245 #[.string s] w fun e w' => e = .returned (.int .u32 (crcW s.data.toList).toNat) ∧ w' = w := by
  unfold maxLen at hs
  go_enter Tryz.func245, Tryz.ntmps245
  go_wp2
  go_loop [3, 7] (fun c i => ∃ k : Nat, k ≤ s.size ∧ i = .int .i64 k ∧ c = .int .u32 ((s.data.toList.take k).foldl crcByte (~~~ 0)).toNat) (fun _ i => s.size - (intOf i).toNat)
  case atStart => exact ⟨0, Nat.zero_le _, rfl, rfl⟩
  case round =>
    obtain ⟨k, hk, rfl, rfl⟩ := hrel
    by_cases hlt : k < s.size
    · have hsn : (s.data.toList.take (k + 1)).foldl crcByte (~~~ 0) = crcByte ((s.data.toList.take k).foldl crcByte (~~~ 0)) s[k] := by
        rw [crc_snoc s k hlt, List.foldl_append]; rfl
      generalize hc : (s.data.toList.take k).foldl crcByte (~~~ 0) = c0 at hsn ⊢
      have HS := Lib.hid hsn
      clear hsn hc
      have hb := s[k].toNat_lt
      go_wp2
      go_loop [3, 16] (fun c j => ∃ m : Nat, m ≤ 8 ∧ j = .int .i64 m ∧ c = .int .u32 (crcBits m (c0 ^^^ BitVec.ofNat 32 s[k].toNat)).toNat) (fun _ j => 8 - (intOf j).toNat)
      case atStart =>
        refine ⟨0, by omega, rfl, ?_⟩
        have h1 : (s[k].toNat : Int) = ((BitVec.ofNat 32 s[k].toNat).toNat : Int) := by rw [BitVec.toNat_ofNat, Nat.mod_eq_of_lt (by omega)]
        rw [h1, w_xor]; rfl
      case round =>
        obtain ⟨m, hm, rfl, rfl⟩ := hrel
        by_cases hm8 : m < 8
        · generalize hx : crcBits m (c0 ^^^ BitVec.ofNat 32 s[k].toNat) = x
          have HX := Lib.hid hx
          clear hx
          go_wp2
          go_round
          case rel =>
            refine ⟨m + 1, by omega, by go_num, ?_⟩
            rw [show crcBits (m + 1) (c0 ^^^ BitVec.ofNat 32 s[k].toNat) = crcBit x by rw [← HX.out]; rfl]
            rw [crc_bit]
          case measure => simp [intOf]; omega
        · obtain rfl : m = 8 := by omega
          go_wp2
          go_round
          case rel => exact ⟨k + 1, by omega, by go_num, by rw [HS.out, ← crcBits_8]⟩
          case measure => simp [intOf]; omega
    · go_wp2
      go_ret
      refine ⟨ret_int ?_, rfl⟩
      have hall : s.data.toList.take k = s.data.toList := List.take_of_length_le (by simp; omega)
      rw [hall]
      exact w_not _
theorem crc_told (l : List Value) (v : Value) (h : crcTold l = some v) : (∀ x ∈ l, plainV x = true) ∧ isFlat v = true ∧ (∀ X w, (callFunc 245 X).run Tryz.prog w = .ok (.enter 245 X) w) ∧
    ∀ (w : World) m ro, CallsIn (Fw ro) m Tryz.prog 245 ⟨l⟩ w fun e w' => e = .returned v ∧ w'.os = w.os ∧ w'.tape = w.tape ∧ w'.output = w.output ∧ w.heap.size ≤ w'.heap.size ∧ ∀ j, j < w.heap.size → w'.heap[j]? = w.heap[j]? := by
  unfold crcTold at h
  split at h
  case h_2 => cases h
  rename_i s
  split at h
  case h_2 => cases h
  rename_i hle
  have hle : s.length ≤ 1048576 := Nat.le_of_ble_eq_true hle
  cases h
  refine ⟨fun x hx => by rw [List.mem_singleton.1 hx]; rfl, rfl, fun X w => ?_, fun w m ro => ?_⟩
  · have hnm : ¬ Tryz.f245.name = "runtime.NumGoroutine" := by
      have h : (Tryz.f245.name == "runtime.NumGoroutine") = false := by kernel_rfl
      simpa using h
    obtain ⟨b, hb⟩ : ∃ b, Tryz.f245.body = some b := ⟨_, rfl⟩
    simp [callFunc, Tryz.func245, hnm, hb]
  · show CallsIn Fence.wide m Tryz.prog 245 ⟨[.string ⟨⟨s⟩⟩]⟩ w _
    refine callsIn_wide.2 ((crc_any ⟨⟨s⟩⟩ (by show s.length ≤ maxLen; unfold maxLen; omega) w).mono ?_)
    rintro e w' ⟨rfl, rfl⟩
    refine ⟨?_, rfl, rfl, rfl, Nat.le_refl _, fun _ _ => rfl⟩
    rw [crcN_eq]; rfl
end Go.Proofs.YtopkigockpiggaaGreat
