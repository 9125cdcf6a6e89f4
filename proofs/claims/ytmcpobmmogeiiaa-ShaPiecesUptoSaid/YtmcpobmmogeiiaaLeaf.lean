/-
  The leaves: turning a word right, in both texts; the constants.
-/
import Derived.Test.YtmcpobmmogeiiaaRows
import Derived.Test.YtmcpobmmogeiiaaSpec
import Derived.Test.YtmcpobmmogeiiaaArr
import Derived.WalkKit
import Derived.WalkSpells
import Derived.WalkLawsBesides
import Derived.Deep.QuietTactic
import Derived.BigQuiet
namespace Go.Proofs.Ytmcpobmmogeiiaa
open Go.RowKit

theorem ret_int {k : IntKind} {a b : Int} (h : a = b) : Ending.returned (.int k a) = .returned (.int k b) := by rw [h]
theorem ret_agg {a b : Array Value} (h : a = b) : Ending.returned (.agg a) = .returned (.agg b) := by rw [h]

set_option maxHeartbeats 400000 in
theorem refror_any (x : Wd) (n : Int) (h0 : 1 ≤ n) (h1 : n ≤ 31) (w : World) :
    Calls Try.prog 31 #[.int .u32 x.toNat, .int .i64 n] w fun e w' => e = .returned (.int .u32 (rorW x n.toNat).toNat) ∧ ∃ k, w' = w.drewN k := by
  obtain ⟨n, rfl⟩ := Int.eq_ofNat_of_zero_le (by omega : 0 ≤ n)
  go_enter Try.func31, Try.ntmps31
  go_wp2
  go_quiet (fail)
  go_wp2
  go_ret
  exact ⟨ret_int (by rw [w_shr, w_shl, w_or]; rfl), _, rfl⟩

set_option maxHeartbeats 400000 in
theorem rotl_any (x : Wd) (n : Int) (h0 : 1 ≤ n) (h1 : n ≤ 31) (w : World) :
    Calls Try.prog 37 #[.int .u32 x.toNat, .int .i64 (-n)] w fun e w' => e = .returned (.int .u32 (rorW x n.toNat).toNat) ∧ w = w' := by
  obtain ⟨n, rfl⟩ := Int.eq_ofNat_of_zero_le (by omega : 0 ≤ n)
  have hs := and31 n h0 h1
  have hs2 : (32 - (32 - (n : Int))) = n := by omega
  have hs3 : IntKind.u64.wrap (n : Int) = n := IntWalk.u64_in _ (by omega)
  go_enter Try.func37, Try.ntmps37
  go_wp2
  go_ret
  refine ⟨ret_int ?_, rfl⟩
  rw [w_shr, w_shl, w_or]
  unfold rorW
  rw [BitVec.or_comm]; rfl

set_option maxHeartbeats 400000 in
theorem ror_any (x : Wd) (n : Int) (h0 : 1 ≤ n) (h1 : n ≤ 31) (w : World) :
    Calls Try.prog 35 #[.int .u32 x.toNat, .int .i64 n] w fun e w' => e = .returned (.int .u32 (rorW x n.toNat).toNat) ∧ w = w' := by
  go_enter Try.func35, Try.ntmps35
  go_wp2_with (go_at_call 37; refine (rotl_any _ _ h0 h1 _).mono ?_; rintro e w' ⟨rfl, rfl⟩)
  go_ret
  exact ⟨rfl, rfl⟩

def kRow : Array Value := (kL.map vW).toArray

set_option maxHeartbeats 400000 in
theorem first_any (w : World) :
    Calls Try.prog 27 #[] w fun e w' => e = .returned (.agg h0.row) ∧ Below w.heap.size w w' := by
  go_enter Try.func27, Try.ntmps27
  go_wp2
  exact bodyPost_ret (v := .agg h0.row) (by simp [results, Try.results27, go_sem]; rfl) rfl ⟨rfl, (Below.refl _ _).alloc (Nat.le_refl _) _⟩


def z64 : Array Value := Array.replicate 64 (.int .u32 0)
theorem kRow_size : kRow.size = 64 := by kernel_rfl
theorem z64_size : z64.size = 64 := by kernel_rfl
theorem kRow_all : kRow.all (·.oneCell') = true := by kernel_rfl
theorem Try.zero67 : ((Try.prog.info? 67).bind (·.zero)).map (·.cells) = some z64 := by kernel_rfl
theorem Try.size67 : (Try.prog.info? 67).map (·.size) = some 64 := by kernel_rfl

set_option maxRecDepth 100000 in
set_option maxHeartbeats 400000 in
theorem constants_any (w : World) :
    Calls Try.prog 34 #[] w fun e w' => e = .returned (.agg kRow) ∧ w' = w.alloc (.cells kRow 67) := by
  go_enter Try.func34, Try.ntmps34
  go_wp2_with (first | (with_reducible refine wpList_alloc_row rfl 67 rfl z64 Try.zero67 ?_) | (with_reducible refine wpList_buildTo rfl 67 _ rfl _ rfl kRow (by as_aux_lemma => kernel_rfl) ?_) | (with_reducible refine wpList_store_last rfl 67 _ _ rfl rfl kRow z64 67 rfl rfl (by rw [kRow_size]; exact Try.size67) (by rw [kRow_size, z64_size]) kRow_all ?_))
  exact bodyPost_row rfl w.heap.size 67 kRow _ rfl (heap_alloc_last w _) Try.underlying67 rfl (by rw [kRow_size]; exact Try.size67) ⟨rfl, rfl⟩
set_option maxRecDepth 100000 in
set_option maxHeartbeats 400000 in
theorem k_any (w : World) :
    Calls Try.prog 32 #[] w fun e w' => e = .returned (.agg kRow) ∧ w' = w.alloc (.cells kRow 67) := by
  go_enter Try.func32, Try.ntmps32
  go_wp2_with (first | (with_reducible refine wpList_alloc_row rfl 67 rfl z64 Try.zero67 ?_) | (with_reducible refine wpList_buildTo rfl 67 _ rfl _ rfl kRow (by as_aux_lemma => kernel_rfl) ?_) | (with_reducible refine wpList_store_last rfl 67 _ _ rfl rfl kRow z64 67 rfl rfl (by rw [kRow_size]; exact Try.size67) (by rw [kRow_size, z64_size]) kRow_all ?_))
  exact bodyPost_row rfl w.heap.size 67 kRow _ rfl (heap_alloc_last w _) Try.underlying67 rfl (by rw [kRow_size]; exact Try.size67) ⟨rfl, rfl⟩

end Go.Proofs.Ytmcpobmmogeiiaa
