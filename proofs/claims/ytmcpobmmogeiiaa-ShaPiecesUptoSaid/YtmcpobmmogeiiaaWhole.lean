/-
  The program's New and Sum of bytes.
-/
import Derived.Test.YtmcpobmmogeiiaaSum
namespace Go.Proofs.Ytmcpobmmogeiiaa
open Go.RowKit

theorem first_out (w : World) :
    Calls Try.prog 27 #[] w fun e w' => e = .returned (.agg h0.row) ∧ w' = w.alloc (.cells h0.row 52) := by
  go_enter Try.func27, Try.ntmps27
  go_wp2
  exact bodyPost_ret (v := .agg h0.row) (by simp [results, Try.results27, go_sem]; rfl) rfl ⟨rfl, rfl⟩

def r64 : List By := List.replicate 64 0#8
theorem new_built : Try.prog.built 58 [(0, .agg h0.row)] = some (hRow h0 r64 0 0) := by kernel_rfl
theorem h0_state : h0 = stateOf [] := rfl

set_option maxRecDepth 100000 in
set_option maxHeartbeats 400000 in
theorem new_any (w : World) :
    Calls Try.prog 16 #[] w fun e w' => e = .returned (.pointer (some ⟨w.heap.size + 1, 0, none⟩)) ∧ HOK (w.heap.size + 1) w' [] ∧ Below w.heap.size w w' := by
  go_enter Try.func16, Try.ntmps16
  go_wp2_with (first | (go_at_call 27; refine (first_out _).mono ?_; rintro e w' ⟨rfl, rfl⟩) | (with_reducible refine wpList_buildTo rfl 58 _ rfl _ rfl (hRow h0 r64 0 0) (by as_aux_lemma => kernel_rfl) ?_))
  go_ret
  refine ⟨by simp, ⟨h0, r64, 0, ⟨⟨?_, rfl⟩, h0_state, rfl, fun i hi => by omega⟩⟩, ((Below.refl _ _).alloc (Nat.le_refl _) _).alloc (by simp) _⟩
  have := heap_alloc_last (w.alloc (.cells h0.row 52)) (.cells (hRow h0 r64 0 0) 58)
  simpa using this

set_option maxRecDepth 100000 in
set_option maxHeartbeats 400000 in
theorem shasum_any (bs : List By) (ao : Option Addr) (bk off cap : Nat) (w : World) (hlen : bs.length ≤ 1152921504606846976) (hcap : bs.length ≤ cap)
    (hao : 0 < bs.length → ao = some ⟨bk, off, none⟩) (hbk : 0 < bs.length → bk < w.heap.size)
    (hb : ∀ i, i < bs.length → w.cell? ⟨bk, off + i, none⟩ = some (vB (bs.getD i 0))) :
    Calls Try.prog 11 #[.slice ao bs.length cap] w fun e w' => e = .returned (.agg (sumRow (shaS bs))) ∧ Below w.heap.size w w' := by
  have HB := Lib.hid hb; clear hb
  have HA := Lib.hid hao; clear hao
  go_enter Try.func11, Try.ntmps11
  go_wp2_with (with_reducible refine wpList_alloc_row rfl 24 rfl z32 Try.zero24 ?_)
  refine (new_any _).mono ?_
  rintro e w1 ⟨rfl, hok, hb1⟩
  rw [World.size_alloc] at *
  go_wp2_with fail
  refine (write_any (w.heap.size + 1 + 1) [] bs ao bk off cap w1 hok (by simp; omega) hcap HA.out (fun h => ⟨by have := hbk h; have := hb1.size; simp at this; omega, by have := hbk h; omega⟩) (fun i hi => ?hc)).mono ?_
  case hc =>
    have hbk' := hbk (by omega)
    rw [hb1.cell (p := ⟨bk, off + i, none⟩) (by simp; omega), World.cell?_of_block (w := w) (by rw [Below.heap_alloc _ _ _ (by simpa using hbk')])]; exact HB.out i hi
  rintro e w2 ⟨rfl, hok2, hk2⟩
  rw [List.nil_append] at hok2
  go_wp2_with fail
  refine (sum_any (w.heap.size + 1 + 1) bs w2 hok2 hlen).mono ?_
  rintro e w3 ⟨rfl, hb3⟩
  have hr : w3.heap[w.heap.size]? = some (.cells z32 24 (0, 0)) := by
    have h2 := hk2.size
    have h1 := hb1.size
    simp only [World.size_alloc] at h1
    rw [hb3.block _ (by omega), hk2.block _ (by omega) (by omega), hb1.block _ (by simp)]
    exact heap_alloc_last w _
  have hbel : Below w.heap.size w w3 := by
    have h1 := hb1.size
    simp only [World.size_alloc] at h1
    have hA : Below w.heap.size w w1 := ((Below.refl _ _).alloc (Nat.le_refl _) _).trans (hb1.mono (by simp))
    have hB : Below w.heap.size w1 w2 := ⟨hk2.os, hk2.tape, hk2.output, hk2.size, fun k hk => hk2.block k (by omega) (by omega)⟩
    exact (hA.trans hB).trans (hb3.mono (by have := hk2.size; omega))
  clear hb1 hok hok2 hk2 hb3
  go_wp2_with (with_reducible refine wpList_store_row rfl 24 _ _ rfl w.heap.size (sumRow (shaS bs)) rfl rfl 24 z32 hr (by rw [sumRow_size]; exact Try.size24) (by rw [sumRow_size, z32_size]) (sumRow_all _) ?_)
  exact bodyPost_row rfl w.heap.size 24 (sumRow (shaS bs)) _ rfl (setRow_heap _ _ _ _ _ _ hr) Try.underlying24 rfl (by rw [sumRow_size]; exact Try.size24) ⟨rfl, hbel.trans ⟨rfl, rfl, rfl, by simp, fun k hk => setRow_other _ _ _ _ (by omega)⟩⟩
end Go.Proofs.Ytmcpobmmogeiiaa
