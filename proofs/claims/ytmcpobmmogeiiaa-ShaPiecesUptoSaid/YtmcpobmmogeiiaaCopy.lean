/-
  The program's Hasher: its copy, and how much there was.
-/
import Derived.Test.YtmcpobmmogeiiaaSum
namespace Go.Proofs.Ytmcpobmmogeiiaa
open Go.RowKit

theorem HOK.alloc_other {g : Nat} {w : World} {L : List By} (h : HOK g w L) (o : Obj) : HOK g (w.alloc o) L := by
  obtain ⟨S, R, n, h⟩ := h
  exact ⟨S, R, n, ⟨h.obj.alloc o, h.st, h.hn, h.rest⟩⟩
set_option maxRecDepth 100000 in
set_option maxHeartbeats 400000 in
theorem copy_any (g : Nat) (L : List By) (w : World) (hH : HOK g w L) :
    Calls Try.prog 17 #[.pointer (some ⟨g, 0, none⟩)] w fun e w' => e = .returned (.pointer (some ⟨w.heap.size, 0, none⟩)) ∧ HOK w.heap.size w' L ∧ HOK g w' L ∧ Below w.heap.size w w' ∧ w.heap.size < w'.heap.size := by
  obtain ⟨S, R, n, hS⟩ := hH
  have hgl := hS.obj.lt
  have HO := Lib.hid hS.obj.obj
  go_enter Try.func17, Try.ntmps17
  go_wp2_with (first | (with_reducible refine wpList_load_row rfl 58 _ rfl g rfl 58 (hRow S R n L.length) (0, 0) _ HO.out Try.underlying58 rfl (by rw [hRow_size _ _ _ _ hS.obj.len]; exact Try.size58) ?_) | (with_reducible refine wpList_alloc_row rfl 58 rfl z74 Try.zero58 ?_) | (with_reducible refine wpList_store_last rfl 58 _ _ rfl rfl (hRow S R n L.length) z74 58 rfl rfl (by rw [hRow_size _ _ _ _ hS.obj.len]; exact Try.size58) (by rw [hRow_size _ _ _ _ hS.obj.len, z74_size]) (hRow_all _ _ _ _) ?_))
  go_ret
  exact ⟨rfl, ⟨S, R, n, ⟨⟨heap_alloc_last _ _, hS.obj.len⟩, hS.st, hS.hn, hS.rest⟩⟩, ⟨S, R, n, ⟨hS.obj.alloc _, hS.st, hS.hn, hS.rest⟩⟩, (Below.refl _ _).alloc (Nat.le_refl _) _, by simp⟩
set_option maxRecDepth 100000 in
set_option maxHeartbeats 400000 in
theorem len_any (g : Nat) (L : List By) (w : World) (hH : HOK g w L) :
    Calls Try.prog 20 #[.pointer (some ⟨g, 0, none⟩)] w fun e w' => e = .returned (.int .i64 L.length) ∧ w = w' := by
  obtain ⟨S, R, n, hS⟩ := hH
  have hc := hS.obj.call
  go_enter Try.func20, Try.ntmps20
  go_wp2
  go_ret
  exact ⟨rfl, rfl⟩
end Go.Proofs.Ytmcpobmmogeiiaa
