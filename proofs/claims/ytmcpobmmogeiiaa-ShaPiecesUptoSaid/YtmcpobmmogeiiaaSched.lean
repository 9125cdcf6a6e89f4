/-
  The program's schedule: a block's 64 words.
-/
import Derived.Test.YtmcpobmmogeiiaaRefBlock
namespace Go.Proofs.Ytmcpobmmogeiiaa
open Go.RowKit

theorem ror_same (x : Wd) (n : Int) (h0 : 1 ≤ n) (h1 : n ≤ 31) (w : World) :
    Calls Try.prog 35 #[.int .u32 x.toNat, .int .i64 n] w fun e w' => e = .returned (.int .u32 (rorW x n.toNat).toNat) ∧ w' = w :=
  (ror_any x n h0 h1 w).mono fun _ _ ⟨h, h'⟩ => ⟨h, h'.symm⟩

theorem wRow_size (W : Nat → Wd) (t : Nat) : (wRow W t).size = 64 := by rw [wRow, rowN_size]
theorem wRow_all (W : Nat → Wd) (t : Nat) : (wRow W t).all (·.oneCell') = true := by
  apply rowN_all
  intro i
  by_cases h : i < t
  · rw [if_pos h]; rfl
  · rw [if_neg h]; rfl

structure EnvS (B : Nat) (w wr : World) (c : Array Value) : Prop where
  size : wr.heap.size = B + 2
  bel : Below B w wr
  b0 : wr.heap[B]? = some (.cells z64 67 (0, 0))
  b1 : wr.heap[B + 1]? = some (.cells c 67 (0, 0))
theorem EnvS.start (w : World) (c : Array Value) : EnvS w.heap.size w ((w.alloc (.cells z64 67)).alloc (.cells c 67)) c where
  size := by simp
  bel := ((Below.refl _ _).alloc (Nat.le_refl _) _).alloc (by simp) _
  b0 := by rw [Below.heap_alloc _ _ _ (by simp)]; exact heap_alloc_last w _
  b1 := by
    have := heap_alloc_last (w.alloc (.cells z64 67)) (.cells c 67)
    simpa using this
theorem EnvS.go {B : Nat} {w wr : World} {c : Array Value} (h : EnvS B w wr c) (k : Nat) (X : World → Prop) (hx : ∀ w2, EnvS B w w2 c → X w2) : X (wr.drewN k) :=
  hx _ ⟨h.size, h.bel.trans ⟨rfl, rfl, rfl, Nat.le_refl _, fun _ _ => rfl⟩, h.b0, h.b1⟩
theorem EnvS.cell {B : Nat} {w wr : World} {f : Nat → Value} (h : EnvS B w wr (rowN 64 f)) {i : Nat} (hi : i < 64) : wr.cell? ⟨B + 1, i, none⟩ = some (f i) := by
  rw [cell_of_row wr (B + 1) i _ _ _ h.b1, rowN_get _ _ _ hi]
theorem EnvS.free {B : Nat} {w wr : World} {c : Array Value} (h : EnvS B w wr c) (i : Nat) : wr.frozen? ⟨B + 1, i, none⟩ = false :=
  frozen_of_row wr (B + 1) i _ _ h.b1
theorem EnvS.set {B : Nat} {w wr : World} {c : Array Value} (h : EnvS B w wr c) (i : Nat) (v : Value) : EnvS B w (wr.setCell ⟨B + 1, i, none⟩ v) (c.setIfInBounds i v) where
  size := by simp [h.size]
  bel := h.bel.setCell (by simp) v
  b0 := by rw [heap_setCell_other _ _ _ _ (by simp)]; exact h.b0
  b1 := heap_setCell_same _ _ _ _ _ _ h.b1

set_option maxRecDepth 100000 in
set_option maxHeartbeats 4000000 in
theorem schedule_any (b : List By) (bk off : Nat) (cap : Nat) (w : World) (hbk : bk < w.heap.size)
    (hb : ∀ i, i < 64 → w.cell? ⟨bk, off + i, none⟩ = some (vB (b.getD i 0))) :
    Calls Try.prog 33 #[.slice (some ⟨bk, off, none⟩) 64 cap] w fun e w' => e = .returned (.agg (wRow (Wt (words b)) 64)) ∧ Below w.heap.size w w' := by
  have HB := Lib.hid hb; clear hb
  go_enter Try.func33, Try.ntmps33
  go_wp2_with (first | (with_reducible refine wpList_alloc_row rfl 67 rfl z64 Try.zero67 ?_))
  go_loopw [8] (fun i wr => ∃ t : Nat, t ≤ 16 ∧ i = .int .i64 t ∧ EnvS w.heap.size w wr (wRow (Wt (words b)) t)) (fun i _ => 16 - (intOf i).toNat)
  case atStart => exact ⟨0, by omega, rfl, by rw [wRow_zero]; exact EnvS.start w _⟩
  case round =>
    obtain ⟨t, ht, rfl, hE⟩ := hrel
    by_cases hlt : t < 16
    · have hc0 := (hE.bel.cell (p := ⟨bk, off + 4 * t, none⟩) hbk).trans (HB.out (4 * t) (by omega))
      have hc1 := (hE.bel.cell (p := ⟨bk, off + (4 * t + 1), none⟩) hbk).trans (HB.out (4 * t + 1) (by omega))
      have hc2 := (hE.bel.cell (p := ⟨bk, off + (4 * t + 2), none⟩) hbk).trans (HB.out (4 * t + 2) (by omega))
      have hc3 := (hE.bel.cell (p := ⟨bk, off + (4 * t + 3), none⟩) hbk).trans (HB.out (4 * t + 3) (by omega))
      go_wp2
      refine wp_region_still_tail 35 (by kernel_rfl) (by kernel_rfl) ?_
      simp only [List.take_succ_cons, List.take_zero, List.drop_succ_cons, List.drop_zero]
      repeat (refine wpStill_step (fun K hK => ?_); go_simp; (try go_bits); (try (rw [if_pos (by omega)]; go_simp)); refine hK _ ?_; clear hK K)
      refine wpStill_nil ?_
      change wpList _ _ _ _ _ (wr.drewN 1)
      refine EnvS.go hE _ (fun w2 => wpList _ _ _ _ _ w2) ?_
      clear hE hc0 hc1 hc2 hc3; intro wr hE
      have hx := EnvS.cell hE (i := t) (by omega)
      have hf := hE.free t
      go_wp2
      clear hx hf
      go_roundw
      case rel => exact ⟨t + 1, by omega, by go_num, by rw [← wRow_set (Wt (words b)) t _ (be32_walk b t hlt)]; exact hE.set t _⟩
      case measure => simp [intOf]; omega
    · have hE16 : EnvS w.heap.size w wr (wRow (Wt (words b)) 16) := by
        have ht16 : t = 16 := by omega
        rw [ht16] at hE; exact hE
      clear hE
      go_wp2
      clear hlt ht
      obtain ⟨w1, hw1⟩ : ∃ w1, w1 = wr := ⟨_, rfl⟩
      subst hw1
      go_loopw [5] (fun i wr => ∃ t : Nat, 16 ≤ t ∧ t ≤ 64 ∧ i = .int .i64 t ∧ EnvS w.heap.size w wr (wRow (Wt (words b)) t)) (fun i _ => 64 - (intOf i).toNat)
      case atStart => exact ⟨16, by omega, by omega, rfl, hE16⟩
      case round =>
        obtain ⟨t, ht0, ht, rfl, hE⟩ := hrel
        by_cases hlt : t < 64
        · have hx2 := EnvS.cell hE (i := t - 2) (by omega)
          have hx15 := EnvS.cell hE (i := t - 15) (by omega)
          rw [if_pos (by omega)] at hx2 hx15
          have e2 : IntKind.i64.wrap ((t : Int) - 2) = t - 2 := IntWalk.i64_in _ (by omega)
          have e7 : IntKind.i64.wrap ((t : Int) - 7) = t - 7 := IntWalk.i64_in _ (by omega)
          have e15 : IntKind.i64.wrap ((t : Int) - 15) = t - 15 := IntWalk.i64_in _ (by omega)
          have e16 : IntKind.i64.wrap ((t : Int) - 16) = t - 16 := IntWalk.i64_in _ (by omega)
          have n2 : ((t : Int) - 2).toNat = t - 2 := by omega
          have n7 : ((t : Int) - 7).toNat = t - 7 := by omega
          have n15 : ((t : Int) - 15).toNat = t - 15 := by omega
          have n16 : ((t : Int) - 16).toNat = t - 16 := by omega
          have l2 : 0 ≤ (t : Int) - 2 ∧ (t : Int) - 2 < 64 := by omega
          have l7 : 0 ≤ (t : Int) - 7 ∧ (t : Int) - 7 < 64 := by omega
          have l15 : 0 ≤ (t : Int) - 15 ∧ (t : Int) - 15 < 64 := by omega
          have l16 : 0 ≤ (t : Int) - 16 ∧ (t : Int) - 16 < 64 := by omega
          go_wp2
          go_quiet (fail)
          clear hx2 hx15
          refine EnvS.go hE _ (fun w2 => Exit.then _ _ _ _ w2) ?_
          clear hE; intro wr hE
          have hx7 := EnvS.cell hE (i := t - 7) (by omega)
          have hx16 := EnvS.cell hE (i := t - 16) (by omega)
          rw [if_pos (by omega)] at hx7 hx16
          go_wp2
          refine wp_region_still_tail 29 (by kernel_rfl) (by kernel_rfl) ?_
          simp only [List.take_succ_cons, List.take_zero, List.drop_succ_cons, List.drop_zero]
          repeat (refine wpStill_step (fun K hK => ?_); go_simp; (try go_bits); (try (rw [if_pos (by omega)]; go_simp)); (first | refine hK _ ?_ | refine ⟨_, (ror_same _ _ (by omega) (by omega) _), hK _ ?_⟩); clear hK K)
          refine wpStill_nil ?_
          change wpList _ _ _ _ _ (wr.drewN 1)
          refine EnvS.go hE _ (fun w2 => wpList _ _ _ _ _ w2) ?_
          clear hx7 hx16 hE; intro wr hE
          have hx := EnvS.cell hE (i := t) (by omega)
          have hf := hE.free t
          go_wp2
          clear hx hf
          go_roundw
          case rel => exact ⟨t + 1, by omega, by omega, by go_num, by rw [← wRow_set (Wt (words b)) t _ (sched_walk b t ht0 hlt)]; exact hE.set t _⟩
          case measure => simp [intOf]; omega
        · have hE : EnvS w.heap.size w wr (wRow (Wt (words b)) 64) := by
            have ht64 : t = 64 := by omega
            rw [ht64] at hE; exact hE
          clear hE16
          go_wp2_with (first | (with_reducible refine wpList_load_row rfl 67 _ rfl (w.heap.size + 1) rfl 67 (wRow (Wt (words b)) 64) (0, 0) _ hE.b1 Try.underlying67 rfl (by rw [wRow_size]; exact Try.size67) ?_) | (with_reducible refine wpList_store_row rfl 67 _ _ rfl w.heap.size (wRow (Wt (words b)) 64) rfl rfl 67 z64 hE.b0 (by rw [wRow_size]; exact Try.size67) (by rw [wRow_size, z64_size]) (wRow_all _ _) ?_))
          exact bodyPost_row rfl w.heap.size 67 (wRow (Wt (words b)) 64) _ rfl (setRow_heap _ _ _ _ _ _ hE.b0) Try.underlying67 rfl (by rw [wRow_size]; exact Try.size67) ⟨rfl, hE.bel.trans ⟨rfl, rfl, rfl, by simp, fun k hk => setRow_other _ _ _ _ (by omega)⟩⟩
end Go.Proofs.Ytmcpobmmogeiiaa
