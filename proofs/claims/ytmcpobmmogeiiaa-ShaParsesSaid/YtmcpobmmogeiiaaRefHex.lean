/-
  The document's Hex.
-/
import Derived.Test.YtmcpobmmogeiiaaEq
namespace Go.Proofs.Ytmcpobmmogeiiaa
open Go.RowKit

/-- the boxed sum at B, the text's bytes behind it. -/
structure EnvT (B : Nat) (w wr : World) (c : Array Value) : Prop where
  bel : Below B w wr
  b0 : wr.heap[B]? = some (.cells c 24 (0, 0))
  sz : B + 1 ≤ wr.heap.size
theorem EnvT.start (w : World) (c : Array Value) : EnvT w.heap.size w (w.alloc (.cells c 24)) c :=
  ⟨(Below.refl _ _).alloc (Nat.le_refl _) _, heap_alloc_last w _, by simp⟩
theorem EnvT.cell {B : Nat} {w wr : World} {f : Nat → Value} (h : EnvT B w wr (rowN 32 f)) {i : Nat} (hi : i < 32) : wr.cell? ⟨B, i, none⟩ = some (f i) := by
  rw [cell_of_row wr B i _ _ _ h.b0, rowN_get _ _ _ hi]
theorem EnvT.grown {B : Nat} {w wr w2 : World} {c : Array Value} {v : Value} {n : Nat} {xs : List Value} {o : Obj} (h : EnvT B w wr c) (hown : wr.ownsRow (B + 1) 5 1 v n xs) (hg : (wr.drew.alloc o).grownBy w2 v.ownBlock) : EnvT B w w2 c := by
  have hsz := h.sz
  have hl : ∀ k, v.ownBlock = some k → B + 1 ≤ k := fun k hk => (hown.lt k hk).1
  refine ⟨((h.bel.drew).alloc (by simp; omega) o).grown hg (by simp; omega) (fun k hk => by have := hl k hk; omega), ?_, by have := hg.size; simp at this; omega⟩
  rw [hg.block B (by simp; omega) (fun e => by have := hl B e.symm; omega), Below.heap_alloc _ _ _ (by simp; omega)]; exact h.b0
set_option maxRecDepth 100000 in
set_option maxHeartbeats 1000000 in
theorem refhex_any (bs : List By) (hbs : bs.length = 32) (w : World) :
    Calls Try.prog 23 #[.agg (byRow bs)] w fun e w' => e = .returned (.string (strOf (hexL bs))) ∧ Below w.heap.size w w' := by
  obtain ⟨i0, hi, hz0, hz1, hz2⟩ := info_parts Try.info5
  go_enter Try.func23, Try.ntmps23
  go_wp2
  go_loopw [4, 5] (fun v i wr => ∃ t : Nat, t ≤ 32 ∧ i = .int .i64 t ∧ wr.ownsRow (w.heap.size + 1) 5 1 v (2 * t) ((hexL (bs.take t)).map vB) ∧ EnvT w.heap.size w wr (byRow bs)) (fun _ i _ => 32 - (intOf i).toNat)
  case atStart => exact ⟨0, by omega, rfl, World.ownsRow_nil _ _ _ _, EnvT.start w _⟩
  case round =>
    obtain ⟨t, ht, rfl, hown, hE⟩ := hrel
    by_cases hlt : t < 32
    · have hx := EnvT.cell hE hlt
      obtain ⟨c, hc⟩ : ∃ c, c = bs.getD t 0 := ⟨_, rfl⟩
      have HC := Lib.hid hc
      rw [← hc] at hx
      clear hc
      have hd1 := digit_hi c
      have hd2 := digit_lo c
      have lt : 0 ≤ (t : Int) ∧ (t : Int) < 32 := by omega
      have hq : IntKind.u8.wrap ((c.toNat : Int) / 16) = (c.toNat : Int) / 16 := IntWalk.u8_in _ (by have := c.isLt; omega)
      have hr : IntKind.u8.wrap ((c.toNat : Int) % 16) = (c.toNat : Int) % 16 := IntWalk.u8_in _ (by have := c.isLt; omega)
      have hm : (c.toNat : Int).tmod 16 = (c.toNat : Int) % 16 := Int.tmod_eq_emod_of_nonneg (by omega)
      go_wp2
      go_region_law (refine step_append_own rfl (.tmp 10) (.tmp 23) 22 rfl (w.heap.size + 1) 5 i0 (.int .u8 0) 1 1 Try.underlying22 hi hz0 hz1 hz2 rfl (by decide) _ (2 * t) ((hexL (bs.take t)).map vB) rfl (by exact hown.drew.alloc _) ⟨wr.heap.size, 0, none⟩ 2 2 [vB (hexd (c.toNat / 16)), vB (hexd (c.toNat % 16))] rfl rfl (two_new _ _ _) (two_cells _ _) (by unfold maxLen; omega) (by omega) (by have := hE.sz; simp; omega) ?_; intro v2 w2 hown2 hgrow hne2)
      all_goals
        have hE2 := hE.grown hown hgrow
        rw [hex_succ bs t c HC.out (by omega)] at hown2
        clear hgrow hne2 hown hE hx lt
        go_wp2
        go_roundw
        case rel => exact ⟨t + 1, by omega, by go_num, hown2, hE2⟩
        case measure => simp [intOf]; omega
    · have ht32 : t = 32 := by omega
      rw [ht32, List.take_of_length_le (by omega)] at hown
      obtain ⟨gp, cp, hv, _, _, _, hcl⟩ := own_shape hown (by
        intro h0
        rcases hown.2 with ⟨_, h1⟩ | ⟨g, cap, cur, rfl, _⟩
        · omega
        · cases h0)
      have HV := Lib.hid hv
      have hl : (hexL bs).length = 2 * 32 := by have := hown.1; rw [List.length_map] at this; omega
      have hconv := run_convert_str wr gp (hexL bs) cp hcl
      rw [hl] at hconv
      rw [← hv] at hconv
      clear hv hcl hown
      have hb := hE.bel
      go_wp2
      go_ret
      exact ⟨rfl, hb⟩
end Go.Proofs.Ytmcpobmmogeiiaa
