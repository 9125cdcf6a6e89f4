/-
  The first bits of a sum: both texts.
-/
import Derived.Test.YtmcpobmmogeiiaaEq
namespace Go.Proofs.Ytmcpobmmogeiiaa
open Go.RowKit

/-- how many bits of byte i stay. -/
def lft (n : Int) (i : Nat) : Nat := (min (max (n - 8 * i) 0) 8).toNat
def mask (m : Nat) : By := (BitVec.ofNat 16 65280 >>> m).setWidth 8
def bitsL (bs : List By) (n : Int) : List By := (List.range 32).map fun i => bs.getD i 0 &&& mask (lft n i)
theorem bitsL_length (bs : List By) (n : Int) : (bitsL bs n).length = 32 := by simp [bitsL]
def bRow (bs : List By) (n : Int) (t : Nat) : Array Value := rowN 32 fun i => if i < t then vB (bs.getD i 0 &&& mask (lft n i)) else vB (bs.getD i 0)
theorem bRow_zero (bs : List By) (n : Int) : bRow bs n 0 = byRow bs := by
  unfold bRow byRow; apply rowN_ext; intro i _; rw [if_neg (by omega)]
theorem bRow_full (bs : List By) (n : Int) : bRow bs n 32 = byRow (bitsL bs n) := by
  unfold bRow byRow; apply rowN_ext; intro i hi; rw [if_pos hi]; simp [bitsL, List.getD_eq_getElem?_getD, hi]
theorem bRow_size (bs : List By) (n : Int) (t : Nat) : (bRow bs n t).size = 32 := by rw [bRow, rowN_size]
theorem bRow_set (bs : List By) (n : Int) (t : Nat) (v : Value) (hv : v = vB (bs.getD t 0 &&& mask (lft n t))) : (bRow bs n t).setIfInBounds t v = bRow bs n (t + 1) := by
  subst hv
  unfold bRow
  rw [rowN_set]
  apply rowN_ext
  intro i _
  by_cases h1 : i = t
  · subst h1; simp
  · by_cases h2 : i < t
    · simp [h1, h2, Nat.lt_succ_of_lt h2]
    · have : ¬ i < t + 1 := by omega
      simp [h1, h2, this]

/-- one array being turned in place (block B), the result's place behind it. -/
structure EnvB (B : Nat) (w wr : World) (c : Array Value) : Prop where
  bel : Below B w wr
  b0 : wr.heap[B]? = some (.cells c 24 (0, 0))
  b1 : wr.heap[B + 1]? = some (.cells z32 24 (0, 0))
theorem EnvB.start (w : World) (c : Array Value) : EnvB w.heap.size w ((w.alloc (.cells c 24)).alloc (.cells z32 24)) c where
  bel := ((Below.refl _ _).alloc (Nat.le_refl _) _).alloc (by simp) _
  b0 := by rw [Below.heap_alloc _ _ _ (by simp)]; exact heap_alloc_last w _
  b1 := by
    have := heap_alloc_last (w.alloc (.cells c 24)) (.cells z32 24)
    simpa using this
theorem EnvB.go {B : Nat} {w wr : World} {c : Array Value} (h : EnvB B w wr c) (k : Nat) (X : World → Prop) (hx : ∀ w2, EnvB B w w2 c → X w2) : X (wr.drewN k) :=
  hx _ ⟨h.bel.trans ⟨rfl, rfl, rfl, Nat.le_refl _, fun _ _ => rfl⟩, h.b0, h.b1⟩
theorem EnvB.cell {B : Nat} {w wr : World} {f : Nat → Value} (h : EnvB B w wr (rowN 32 f)) {i : Nat} (hi : i < 32) : wr.cell? ⟨B, i, none⟩ = some (f i) := by
  rw [cell_of_row wr B i _ _ _ h.b0, rowN_get _ _ _ hi]
theorem EnvB.free {B : Nat} {w wr : World} {c : Array Value} (h : EnvB B w wr c) (i : Nat) : wr.frozen? ⟨B, i, none⟩ = false := frozen_of_row wr B i _ _ h.b0
theorem EnvB.set {B : Nat} {w wr : World} {c : Array Value} (h : EnvB B w wr c) (i : Nat) (v : Value) : EnvB B w (wr.setCell ⟨B, i, none⟩ v) (c.setIfInBounds i v) where
  bel := h.bel.setCell (by simp) v
  b0 := heap_setCell_same _ _ _ _ _ _ h.b0
  b1 := by rw [heap_setCell_other _ _ _ _ (by simp)]; exact h.b1

theorem lft_walk (n : Int) (t : Nat) (ht : t < 32) : min (max (min (max (min (max n 0) 256) 0) 256 - 8 * (t : Int)) 0) 8 = ((lft n t : Nat) : Int) := by
  unfold lft; omega
theorem byRow_all (bs : List By) : (byRow bs).all (·.oneCell') = true := rowN_all _ _ fun _ => rfl
theorem b_wrap (x : By) : IntKind.u8.wrap (x.toNat : Int) = (x.toNat : Int) := by
  have := x.isLt; exact IntWalk.u8_in _ (by omega)
theorem b_of (x : By) : BitVec.ofInt IntKind.u8.bits (x.toNat : Int) = x := by
  show BitVec.ofInt 8 (x.toNat : Int) = x
  rw [BitVec.ofInt_natCast, BitVec.ofNat_toNat]; simp
theorem b_and (x y : By) : bits BinOp.and IntKind.u8 (x.toNat : Int) (y.toNat : Int) = ((x &&& y).toNat : Int) := by
  unfold bits; rw [b_of, b_of]; exact b_wrap _
theorem b_andNot (x y : By) : bits BinOp.andNot IntKind.u8 (x.toNat : Int) (y.toNat : Int) = ((x &&& ~~~y).toNat : Int) := by
  show IntKind.u8.wrap ((BitVec.ofInt 8 (x.toNat : Int) &&& ~~~ BitVec.ofInt 8 (y.toNat : Int)).toNat : Int) = _
  have h1 : BitVec.ofInt 8 (x.toNat : Int) = x := b_of x
  have h2 : BitVec.ofInt 8 (y.toNat : Int) = y := b_of y
  rw [h1, h2]; exact b_wrap _
theorem mask_val (m : Nat) (hm : m ≤ 8) : ((65280 : Int) / 2 ^ m % 256) = ((mask m).toNat : Int) := by
  have key : ∀ m : Nat, m < 9 → ((65280 : Int) / 2 ^ m % 256) = ((mask m).toNat : Int) := by decide +kernel
  exact key m (by omega)
theorem and_mask (b : By) (m : Nat) (hm : m ≤ 8) : Value.int .u8 (bits BinOp.and IntKind.u8 (b.toNat : Int) ((65280 : Int) / 2 ^ m % 256)) = vB (b &&& mask m) := by
  rw [mask_val m hm, b_and]

set_option maxRecDepth 100000 in
set_option maxHeartbeats 1000000 in
theorem bits_any (bs : List By) (n : Int) (w : World) :
    Calls Try.prog 14 #[.agg (byRow bs), .int .i64 n] w fun e w' => e = .returned (.agg (byRow (bitsL bs n))) ∧ Below w.heap.size w w' := by
  go_enter Try.func14, Try.ntmps14
  go_wp2_with (with_reducible refine wpList_alloc_row rfl 24 rfl z32 Try.zero24 ?_)
  go_loopw [13] (fun i wr => ∃ t : Nat, t ≤ 32 ∧ i = .int .i64 t ∧ EnvB w.heap.size w wr (bRow bs n t)) (fun i _ => 32 - (intOf i).toNat)
  case atStart => exact ⟨0, by omega, rfl, by rw [bRow_zero]; exact EnvB.start w _⟩
  case round =>
    obtain ⟨t, ht, rfl, hE⟩ := hrel
    by_cases hlt : t < 32
    · have hx := EnvB.cell hE hlt
      rw [if_neg (by omega)] at hx
      have lt : 0 ≤ (t : Int) ∧ (t : Int) < 32 := by omega
      have em := lft_walk n t hlt
      have hl8 : lft n t ≤ 8 := by unfold lft; omega
      go_wp2
      refine wp_region_still_tail 8 (by kernel_rfl) (by kernel_rfl) ?_
      simp only [List.take_succ_cons, List.take_zero, List.drop_succ_cons, List.drop_zero]
      repeat (refine wpStill_step (fun K hK => ?_); go_simp; (try go_bits); (try (rw [if_pos (by omega)]; go_simp)); refine hK _ ?_; clear hK K)
      refine wpStill_nil ?_
      change wpList _ _ _ _ _ (wr.drewN 1)
      refine EnvB.go hE _ (fun w2 => wpList _ _ _ _ _ w2) ?_
      clear hx hE; intro wr hE
      have hx := EnvB.cell hE hlt
      have hf := hE.free t
      go_wp2
      clear hx hf
      go_roundw
      case rel =>
        exact ⟨t + 1, by omega, by go_num, by rw [← bRow_set bs n t _ (and_mask _ _ hl8)]; exact hE.set t _⟩
      case measure => simp [intOf]; omega
    · have hE : EnvB w.heap.size w wr (byRow (bitsL bs n)) := by
        have ht32 : t = 32 := by omega
        rw [ht32, bRow_full] at hE; exact hE
      go_wp2_with (first | (with_reducible refine wpList_load_row rfl 24 _ rfl w.heap.size rfl 24 (byRow (bitsL bs n)) (0, 0) _ hE.b0 Try.underlying24 rfl (by rw [byRow_size]; exact Try.size24) ?_) | (with_reducible refine wpList_store_row rfl 24 _ _ rfl (w.heap.size + 1) (byRow (bitsL bs n)) rfl rfl 24 z32 hE.b1 (by rw [byRow_size]; exact Try.size24) (by rw [byRow_size, z32_size]) (byRow_all _) ?_))
      exact bodyPost_row rfl (w.heap.size + 1) 24 (byRow (bitsL bs n)) _ rfl (setRow_heap _ _ _ _ _ _ hE.b1) Try.underlying24 rfl (by rw [byRow_size]; exact Try.size24) ⟨rfl, hE.bel.trans ⟨rfl, rfl, rfl, by simp, fun k hk => setRow_other _ _ _ _ (by omega)⟩⟩

/-- byte k behind the first j of its bits. -/
def clrTo (b : By) (n : Int) (k : Nat) : Nat → By
  | 0 => b
  | j + 1 => if n ≤ ((8 * k + j : Nat) : Int) then clrTo b n k j &&& ~~~(128#8 >>> j) else clrTo b n k j
def clr (b : By) (c : Nat) : Nat → By
  | 0 => b
  | j + 1 => if c ≤ j then clr b c j &&& ~~~(128#8 >>> j) else clr b c j
theorem clrTo_clr (b : By) (n : Int) (k : Nat) : ∀ j, j ≤ 8 → clrTo b n k j = clr b (lft n k) j
  | 0, _ => rfl
  | j + 1, hj => by
    have ih := clrTo_clr b n k j (by omega)
    have hc : n ≤ ((8 * k + j : Nat) : Int) ↔ lft n k ≤ j := by unfold lft; omega
    unfold clrTo clr
    rw [ih]
    by_cases h : n ≤ ((8 * k + j : Nat) : Int)
    · rw [if_pos h, if_pos (hc.1 h)]
    · rw [if_neg h, if_neg (fun h' => h (hc.2 h'))]
theorem clr_mask (b : By) (c : Nat) (hc : c ≤ 8) : clr b c 8 = b &&& mask c := by
  have key : ∀ c : Fin 9, ∀ b : By, clr b c.val 8 = b &&& mask c.val := by decide +kernel
  exact key ⟨c, by omega⟩ b
def rbRow (bs : List By) (n : Int) (t : Nat) : Array Value := rowN 32 fun k => vB (clrTo (bs.getD k 0) n k (min (t - 8 * k) 8))
theorem rbRow_zero (bs : List By) (n : Int) : rbRow bs n 0 = byRow bs := by
  unfold rbRow byRow; apply rowN_ext; intro i _; simp [clrTo]
theorem rbRow_full (bs : List By) (n : Int) : rbRow bs n 256 = byRow (bitsL bs n) := by
  unfold rbRow byRow; apply rowN_ext; intro i hi
  rw [show min (256 - 8 * i) 8 = 8 from by omega, clrTo_clr _ _ _ 8 (by omega), clr_mask _ _ (by unfold lft; omega)]
  simp [bitsL, List.getD_eq_getElem?_getD, hi]
theorem rbRow_skip (bs : List By) (n : Int) (t : Nat) (h : ¬ n ≤ (t : Int)) : rbRow bs n t = rbRow bs n (t + 1) := by
  unfold rbRow; apply rowN_ext; intro k _
  by_cases hk : k = t / 8
  · have e1 : min (t - 8 * k) 8 = t % 8 := by omega
    have e2 : min (t + 1 - 8 * k) 8 = t % 8 + 1 := by omega
    rw [e1, e2]
    show vB _ = vB (clrTo _ _ _ (t % 8 + 1))
    rw [clrTo, if_neg (by omega)]
  · rw [show min (t + 1 - 8 * k) 8 = min (t - 8 * k) 8 from by omega]
theorem rbRow_set (bs : List By) (n : Int) (t : Nat) (h : n ≤ (t : Int)) (v : Value) (hv : v = vB (clrTo (bs.getD (t / 8) 0) n (t / 8) (t % 8) &&& ~~~(128#8 >>> (t % 8)))) :
    (rbRow bs n t).setIfInBounds (t / 8) v = rbRow bs n (t + 1) := by
  subst hv
  unfold rbRow
  rw [rowN_set]
  apply rowN_ext
  intro k _
  by_cases hk : k = t / 8
  · subst hk
    have e2 : min (t + 1 - 8 * (t / 8)) 8 = t % 8 + 1 := by omega
    rw [if_pos rfl, e2, clrTo, if_pos (by omega)]
  · rw [if_neg hk, show min (t + 1 - 8 * k) 8 = min (t - 8 * k) 8 from by omega]
theorem top_val (j : Nat) (hj : j < 8) : ((128 : Int) / 2 ^ j) = ((128#8 >>> j : By).toNat : Int) := by
  have key : ∀ j : Nat, j < 8 → ((128 : Int) / 2 ^ j) = ((128#8 >>> j : By).toNat : Int) := by decide +kernel
  exact key j hj
theorem andNot_top (b : By) (j : Nat) (hj : j < 8) : Value.int .u8 (bits BinOp.andNot IntKind.u8 (b.toNat : Int) ((128 : Int) / 2 ^ j)) = vB (b &&& ~~~(128#8 >>> j)) := by
  rw [top_val j hj, b_andNot]

set_option maxRecDepth 100000 in
set_option maxHeartbeats 1000000 in
theorem refbits_any (bs : List By) (n : Int) (w : World) :
    Calls Try.prog 15 #[.agg (byRow bs), .int .i64 n] w fun e w' => e = .returned (.agg (byRow (bitsL bs n))) ∧ Below w.heap.size w w' := by
  go_enter Try.func15, Try.ntmps15
  go_wp2_with (with_reducible refine wpList_alloc_row rfl 24 rfl z32 Try.zero24 ?_)
  go_loopw [5] (fun i wr => ∃ t : Nat, t ≤ 256 ∧ i = .int .i64 t ∧ EnvB w.heap.size w wr (rbRow bs n t)) (fun i _ => 256 - (intOf i).toNat)
  case atStart => exact ⟨0, by omega, rfl, by rw [rbRow_zero]; exact EnvB.start w _⟩
  case round =>
    obtain ⟨t, ht, rfl, hE⟩ := hrel
    by_cases hlt : t < 256
    · by_cases hn : n ≤ (t : Int)
      · have hx := EnvB.cell hE (i := t / 8) (by omega)
        rw [show min (t - 8 * (t / 8)) 8 = t % 8 from by omega] at hx
        have lt : 0 ≤ (t : Int) / 8 ∧ (t : Int) / 8 < 32 := by omega
        have lm : 0 ≤ (t : Int) % 8 ∧ (t : Int) % 8 < 8 := by omega
        have nm : ((t : Int) % 8).toNat = t % 8 := by omega
        have nd : ((t : Int) / 8).toNat = t / 8 := by omega
        go_wp2
        refine wp_region_still_tail 11 (by kernel_rfl) (by kernel_rfl) ?_
        simp only [List.take_succ_cons, List.take_zero, List.drop_succ_cons, List.drop_zero]
        repeat (refine wpStill_step (fun K hK => ?_); go_simp; (try go_bits); (try (rw [if_pos (by omega)]; go_simp)); refine hK _ ?_; clear hK K)
        refine wpStill_nil ?_
        change wpList _ _ _ _ _ (wr.drewN 1)
        refine EnvB.go hE _ (fun w2 => wpList _ _ _ _ _ w2) ?_
        clear hx hE; intro wr hE
        have hx := EnvB.cell hE (i := t / 8) (by omega)
        have hf := hE.free (t / 8)
        go_wp2
        clear hx hf
        go_roundw
        case rel =>
          exact ⟨t + 1, by omega, by go_num, by rw [← rbRow_set bs n t hn _ (andNot_top _ _ (by omega))]; exact hE.set (t / 8) _⟩
        case measure => simp [intOf]; omega
      · rw [rbRow_skip bs n t hn] at hE
        have hn' : ¬ (n ≤ (t : Int)) := hn
        go_wp2
        go_roundw
        case rel => exact ⟨t + 1, by omega, by go_num, hE⟩
        case measure => simp [intOf]; omega
    · have hE : EnvB w.heap.size w wr (byRow (bitsL bs n)) := by
        have ht32 : t = 256 := by omega
        rw [ht32, rbRow_full] at hE; exact hE
      go_wp2_with (first | (with_reducible refine wpList_load_row rfl 24 _ rfl w.heap.size rfl 24 (byRow (bitsL bs n)) (0, 0) _ hE.b0 Try.underlying24 rfl (by rw [byRow_size]; exact Try.size24) ?_) | (with_reducible refine wpList_store_row rfl 24 _ _ rfl (w.heap.size + 1) (byRow (bitsL bs n)) rfl rfl 24 z32 hE.b1 (by rw [byRow_size]; exact Try.size24) (by rw [byRow_size, z32_size]) (byRow_all _) ?_))
      exact bodyPost_row rfl (w.heap.size + 1) 24 (byRow (bitsL bs n)) _ rfl (setRow_heap _ _ _ _ _ _ hE.b1) Try.underlying24 rfl (by rw [byRow_size]; exact Try.size24) ⟨rfl, hE.bel.trans ⟨rfl, rfl, rfl, by simp, fun k hk => setRow_other _ _ _ _ (by omega)⟩⟩
end Go.Proofs.Ytmcpobmmogeiiaa
