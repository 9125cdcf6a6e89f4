/-
  The first bits: the walk of the law ShaBits.
-/
import Derived.Test.YtmcpobmmogeiiaaBits
import Derived.Deep.RegionHeld3
import Derived.Deep.MidRow
namespace Go.Proofs.Ytmcpobmmogeiiaa
open Go.RowKit

theorem mask_and (a b : Nat) (ha : a ≤ 8) (hb : b ≤ 8) : mask a &&& mask b = mask (min a b) := by
  have key : ∀ a : Fin 9, ∀ b : Fin 9, mask a.val &&& mask b.val = mask (min a.val b.val) := by decide +kernel
  exact key ⟨a, by omega⟩ ⟨b, by omega⟩
theorem bitsL_bitsL (bs : List By) (n m : Int) : bitsL (bitsL bs n) m = bitsL bs (min n m) := by
  unfold bitsL
  apply List.map_congr_left
  intro i hi
  have hi : i < 32 := by simpa using hi
  have h1 : lft (min n m) i = min (lft n i) (lft m i) := by unfold lft; omega
  rw [h1, ← mask_and _ _ (by unfold lft; omega) (by unfold lft; omega)]
  simp [List.getD_eq_getElem?_getD, hi, BitVec.and_assoc]

theorem bits_at (bs : List By) (n : Int) (w : World) :
    Calls Try.prog 14 #[.agg (byRow bs).toList.toArray, .int .i64 n] w fun e w' => e = .returned (.agg (byRow (bitsL bs n))) ∧ Below w.heap.size w w' := by
  rw [Array.toArray_toList]; exact bits_any bs n w
theorem refbits_at (bs : List By) (n : Int) (w : World) :
    Calls Try.prog 15 #[.agg (byRow bs).toList.toArray, .int .i64 n] w fun e w' => e = .returned (.agg (byRow (bitsL bs n))) ∧ Below w.heap.size w w' := by
  rw [Array.toArray_toList]; exact refbits_any bs n w
theorem keepB {B : Nat} {wA wi w' : World} {cs : List Value} (hs : B + 1 ≤ wA.heap.size) (h1 : Below (B + 1) wA wi) (h2 : wi.rangeAt B 0 cs) (hb : Below wi.heap.size wi w') :
    Below (B + 1) wA w' ∧ w'.rangeAt B 0 cs :=
  ⟨h1.trans (hb.mono (Nat.le_trans hs h1.size)), fun j v hv => by
    rw [hb.cell (p := ⟨B, 0 + j, none⟩) (Nat.lt_of_lt_of_le (Nat.lt_of_succ_le hs) h1.size)]; exact h2 j v hv⟩
theorem startB (w : World) (c : Array Value) : Below (w.heap.size + 1) (w.alloc (.cells c 24)) (w.alloc (.cells c 24)).drew ∧ (w.alloc (.cells c 24)).drew.rangeAt w.heap.size 0 c.toList :=
  ⟨(Below.refl _ _).drew, by
    rw [World.rangeAt_drew]
    intro j v hv
    rw [cell_of_row _ _ _ _ _ _ (heap_alloc_last w _)]
    simpa using hv⟩

set_option maxRecDepth 100000 in
set_option maxHeartbeats 1000000 in
theorem bits_walk (bs : List By) (hbs : bs.length = 32) (n m : Int) (w : World) :
    Calls Try.prog 4 #[.agg (byRow bs), .int .i64 n, .int .i64 m] w fun e w' => e = .returned (.bool true) ∧ Below w.heap.size w w' := by
  have hg := eqGuard24
  have heq1 : ∀ W : World, (Op.equalIn 10000 24 (.agg (byRow (bitsL bs n))) (.agg (byRow (bitsL bs n)))).run Try.prog W = .ok true W := fun W => by
    rw [run_eql_by W _ _ (bitsL_length _ _) (bitsL_length _ _)]; simp
  have hu := Try.underlying24
  have hi : (Try.prog.info? 24).map (·.size) = some (byRow bs).toList.length := by
    rw [Array.length_toList, byRow_size]; exact Try.size24
  by_cases hmn : m < n
  · have heq2 : ∀ W : World, (Op.equalIn 10000 24 (.agg (byRow (bitsL (bitsL bs n) m))) (.agg (byRow (bitsL bs m)))).run Try.prog W = .ok true W := fun W => by
      rw [run_eql_by W _ _ (bitsL_length _ _) (bitsL_length _ _), bitsL_bitsL, show min n m = m from by omega]; simp
    go_enter Try.func4, Try.ntmps4
    go_wp2_with fail
    have hz : w.heap.size + 1 ≤ (w.alloc (.cells (byRow bs) 24)).heap.size := by simp
    refine wp_region_held_drew (S := fun w' => Below (w.heap.size + 1) (w.alloc (.cells (byRow bs) 24)) w' ∧ w'.rangeAt w.heap.size 0 (byRow bs).toList) (by kernel_rfl) (startB w (byRow bs)) (fun hHeld => ?_)
    refine wpAnyH_ready (rs := [0]) (by kernel_rfl) (by simp) ?_
    refine AllReadyH.cons (o := { dst := some 13, op := Op.call { callee := Callee.value (Operand.func 10), args := #[], argTypes := #[] }, type := 4, pos := "law.go:52", after := #[], guard := none }) rfl (fun K hK => ?_) AllReadyH.nil
    go_simp
    (go_at_call 10; refine (lives_any _).mono ?_; rintro e wn ⟨rfl, hb⟩; go_wp2_with fail)
    refine hK.out _ _ (keepB hz hHeld.1 hHeld.2 hb) (fun hNew => ?_)
    clear hK K hHeld
    have hHeld := hNew
    clear hNew
    try simp only [Act.put, List.setIfInBounds_toArray, List.set_cons_zero, List.set_cons_succ]
    refine wpAnyH_take (i := 1) (oi := { dst := some 14, op := Op.move (Operand.tmp 13), type := 4, pos := "law.go:52", after := #[{ on := 0, ground := Ground.data }, { on := 0, ground := Ground.chain }], guard := none }) (v := ?_) rfl (by kernel_rfl) (by kernel_rfl) (by kernel_rfl) (fun _ _ _ h => h) ?_ hHeld ?_; rotate_left
    · (refine Or.inl ⟨by rfl, ?_⟩; intro w hSw; clear hSw; go_simp; try with_reducible rfl)
    try simp only [Act.put, List.setIfInBounds_toArray, List.set_cons_zero, List.set_cons_succ]
    refine wpAnyH_take (i := 2) (oi := { dst := some 15, op := Op.load 24 (Operand.tmp 3), type := 24, pos := "law.go:52", after := #[{ on := 1, ground := Ground.guard }], guard := some (1, true) }) (v := .agg (List.toArray (byRow bs).toList)) rfl (by kernel_rfl) (by kernel_rfl) (by kernel_rfl) (fun _ _ _ h => h) ?_ hHeld ?_
    · (refine yieldsIf_load_mid (by rfl) _ _ rfl _ _ rfl _ _ ?_ hu rfl hi; exact fun _ hw => hw.2)
    try simp only [Act.put, List.setIfInBounds_toArray, List.set_cons_zero, List.set_cons_succ]
    refine wpAnyH_take (i := 3) (oi := { dst := some 16, op := Op.move (Operand.tmp 1), type := 3, pos := "law.go:52", after := #[{ on := 1, ground := Ground.guard }], guard := some (1, true) }) (v := ?_) rfl (by kernel_rfl) (by kernel_rfl) (by kernel_rfl) (fun _ _ _ h => h) ?_ hHeld ?_; rotate_left
    · (refine Or.inl ⟨by rfl, ?_⟩; intro w hSw; clear hSw; go_simp; try with_reducible rfl)
    try simp only [Act.put, List.setIfInBounds_toArray, List.set_cons_zero, List.set_cons_succ]
    refine wpAnyH_take (i := 5) (oi := { dst := some 18, op := Op.load 24 (Operand.tmp 3), type := 24, pos := "law.go:52", after := #[{ on := 1, ground := Ground.guard }], guard := some (1, true) }) (v := .agg (List.toArray (byRow bs).toList)) rfl (by kernel_rfl) (by kernel_rfl) (by kernel_rfl) (fun _ _ _ h => h) ?_ hHeld ?_
    · (refine yieldsIf_load_mid (by rfl) _ _ rfl _ _ rfl _ _ ?_ hu rfl hi; exact fun _ hw => hw.2)
    try simp only [Act.put, List.setIfInBounds_toArray, List.set_cons_zero, List.set_cons_succ]
    refine wpAnyH_take (i := 6) (oi := { dst := some 19, op := Op.move (Operand.tmp 1), type := 3, pos := "law.go:52", after := #[{ on := 1, ground := Ground.guard }], guard := some (1, true) }) (v := ?_) rfl (by kernel_rfl) (by kernel_rfl) (by kernel_rfl) (fun _ _ _ h => h) ?_ hHeld ?_; rotate_left
    · (refine Or.inl ⟨by rfl, ?_⟩; intro w hSw; clear hSw; go_simp; try with_reducible rfl)
    try simp only [Act.put, List.setIfInBounds_toArray, List.set_cons_zero, List.set_cons_succ]
    refine wpAnyH_ready (rs := [4]) (by kernel_rfl) (by simp) ?_
    refine AllReadyH.cons (o := { dst := some 17, op := Op.call { callee := Callee.value (Operand.func 14), args := #[Operand.tmp 15, Operand.tmp 16], argTypes := #[24, 3] }, type := 24, pos := "law.go:52", after := #[{ on := 2, ground := Ground.data }, { on := 3, ground := Ground.data }, { on := 1, ground := Ground.chain }, { on := 1, ground := Ground.guard }], guard := some (1, true) }) rfl (fun K hK => ?_) AllReadyH.nil
    go_simp
    (go_at_call 14; refine (bits_at bs n _).mono ?_; rintro e wn ⟨rfl, hb⟩; go_wp2_with fail)
    refine hK.out _ _ (keepB hz hHeld.1 hHeld.2 hb) (fun hNew => ?_)
    clear hK K hHeld
    have hHeld := hNew
    clear hNew
    try simp only [Act.put, List.setIfInBounds_toArray, List.set_cons_zero, List.set_cons_succ]
    refine wpAnyH_ready (rs := [7]) (by kernel_rfl) (by simp) ?_
    refine AllReadyH.cons (o := { dst := some 20, op := Op.call { callee := Callee.value (Operand.func 15), args := #[Operand.tmp 18, Operand.tmp 19], argTypes := #[24, 3] }, type := 24, pos := "law.go:52", after := #[{ on := 5, ground := Ground.data }, { on := 6, ground := Ground.data }, { on := 4, ground := Ground.chain }, { on := 1, ground := Ground.guard }], guard := some (1, true) }) rfl (fun K hK => ?_) AllReadyH.nil
    go_simp
    (go_at_call 15; refine (refbits_at bs n _).mono ?_; rintro e wn ⟨rfl, hb⟩; go_wp2_with fail)
    refine hK.out _ _ (keepB hz hHeld.1 hHeld.2 hb) (fun hNew => ?_)
    clear hK K hHeld
    have hHeld := hNew
    clear hNew
    try simp only [Act.put, List.setIfInBounds_toArray, List.set_cons_zero, List.set_cons_succ]
    refine wpAnyH_take (i := 8) (oi := { dst := some 21, op := Op.binOp BinOp.eql 24 (Operand.tmp 17) (Operand.tmp 20) 24, type := 4, pos := "law.go:52", after := #[{ on := 4, ground := Ground.data }, { on := 7, ground := Ground.data }, { on := 1, ground := Ground.guard }], guard := some (1, true) }) (v := ?_) rfl (by kernel_rfl) (by kernel_rfl) (by kernel_rfl) (fun _ _ _ h => h) ?_ hHeld ?_; rotate_left
    · (refine Or.inl ⟨by rfl, ?_⟩; intro w hSw; clear hSw; go_simp; try with_reducible rfl)
    try simp only [Act.put, List.setIfInBounds_toArray, List.set_cons_zero, List.set_cons_succ]
    refine wpAnyH_take (i := 9) (oi := { dst := some 22, op := Op.pick (Operand.tmp 14) (Operand.tmp 21) (Operand.const (Value.bool false)), type := 4, pos := "law.go:52", after := #[{ on := 1, ground := Ground.data }, { on := 8, ground := Ground.data }], guard := none }) (v := ?_) rfl (by kernel_rfl) (by kernel_rfl) (by kernel_rfl) (fun _ _ _ h => h) ?_ hHeld ?_; rotate_left
    · (refine Or.inl ⟨by rfl, ?_⟩; intro w hSw; clear hSw; go_simp; try with_reducible rfl)
    try simp only [Act.put, List.setIfInBounds_toArray, List.set_cons_zero, List.set_cons_succ]
    refine wpAnyH_take (i := 10) (oi := { dst := some 23, op := Op.move (Operand.tmp 22), type := 4, pos := "law.go:52", after := #[{ on := 9, ground := Ground.data }, { on := 7, ground := Ground.chain }], guard := none }) (v := ?_) rfl (by kernel_rfl) (by kernel_rfl) (by kernel_rfl) (fun _ _ _ h => h) ?_ hHeld ?_; rotate_left
    · (refine Or.inl ⟨by rfl, ?_⟩; intro w hSw; clear hSw; go_simp; try with_reducible rfl)
    try simp only [Act.put, List.setIfInBounds_toArray, List.set_cons_zero, List.set_cons_succ]
    refine wpAnyH_take (i := 11) (oi := { dst := some 24, op := Op.load 24 (Operand.tmp 3), type := 24, pos := "law.go:52", after := #[{ on := 10, ground := Ground.guard }], guard := some (10, true) }) (v := .agg (List.toArray (byRow bs).toList)) rfl (by kernel_rfl) (by kernel_rfl) (by kernel_rfl) (fun _ _ _ h => h) ?_ hHeld ?_
    · (refine yieldsIf_load_mid (by rfl) _ _ rfl _ _ rfl _ _ ?_ hu rfl hi; exact fun _ hw => hw.2)
    try simp only [Act.put, List.setIfInBounds_toArray, List.set_cons_zero, List.set_cons_succ]
    refine wpAnyH_take (i := 12) (oi := { dst := some 25, op := Op.move (Operand.tmp 1), type := 3, pos := "law.go:52", after := #[{ on := 10, ground := Ground.guard }], guard := some (10, true) }) (v := ?_) rfl (by kernel_rfl) (by kernel_rfl) (by kernel_rfl) (fun _ _ _ h => h) ?_ hHeld ?_; rotate_left
    · (refine Or.inl ⟨by rfl, ?_⟩; intro w hSw; clear hSw; go_simp; try with_reducible rfl)
    try simp only [Act.put, List.setIfInBounds_toArray, List.set_cons_zero, List.set_cons_succ]
    refine wpAnyH_take (i := 14) (oi := { dst := some 27, op := Op.move (Operand.tmp 2), type := 3, pos := "law.go:52", after := #[{ on := 10, ground := Ground.guard }], guard := some (10, true) }) (v := ?_) rfl (by kernel_rfl) (by kernel_rfl) (by kernel_rfl) (fun _ _ _ h => h) ?_ hHeld ?_; rotate_left
    · (refine Or.inl ⟨by rfl, ?_⟩; intro w hSw; clear hSw; go_simp; try with_reducible rfl)
    try simp only [Act.put, List.setIfInBounds_toArray, List.set_cons_zero, List.set_cons_succ]
    refine wpAnyH_take (i := 16) (oi := { dst := some 29, op := Op.load 24 (Operand.tmp 3), type := 24, pos := "law.go:52", after := #[{ on := 10, ground := Ground.guard }], guard := some (10, true) }) (v := .agg (List.toArray (byRow bs).toList)) rfl (by kernel_rfl) (by kernel_rfl) (by kernel_rfl) (fun _ _ _ h => h) ?_ hHeld ?_
    · (refine yieldsIf_load_mid (by rfl) _ _ rfl _ _ rfl _ _ ?_ hu rfl hi; exact fun _ hw => hw.2)
    try simp only [Act.put, List.setIfInBounds_toArray, List.set_cons_zero, List.set_cons_succ]
    refine wpAnyH_take (i := 17) (oi := { dst := some 30, op := Op.move (Operand.tmp 7), type := 3, pos := "law.go:52", after := #[{ on := 10, ground := Ground.guard }], guard := some (10, true) }) (v := ?_) rfl (by kernel_rfl) (by kernel_rfl) (by kernel_rfl) (fun _ _ _ h => h) ?_ hHeld ?_; rotate_left
    · (refine Or.inl ⟨by rfl, ?_⟩; intro w hSw; clear hSw; go_simp; try with_reducible rfl)
    try simp only [Act.put, List.setIfInBounds_toArray, List.set_cons_zero, List.set_cons_succ]
    refine wpAnyH_ready (rs := [13]) (by kernel_rfl) (by simp) ?_
    refine AllReadyH.cons (o := { dst := some 26, op := Op.call { callee := Callee.value (Operand.func 14), args := #[Operand.tmp 24, Operand.tmp 25], argTypes := #[24, 3] }, type := 24, pos := "law.go:52", after := #[{ on := 11, ground := Ground.data }, { on := 12, ground := Ground.data }, { on := 10, ground := Ground.chain }, { on := 10, ground := Ground.guard }], guard := some (10, true) }) rfl (fun K hK => ?_) AllReadyH.nil
    go_simp
    (go_at_call 14; refine (bits_at bs n _).mono ?_; rintro e wn ⟨rfl, hb⟩; go_wp2_with fail)
    refine hK.out _ _ (keepB hz hHeld.1 hHeld.2 hb) (fun hNew => ?_)
    clear hK K hHeld
    have hHeld := hNew
    clear hNew
    try simp only [Act.put, List.setIfInBounds_toArray, List.set_cons_zero, List.set_cons_succ]
    refine wpAnyH_ready (rs := [15]) (by kernel_rfl) (by simp) ?_
    refine AllReadyH.cons (o := { dst := some 28, op := Op.call { callee := Callee.value (Operand.func 14), args := #[Operand.tmp 26, Operand.tmp 27], argTypes := #[24, 3] }, type := 24, pos := "law.go:52", after := #[{ on := 13, ground := Ground.data }, { on := 14, ground := Ground.data }, { on := 13, ground := Ground.chain }, { on := 10, ground := Ground.guard }], guard := some (10, true) }) rfl (fun K hK => ?_) AllReadyH.nil
    go_simp
    (go_at_call 14; refine (bits_any (bitsL bs n) m _).mono ?_; rintro e wn ⟨rfl, hb⟩; go_wp2_with fail)
    refine hK.out _ _ (keepB hz hHeld.1 hHeld.2 hb) (fun hNew => ?_)
    clear hK K hHeld
    have hHeld := hNew
    clear hNew
    try simp only [Act.put, List.setIfInBounds_toArray, List.set_cons_zero, List.set_cons_succ]
    refine wpAnyH_ready (rs := [18]) (by kernel_rfl) (by simp) ?_
    refine AllReadyH.cons (o := { dst := some 31, op := Op.call { callee := Callee.value (Operand.func 14), args := #[Operand.tmp 29, Operand.tmp 30], argTypes := #[24, 3] }, type := 24, pos := "law.go:52", after := #[{ on := 16, ground := Ground.data }, { on := 17, ground := Ground.data }, { on := 15, ground := Ground.chain }, { on := 10, ground := Ground.guard }], guard := some (10, true) }) rfl (fun K hK => ?_) AllReadyH.nil
    go_simp
    (go_at_call 14; refine (bits_at bs m _).mono ?_; rintro e wn ⟨rfl, hb⟩; go_wp2_with fail)
    refine hK.out _ _ (keepB hz hHeld.1 hHeld.2 hb) (fun hNew => ?_)
    clear hK K hHeld
    have hHeld := hNew
    clear hNew
    try simp only [Act.put, List.setIfInBounds_toArray, List.set_cons_zero, List.set_cons_succ]
    refine wpAnyH_take (i := 19) (oi := { dst := some 32, op := Op.binOp BinOp.eql 24 (Operand.tmp 28) (Operand.tmp 31) 24, type := 4, pos := "law.go:52", after := #[{ on := 15, ground := Ground.data }, { on := 18, ground := Ground.data }, { on := 10, ground := Ground.guard }], guard := some (10, true) }) (v := ?_) rfl (by kernel_rfl) (by kernel_rfl) (by kernel_rfl) (fun _ _ _ h => h) ?_ hHeld ?_; rotate_left
    · (refine Or.inl ⟨by rfl, ?_⟩; intro w hSw; clear hSw; go_simp; try with_reducible rfl)
    try simp only [Act.put, List.setIfInBounds_toArray, List.set_cons_zero, List.set_cons_succ]
    refine wpAnyH_take (i := 20) (oi := { dst := some 33, op := Op.pick (Operand.tmp 23) (Operand.tmp 32) (Operand.const (Value.bool false)), type := 4, pos := "law.go:52", after := #[{ on := 10, ground := Ground.data }, { on := 19, ground := Ground.data }], guard := none }) (v := ?_) rfl (by kernel_rfl) (by kernel_rfl) (by kernel_rfl) (fun _ _ _ h => h) ?_ hHeld ?_; rotate_left
    · (refine Or.inl ⟨by rfl, ?_⟩; intro w hSw; clear hSw; go_simp; try with_reducible rfl)
    try simp only [Act.put, List.setIfInBounds_toArray, List.set_cons_zero, List.set_cons_succ]
    refine wpAnyH_take (i := 21) (oi := { dst := some 6, op := Op.assign (Operand.tmp 33), type := 4, pos := "law.go:52", after := #[{ on := 20, ground := Ground.data }, { on := 18, ground := Ground.chain }, { on := 0, ground := Ground.phase }, { on := 1, ground := Ground.phase }, { on := 2, ground := Ground.phase }, { on := 3, ground := Ground.phase }, { on := 4, ground := Ground.phase }, { on := 5, ground := Ground.phase }, { on := 6, ground := Ground.phase }, { on := 7, ground := Ground.phase }, { on := 8, ground := Ground.phase }, { on := 9, ground := Ground.phase }, { on := 10, ground := Ground.phase }, { on := 11, ground := Ground.phase }, { on := 12, ground := Ground.phase }, { on := 13, ground := Ground.phase }, { on := 14, ground := Ground.phase }, { on := 15, ground := Ground.phase }, { on := 16, ground := Ground.phase }, { on := 17, ground := Ground.phase }, { on := 18, ground := Ground.phase }, { on := 19, ground := Ground.phase }, { on := 20, ground := Ground.phase }], guard := none }) (v := ?_) rfl (by kernel_rfl) (by kernel_rfl) (by kernel_rfl) (fun _ _ _ h => h) ?_ hHeld ?_; rotate_left
    · (refine Or.inl ⟨by rfl, ?_⟩; intro w hSw; clear hSw; go_simp; try with_reducible rfl)
    try simp only [Act.put, List.setIfInBounds_toArray, List.set_cons_zero, List.set_cons_succ]
    refine wpAnyH_done (by kernel_rfl) ?_ _
    go_wp2
    go_ret
    exact ⟨rfl, (((Below.refl _ w).alloc (Nat.le_refl _) _).trans (hHeld.1.mono (by omega)))⟩
  · have hmn' : ¬ (m < n) := hmn
    have heq2 : ∀ W : World, (Op.equalIn 10000 24 (.agg (byRow (bitsL (bitsL bs n) m))) (.agg (byRow (bitsL bs n)))).run Try.prog W = .ok true W := fun W => by
      rw [run_eql_by W _ _ (bitsL_length _ _) (bitsL_length _ _), bitsL_bitsL, show min n m = n from by omega]; simp
    go_enter Try.func4, Try.ntmps4
    go_wp2_with fail
    have hz : w.heap.size + 1 ≤ (w.alloc (.cells (byRow bs) 24)).heap.size := by simp
    refine wp_region_held_drew (S := fun w' => Below (w.heap.size + 1) (w.alloc (.cells (byRow bs) 24)) w' ∧ w'.rangeAt w.heap.size 0 (byRow bs).toList) (by kernel_rfl) (startB w (byRow bs)) (fun hHeld => ?_)
    refine wpAnyH_ready (rs := [0]) (by kernel_rfl) (by simp) ?_
    refine AllReadyH.cons (o := { dst := some 13, op := Op.call { callee := Callee.value (Operand.func 10), args := #[], argTypes := #[] }, type := 4, pos := "law.go:52", after := #[], guard := none }) rfl (fun K hK => ?_) AllReadyH.nil
    go_simp
    (go_at_call 10; refine (lives_any _).mono ?_; rintro e wn ⟨rfl, hb⟩; go_wp2_with fail)
    refine hK.out _ _ (keepB hz hHeld.1 hHeld.2 hb) (fun hNew => ?_)
    clear hK K hHeld
    have hHeld := hNew
    clear hNew
    try simp only [Act.put, List.setIfInBounds_toArray, List.set_cons_zero, List.set_cons_succ]
    refine wpAnyH_take (i := 1) (oi := { dst := some 14, op := Op.move (Operand.tmp 13), type := 4, pos := "law.go:52", after := #[{ on := 0, ground := Ground.data }, { on := 0, ground := Ground.chain }], guard := none }) (v := ?_) rfl (by kernel_rfl) (by kernel_rfl) (by kernel_rfl) (fun _ _ _ h => h) ?_ hHeld ?_; rotate_left
    · (refine Or.inl ⟨by rfl, ?_⟩; intro w hSw; clear hSw; go_simp; try with_reducible rfl)
    try simp only [Act.put, List.setIfInBounds_toArray, List.set_cons_zero, List.set_cons_succ]
    refine wpAnyH_take (i := 2) (oi := { dst := some 15, op := Op.load 24 (Operand.tmp 3), type := 24, pos := "law.go:52", after := #[{ on := 1, ground := Ground.guard }], guard := some (1, true) }) (v := .agg (List.toArray (byRow bs).toList)) rfl (by kernel_rfl) (by kernel_rfl) (by kernel_rfl) (fun _ _ _ h => h) ?_ hHeld ?_
    · (refine yieldsIf_load_mid (by rfl) _ _ rfl _ _ rfl _ _ ?_ hu rfl hi; exact fun _ hw => hw.2)
    try simp only [Act.put, List.setIfInBounds_toArray, List.set_cons_zero, List.set_cons_succ]
    refine wpAnyH_take (i := 3) (oi := { dst := some 16, op := Op.move (Operand.tmp 1), type := 3, pos := "law.go:52", after := #[{ on := 1, ground := Ground.guard }], guard := some (1, true) }) (v := ?_) rfl (by kernel_rfl) (by kernel_rfl) (by kernel_rfl) (fun _ _ _ h => h) ?_ hHeld ?_; rotate_left
    · (refine Or.inl ⟨by rfl, ?_⟩; intro w hSw; clear hSw; go_simp; try with_reducible rfl)
    try simp only [Act.put, List.setIfInBounds_toArray, List.set_cons_zero, List.set_cons_succ]
    refine wpAnyH_take (i := 5) (oi := { dst := some 18, op := Op.load 24 (Operand.tmp 3), type := 24, pos := "law.go:52", after := #[{ on := 1, ground := Ground.guard }], guard := some (1, true) }) (v := .agg (List.toArray (byRow bs).toList)) rfl (by kernel_rfl) (by kernel_rfl) (by kernel_rfl) (fun _ _ _ h => h) ?_ hHeld ?_
    · (refine yieldsIf_load_mid (by rfl) _ _ rfl _ _ rfl _ _ ?_ hu rfl hi; exact fun _ hw => hw.2)
    try simp only [Act.put, List.setIfInBounds_toArray, List.set_cons_zero, List.set_cons_succ]
    refine wpAnyH_take (i := 6) (oi := { dst := some 19, op := Op.move (Operand.tmp 1), type := 3, pos := "law.go:52", after := #[{ on := 1, ground := Ground.guard }], guard := some (1, true) }) (v := ?_) rfl (by kernel_rfl) (by kernel_rfl) (by kernel_rfl) (fun _ _ _ h => h) ?_ hHeld ?_; rotate_left
    · (refine Or.inl ⟨by rfl, ?_⟩; intro w hSw; clear hSw; go_simp; try with_reducible rfl)
    try simp only [Act.put, List.setIfInBounds_toArray, List.set_cons_zero, List.set_cons_succ]
    refine wpAnyH_ready (rs := [4]) (by kernel_rfl) (by simp) ?_
    refine AllReadyH.cons (o := { dst := some 17, op := Op.call { callee := Callee.value (Operand.func 14), args := #[Operand.tmp 15, Operand.tmp 16], argTypes := #[24, 3] }, type := 24, pos := "law.go:52", after := #[{ on := 2, ground := Ground.data }, { on := 3, ground := Ground.data }, { on := 1, ground := Ground.chain }, { on := 1, ground := Ground.guard }], guard := some (1, true) }) rfl (fun K hK => ?_) AllReadyH.nil
    go_simp
    (go_at_call 14; refine (bits_at bs n _).mono ?_; rintro e wn ⟨rfl, hb⟩; go_wp2_with fail)
    refine hK.out _ _ (keepB hz hHeld.1 hHeld.2 hb) (fun hNew => ?_)
    clear hK K hHeld
    have hHeld := hNew
    clear hNew
    try simp only [Act.put, List.setIfInBounds_toArray, List.set_cons_zero, List.set_cons_succ]
    refine wpAnyH_ready (rs := [7]) (by kernel_rfl) (by simp) ?_
    refine AllReadyH.cons (o := { dst := some 20, op := Op.call { callee := Callee.value (Operand.func 15), args := #[Operand.tmp 18, Operand.tmp 19], argTypes := #[24, 3] }, type := 24, pos := "law.go:52", after := #[{ on := 5, ground := Ground.data }, { on := 6, ground := Ground.data }, { on := 4, ground := Ground.chain }, { on := 1, ground := Ground.guard }], guard := some (1, true) }) rfl (fun K hK => ?_) AllReadyH.nil
    go_simp
    (go_at_call 15; refine (refbits_at bs n _).mono ?_; rintro e wn ⟨rfl, hb⟩; go_wp2_with fail)
    refine hK.out _ _ (keepB hz hHeld.1 hHeld.2 hb) (fun hNew => ?_)
    clear hK K hHeld
    have hHeld := hNew
    clear hNew
    try simp only [Act.put, List.setIfInBounds_toArray, List.set_cons_zero, List.set_cons_succ]
    refine wpAnyH_take (i := 8) (oi := { dst := some 21, op := Op.binOp BinOp.eql 24 (Operand.tmp 17) (Operand.tmp 20) 24, type := 4, pos := "law.go:52", after := #[{ on := 4, ground := Ground.data }, { on := 7, ground := Ground.data }, { on := 1, ground := Ground.guard }], guard := some (1, true) }) (v := ?_) rfl (by kernel_rfl) (by kernel_rfl) (by kernel_rfl) (fun _ _ _ h => h) ?_ hHeld ?_; rotate_left
    · (refine Or.inl ⟨by rfl, ?_⟩; intro w hSw; clear hSw; go_simp; try with_reducible rfl)
    try simp only [Act.put, List.setIfInBounds_toArray, List.set_cons_zero, List.set_cons_succ]
    refine wpAnyH_take (i := 9) (oi := { dst := some 22, op := Op.pick (Operand.tmp 14) (Operand.tmp 21) (Operand.const (Value.bool false)), type := 4, pos := "law.go:52", after := #[{ on := 1, ground := Ground.data }, { on := 8, ground := Ground.data }], guard := none }) (v := ?_) rfl (by kernel_rfl) (by kernel_rfl) (by kernel_rfl) (fun _ _ _ h => h) ?_ hHeld ?_; rotate_left
    · (refine Or.inl ⟨by rfl, ?_⟩; intro w hSw; clear hSw; go_simp; try with_reducible rfl)
    try simp only [Act.put, List.setIfInBounds_toArray, List.set_cons_zero, List.set_cons_succ]
    refine wpAnyH_take (i := 10) (oi := { dst := some 23, op := Op.move (Operand.tmp 22), type := 4, pos := "law.go:52", after := #[{ on := 9, ground := Ground.data }, { on := 7, ground := Ground.chain }], guard := none }) (v := ?_) rfl (by kernel_rfl) (by kernel_rfl) (by kernel_rfl) (fun _ _ _ h => h) ?_ hHeld ?_; rotate_left
    · (refine Or.inl ⟨by rfl, ?_⟩; intro w hSw; clear hSw; go_simp; try with_reducible rfl)
    try simp only [Act.put, List.setIfInBounds_toArray, List.set_cons_zero, List.set_cons_succ]
    refine wpAnyH_take (i := 11) (oi := { dst := some 24, op := Op.load 24 (Operand.tmp 3), type := 24, pos := "law.go:52", after := #[{ on := 10, ground := Ground.guard }], guard := some (10, true) }) (v := .agg (List.toArray (byRow bs).toList)) rfl (by kernel_rfl) (by kernel_rfl) (by kernel_rfl) (fun _ _ _ h => h) ?_ hHeld ?_
    · (refine yieldsIf_load_mid (by rfl) _ _ rfl _ _ rfl _ _ ?_ hu rfl hi; exact fun _ hw => hw.2)
    try simp only [Act.put, List.setIfInBounds_toArray, List.set_cons_zero, List.set_cons_succ]
    refine wpAnyH_take (i := 12) (oi := { dst := some 25, op := Op.move (Operand.tmp 1), type := 3, pos := "law.go:52", after := #[{ on := 10, ground := Ground.guard }], guard := some (10, true) }) (v := ?_) rfl (by kernel_rfl) (by kernel_rfl) (by kernel_rfl) (fun _ _ _ h => h) ?_ hHeld ?_; rotate_left
    · (refine Or.inl ⟨by rfl, ?_⟩; intro w hSw; clear hSw; go_simp; try with_reducible rfl)
    try simp only [Act.put, List.setIfInBounds_toArray, List.set_cons_zero, List.set_cons_succ]
    refine wpAnyH_take (i := 14) (oi := { dst := some 27, op := Op.move (Operand.tmp 2), type := 3, pos := "law.go:52", after := #[{ on := 10, ground := Ground.guard }], guard := some (10, true) }) (v := ?_) rfl (by kernel_rfl) (by kernel_rfl) (by kernel_rfl) (fun _ _ _ h => h) ?_ hHeld ?_; rotate_left
    · (refine Or.inl ⟨by rfl, ?_⟩; intro w hSw; clear hSw; go_simp; try with_reducible rfl)
    try simp only [Act.put, List.setIfInBounds_toArray, List.set_cons_zero, List.set_cons_succ]
    refine wpAnyH_take (i := 16) (oi := { dst := some 29, op := Op.load 24 (Operand.tmp 3), type := 24, pos := "law.go:52", after := #[{ on := 10, ground := Ground.guard }], guard := some (10, true) }) (v := .agg (List.toArray (byRow bs).toList)) rfl (by kernel_rfl) (by kernel_rfl) (by kernel_rfl) (fun _ _ _ h => h) ?_ hHeld ?_
    · (refine yieldsIf_load_mid (by rfl) _ _ rfl _ _ rfl _ _ ?_ hu rfl hi; exact fun _ hw => hw.2)
    try simp only [Act.put, List.setIfInBounds_toArray, List.set_cons_zero, List.set_cons_succ]
    refine wpAnyH_take (i := 17) (oi := { dst := some 30, op := Op.move (Operand.tmp 7), type := 3, pos := "law.go:52", after := #[{ on := 10, ground := Ground.guard }], guard := some (10, true) }) (v := ?_) rfl (by kernel_rfl) (by kernel_rfl) (by kernel_rfl) (fun _ _ _ h => h) ?_ hHeld ?_; rotate_left
    · (refine Or.inl ⟨by rfl, ?_⟩; intro w hSw; clear hSw; go_simp; try with_reducible rfl)
    try simp only [Act.put, List.setIfInBounds_toArray, List.set_cons_zero, List.set_cons_succ]
    refine wpAnyH_ready (rs := [13]) (by kernel_rfl) (by simp) ?_
    refine AllReadyH.cons (o := { dst := some 26, op := Op.call { callee := Callee.value (Operand.func 14), args := #[Operand.tmp 24, Operand.tmp 25], argTypes := #[24, 3] }, type := 24, pos := "law.go:52", after := #[{ on := 11, ground := Ground.data }, { on := 12, ground := Ground.data }, { on := 10, ground := Ground.chain }, { on := 10, ground := Ground.guard }], guard := some (10, true) }) rfl (fun K hK => ?_) AllReadyH.nil
    go_simp
    (go_at_call 14; refine (bits_at bs n _).mono ?_; rintro e wn ⟨rfl, hb⟩; go_wp2_with fail)
    refine hK.out _ _ (keepB hz hHeld.1 hHeld.2 hb) (fun hNew => ?_)
    clear hK K hHeld
    have hHeld := hNew
    clear hNew
    try simp only [Act.put, List.setIfInBounds_toArray, List.set_cons_zero, List.set_cons_succ]
    refine wpAnyH_ready (rs := [15]) (by kernel_rfl) (by simp) ?_
    refine AllReadyH.cons (o := { dst := some 28, op := Op.call { callee := Callee.value (Operand.func 14), args := #[Operand.tmp 26, Operand.tmp 27], argTypes := #[24, 3] }, type := 24, pos := "law.go:52", after := #[{ on := 13, ground := Ground.data }, { on := 14, ground := Ground.data }, { on := 13, ground := Ground.chain }, { on := 10, ground := Ground.guard }], guard := some (10, true) }) rfl (fun K hK => ?_) AllReadyH.nil
    go_simp
    (go_at_call 14; refine (bits_any (bitsL bs n) m _).mono ?_; rintro e wn ⟨rfl, hb⟩; go_wp2_with fail)
    refine hK.out _ _ (keepB hz hHeld.1 hHeld.2 hb) (fun hNew => ?_)
    clear hK K hHeld
    have hHeld := hNew
    clear hNew
    try simp only [Act.put, List.setIfInBounds_toArray, List.set_cons_zero, List.set_cons_succ]
    refine wpAnyH_ready (rs := [18]) (by kernel_rfl) (by simp) ?_
    refine AllReadyH.cons (o := { dst := some 31, op := Op.call { callee := Callee.value (Operand.func 14), args := #[Operand.tmp 29, Operand.tmp 30], argTypes := #[24, 3] }, type := 24, pos := "law.go:52", after := #[{ on := 16, ground := Ground.data }, { on := 17, ground := Ground.data }, { on := 15, ground := Ground.chain }, { on := 10, ground := Ground.guard }], guard := some (10, true) }) rfl (fun K hK => ?_) AllReadyH.nil
    go_simp
    (go_at_call 14; refine (bits_at bs n _).mono ?_; rintro e wn ⟨rfl, hb⟩; go_wp2_with fail)
    refine hK.out _ _ (keepB hz hHeld.1 hHeld.2 hb) (fun hNew => ?_)
    clear hK K hHeld
    have hHeld := hNew
    clear hNew
    try simp only [Act.put, List.setIfInBounds_toArray, List.set_cons_zero, List.set_cons_succ]
    refine wpAnyH_take (i := 19) (oi := { dst := some 32, op := Op.binOp BinOp.eql 24 (Operand.tmp 28) (Operand.tmp 31) 24, type := 4, pos := "law.go:52", after := #[{ on := 15, ground := Ground.data }, { on := 18, ground := Ground.data }, { on := 10, ground := Ground.guard }], guard := some (10, true) }) (v := ?_) rfl (by kernel_rfl) (by kernel_rfl) (by kernel_rfl) (fun _ _ _ h => h) ?_ hHeld ?_; rotate_left
    · (refine Or.inl ⟨by rfl, ?_⟩; intro w hSw; clear hSw; go_simp; try with_reducible rfl)
    try simp only [Act.put, List.setIfInBounds_toArray, List.set_cons_zero, List.set_cons_succ]
    refine wpAnyH_take (i := 20) (oi := { dst := some 33, op := Op.pick (Operand.tmp 23) (Operand.tmp 32) (Operand.const (Value.bool false)), type := 4, pos := "law.go:52", after := #[{ on := 10, ground := Ground.data }, { on := 19, ground := Ground.data }], guard := none }) (v := ?_) rfl (by kernel_rfl) (by kernel_rfl) (by kernel_rfl) (fun _ _ _ h => h) ?_ hHeld ?_; rotate_left
    · (refine Or.inl ⟨by rfl, ?_⟩; intro w hSw; clear hSw; go_simp; try with_reducible rfl)
    try simp only [Act.put, List.setIfInBounds_toArray, List.set_cons_zero, List.set_cons_succ]
    refine wpAnyH_take (i := 21) (oi := { dst := some 6, op := Op.assign (Operand.tmp 33), type := 4, pos := "law.go:52", after := #[{ on := 20, ground := Ground.data }, { on := 18, ground := Ground.chain }, { on := 0, ground := Ground.phase }, { on := 1, ground := Ground.phase }, { on := 2, ground := Ground.phase }, { on := 3, ground := Ground.phase }, { on := 4, ground := Ground.phase }, { on := 5, ground := Ground.phase }, { on := 6, ground := Ground.phase }, { on := 7, ground := Ground.phase }, { on := 8, ground := Ground.phase }, { on := 9, ground := Ground.phase }, { on := 10, ground := Ground.phase }, { on := 11, ground := Ground.phase }, { on := 12, ground := Ground.phase }, { on := 13, ground := Ground.phase }, { on := 14, ground := Ground.phase }, { on := 15, ground := Ground.phase }, { on := 16, ground := Ground.phase }, { on := 17, ground := Ground.phase }, { on := 18, ground := Ground.phase }, { on := 19, ground := Ground.phase }, { on := 20, ground := Ground.phase }], guard := none }) (v := ?_) rfl (by kernel_rfl) (by kernel_rfl) (by kernel_rfl) (fun _ _ _ h => h) ?_ hHeld ?_; rotate_left
    · (refine Or.inl ⟨by rfl, ?_⟩; intro w hSw; clear hSw; go_simp; try with_reducible rfl)
    try simp only [Act.put, List.setIfInBounds_toArray, List.set_cons_zero, List.set_cons_succ]
    refine wpAnyH_done (by kernel_rfl) ?_ _
    go_wp2
    go_ret
    exact ⟨rfl, (((Below.refl _ w).alloc (Nat.le_refl _) _).trans (hHeld.1.mono (by omega)))⟩
end Go.Proofs.Ytmcpobmmogeiiaa
