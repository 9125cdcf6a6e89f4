/-
  A sum's text, and back: the walk of the law ShaTexts.
-/
import Derived.Test.YtmcpobmmogeiiaaParse
import Derived.Test.YtmcpobmmogeiiaaRefHex
import Derived.Deep.RegionHeld3
import Derived.Deep.MidRow
namespace Go.Proofs.Ytmcpobmmogeiiaa
open Go.RowKit

theorem hexd_dig (n : Nat) (hn : n < 16) : isD (hexd n) = true ∧ dv (hexd n) = n := by
  have key : ∀ n : Nat, n < 16 → isD (hexd n) = true ∧ dv (hexd n) = n := by decide +kernel
  exact key n hn
theorem hexL_length (bs : List By) : (hexL bs).length = 2 * bs.length := by
  induction bs with
  | nil => rfl
  | cons b bs ih => simp [hexL] at ih ⊢; omega
theorem hexL_cons (b : By) (bs : List By) : hexL (b :: bs) = hexd (b.toNat / 16) :: hexd (b.toNat % 16) :: hexL bs := rfl
theorem hexL_even (bs : List By) : ∀ i, i < bs.length → (hexL bs).getD (2 * i) 0 = hexd ((bs.getD i 0).toNat / 16) := by
  induction bs with
  | nil => intro i hi; simp at hi
  | cons b bs ih =>
    intro i hi
    rw [hexL_cons]
    cases i with
    | zero => rfl
    | succ i =>
      have := ih i (by simpa using hi)
      rw [show 2 * (i + 1) = 2 * i + 1 + 1 from by omega]
      simpa using this
theorem hexL_odd (bs : List By) : ∀ i, i < bs.length → (hexL bs).getD (2 * i + 1) 0 = hexd ((bs.getD i 0).toNat % 16) := by
  induction bs with
  | nil => intro i hi; simp at hi
  | cons b bs ih =>
    intro i hi
    rw [hexL_cons]
    cases i with
    | zero => rfl
    | succ i =>
      have := ih i (by simpa using hi)
      rw [show 2 * (i + 1) + 1 = 2 * i + 1 + 1 + 1 from by omega]
      simpa using this
theorem hex_ok (bs : List By) (h : bs.length = 32) : parseOk (hexL bs) = true := by
  refine ok_of (by rw [hexL_length, h]) fun i hi => ?_
  rcases Nat.mod_two_eq_zero_or_one i with h0 | h1
  · obtain ⟨k, rfl⟩ : ∃ k, i = 2 * k := ⟨i / 2, by omega⟩
    rw [hexL_even bs k (by omega)]
    exact (hexd_dig _ (by have := (bs.getD k 0).isLt; omega)).1
  · obtain ⟨k, rfl⟩ : ∃ k, i = 2 * k + 1 := ⟨i / 2, by omega⟩
    rw [hexL_odd bs k (by omega)]
    exact (hexd_dig _ (by omega)).1
theorem hex_back (bs : List By) (h : bs.length = 32) : parseB (hexL bs) = bs := by
  unfold parseB
  rw [if_pos (hex_ok bs h)]
  apply List.ext_getElem (by simp [h])
  intro i h1 h2
  have hi : i < 32 := by omega
  simp only [List.getElem_map, List.getElem_range]
  unfold pairB
  rw [hexL_even bs i h2, hexL_odd bs i h2]
  have hl := (bs.getD i 0).isLt
  rw [(hexd_dig _ (by omega)).2, (hexd_dig _ (by omega)).2]
  have e : bs.getD i 0 = bs[i] := by rw [List.getD_eq_getElem?_getD, List.getElem?_eq_getElem h2]; rfl
  rw [e]
  apply BitVec.eq_of_toNat_eq
  rw [BitVec.toNat_ofNat]
  have := (bs[i]).isLt
  omega

theorem hex_at (bs : List By) (hbs : bs.length = 32) (w : World) :
    Calls Try.prog 22 #[.agg (byRow bs).toList.toArray] w fun e w' => e = .returned (.string (strOf (hexL bs))) ∧ Below w.heap.size w w' := by
  rw [Array.toArray_toList]; exact hex_any bs hbs w
theorem refhex_at (bs : List By) (hbs : bs.length = 32) (w : World) :
    Calls Try.prog 23 #[.agg (byRow bs).toList.toArray] w fun e w' => e = .returned (.string (strOf (hexL bs))) ∧ Below w.heap.size w w' := by
  rw [Array.toArray_toList]; exact refhex_any bs hbs w
theorem keep2 {B N : Nat} {w4 wi w' : World} {cs ds : List Value} (hN : B < N) (hs : N + 1 ≤ w4.heap.size) (h1 : Below (N + 1) w4 wi) (h2 : wi.rangeAt B 0 cs) (h3 : wi.rangeAt N 0 ds) (hb : Below wi.heap.size wi w') :
    Below (N + 1) w4 w' ∧ (w'.rangeAt B 0 cs ∧ w'.rangeAt N 0 ds) :=
  have hsz : N + 1 ≤ wi.heap.size := Nat.le_trans hs h1.size
  ⟨h1.trans (hb.mono hsz), fun j v hv => by rw [hb.cell (p := ⟨B, 0 + j, none⟩) (Nat.lt_of_lt_of_le (Nat.lt_succ_of_lt hN) hsz)]; exact h2 j v hv,
    fun j v hv => by rw [hb.cell (p := ⟨N, 0 + j, none⟩) hsz]; exact h3 j v hv⟩
theorem range_of_row {w : World} {b : Nat} {c : Array Value} {t : TypeId} (h : w.heap[b]? = some (.cells c t (0, 0))) : w.rangeAt b 0 c.toList := fun j v hv => by
  rw [Nat.zero_add, cell_of_row w b j c t _ h]; simpa using hv

set_option maxRecDepth 100000 in
set_option maxHeartbeats 1000000 in
theorem texts_walk (bs : List By) (hbs : bs.length = 32) (w : World) :
    Calls Try.prog 7 #[.agg (byRow bs)] w fun e w' => e = .returned (.bool true) ∧ Below w.heap.size w w' := by
  have hg := eqGuard24
  have heq : ∀ W : World, (Op.equalIn 10000 24 (.agg (byRow bs)) (.agg (byRow bs))).run Try.prog W = .ok true W := fun W => by
    rw [run_eql_by W _ _ hbs hbs]; simp
  have hu := Try.underlying24
  have hi : (Try.prog.info? 24).map (·.size) = some (byRow bs).toList.length := by
    rw [Array.length_toList, byRow_size]; exact Try.size24
  go_enter Try.func7, Try.ntmps7
  go_wp2_with (with_reducible refine wpList_load_row rfl 24 _ rfl w.heap.size rfl 24 (byRow bs) (0, 0) _ (heap_alloc_last w _) Try.underlying24 rfl (by rw [byRow_size]; exact Try.size24) ?_)
  refine (hex_any bs hbs _).mono ?_
  rintro e w1 ⟨rfl, hb1⟩
  have hB1 : Below w.heap.size w w1 := ((Below.refl _ _).alloc (Nat.le_refl _) _).trans (hb1.mono (by simp))
  have hs1 : w.heap.size + 1 ≤ w1.heap.size := by have := hb1.size; simpa using this
  have h0 : w1.heap[w.heap.size]? = some (.cells (byRow bs) 24 (0, 0)) := by rw [hb1.block _ (by simp)]; exact heap_alloc_last w _
  clear hb1
  go_wp2_with fail
  refine (parse_any (hexL bs) _).mono ?_
  rintro e w2 ⟨rfl, hb2⟩
  have hB2 : Below w.heap.size w w2 := hB1.trans (hb2.mono (by omega))
  have hs2 : w.heap.size + 1 ≤ w2.heap.size := Nat.le_trans hs1 hb2.size
  have h02 : w2.heap[w.heap.size]? = some (.cells (byRow bs) 24 (0, 0)) := by rw [hb2.block _ (by omega)]; exact h0
  clear hb2 hB1 hs1 h0
  rw [hex_ok bs hbs, hex_back bs hbs]
  go_wp2_with (first | (with_reducible refine wpList_alloc_row rfl 24 rfl z32 Try.zero24 ?_) | (with_reducible refine wpList_store_last rfl 24 _ _ rfl rfl (byRow bs) z32 24 rfl rfl (by rw [byRow_size]; exact Try.size24) (by rw [byRow_size, z32_size]) (byRow_ones2 _) ?_))
  have hB4 : Below w.heap.size w (w2.alloc (.cells (byRow bs) 24)) := hB2.alloc (by omega) _
  have hr1 := range_of_row (w := w2.alloc (.cells (byRow bs) 24)) (b := w.heap.size) (c := byRow bs) (t := 24) (by rw [Below.heap_alloc _ _ _ (by omega)]; exact h02)
  have hr2 := range_of_row (w := w2.alloc (.cells (byRow bs) 24)) (b := w2.heap.size) (c := byRow bs) (t := 24) (heap_alloc_last _ _)
  have hz : w2.heap.size + 1 ≤ (w2.alloc (.cells (byRow bs) 24)).heap.size := by simp
  have hN : w.heap.size < w2.heap.size := by omega
  generalize w2.alloc (.cells (byRow bs) 24) = w4 at hB4 hr1 hr2 hz ⊢
  generalize w2.heap.size = N at hN hr2 hz ⊢
  clear hB2 hs2 h02
  refine wp_region_held_drew (S := fun w' => Below (N + 1) w4 w' ∧ (w'.rangeAt w.heap.size 0 (byRow bs).toList ∧ w'.rangeAt N 0 (byRow bs).toList)) (by kernel_rfl) (⟨(Below.refl _ _).drew, by rw [World.rangeAt_drew]; exact hr1, by rw [World.rangeAt_drew]; exact hr2⟩) (fun hHeld => ?_)
  refine wpAnyH_ready (rs := [0]) (by kernel_rfl) (by simp) ?_
  refine AllReadyH.cons (o := { dst := some 11, op := Op.call { callee := Callee.value (Operand.func 10), args := #[], argTypes := #[] }, type := 4, pos := "law.go:36", after := #[], guard := none }) rfl (fun K hK => ?_) AllReadyH.nil
  go_simp
  (go_at_call 10; refine (lives_any _).mono ?_; rintro e wn ⟨rfl, hb⟩; go_wp2_with fail)
  refine hK.out _ _ (keep2 hN hz hHeld.1 hHeld.2.1 hHeld.2.2 hb) (fun hNew => ?_)
  clear hK K hHeld
  have hHeld := hNew
  clear hNew
  try simp only [Act.put, List.setIfInBounds_toArray, List.set_cons_zero, List.set_cons_succ]
  refine wpAnyH_take (i := 1) (oi := { dst := some 12, op := Op.move (Operand.tmp 11), type := 4, pos := "law.go:36", after := #[{ on := 0, ground := Ground.data }, { on := 0, ground := Ground.chain }], guard := none }) (v := ?_) rfl (by kernel_rfl) (by kernel_rfl) (by kernel_rfl) (fun _ _ _ h => h) ?_ hHeld ?_; rotate_left
  · (refine Or.inl ⟨by rfl, ?_⟩; intro w hSw; clear hSw; go_simp; try with_reducible rfl)
  try simp only [Act.put, List.setIfInBounds_toArray, List.set_cons_zero, List.set_cons_succ]
  refine wpAnyH_take (i := 2) (oi := { dst := some 13, op := Op.load 24 (Operand.tmp 1), type := 24, pos := "law.go:36", after := #[{ on := 1, ground := Ground.guard }], guard := some (1, true) }) (v := .agg (List.toArray (byRow bs).toList)) rfl (by kernel_rfl) (by kernel_rfl) (by kernel_rfl) (fun _ _ _ h => h) ?_ hHeld ?_
  · (refine yieldsIf_load_mid (by rfl) _ _ rfl _ _ rfl _ _ ?_ hu rfl hi; exact fun _ hw => hw.2.1)
  try simp only [Act.put, List.setIfInBounds_toArray, List.set_cons_zero, List.set_cons_succ]
  refine wpAnyH_take (i := 4) (oi := { dst := some 15, op := Op.load 24 (Operand.tmp 1), type := 24, pos := "law.go:36", after := #[{ on := 1, ground := Ground.guard }], guard := some (1, true) }) (v := .agg (List.toArray (byRow bs).toList)) rfl (by kernel_rfl) (by kernel_rfl) (by kernel_rfl) (fun _ _ _ h => h) ?_ hHeld ?_
  · (refine yieldsIf_load_mid (by rfl) _ _ rfl _ _ rfl _ _ ?_ hu rfl hi; exact fun _ hw => hw.2.1)
  try simp only [Act.put, List.setIfInBounds_toArray, List.set_cons_zero, List.set_cons_succ]
  refine wpAnyH_ready (rs := [3]) (by kernel_rfl) (by simp) ?_
  refine AllReadyH.cons (o := { dst := some 14, op := Op.call { callee := Callee.value (Operand.func 22), args := #[Operand.tmp 13], argTypes := #[24] }, type := 9, pos := "law.go:36", after := #[{ on := 2, ground := Ground.data }, { on := 1, ground := Ground.chain }, { on := 1, ground := Ground.guard }], guard := some (1, true) }) rfl (fun K hK => ?_) AllReadyH.nil
  go_simp
  (go_at_call 22; refine (hex_at bs hbs _).mono ?_; rintro e wn ⟨rfl, hb⟩; go_wp2_with fail)
  refine hK.out _ _ (keep2 hN hz hHeld.1 hHeld.2.1 hHeld.2.2 hb) (fun hNew => ?_)
  clear hK K hHeld
  have hHeld := hNew
  clear hNew
  try simp only [Act.put, List.setIfInBounds_toArray, List.set_cons_zero, List.set_cons_succ]
  refine wpAnyH_ready (rs := [5]) (by kernel_rfl) (by simp) ?_
  refine AllReadyH.cons (o := { dst := some 16, op := Op.call { callee := Callee.value (Operand.func 23), args := #[Operand.tmp 15], argTypes := #[24] }, type := 9, pos := "law.go:36", after := #[{ on := 4, ground := Ground.data }, { on := 3, ground := Ground.chain }, { on := 1, ground := Ground.guard }], guard := some (1, true) }) rfl (fun K hK => ?_) AllReadyH.nil
  go_simp
  (go_at_call 23; refine (refhex_at bs hbs _).mono ?_; rintro e wn ⟨rfl, hb⟩; go_wp2_with fail)
  refine hK.out _ _ (keep2 hN hz hHeld.1 hHeld.2.1 hHeld.2.2 hb) (fun hNew => ?_)
  clear hK K hHeld
  have hHeld := hNew
  clear hNew
  try simp only [Act.put, List.setIfInBounds_toArray, List.set_cons_zero, List.set_cons_succ]
  refine wpAnyH_take (i := 6) (oi := { dst := some 17, op := Op.binOp BinOp.eql 9 (Operand.tmp 14) (Operand.tmp 16) 9, type := 4, pos := "law.go:36", after := #[{ on := 3, ground := Ground.data }, { on := 5, ground := Ground.data }, { on := 1, ground := Ground.guard }], guard := some (1, true) }) (v := ?_) rfl (by kernel_rfl) (by kernel_rfl) (by kernel_rfl) (fun _ _ _ h => h) ?_ hHeld ?_; rotate_left
  · (refine Or.inl ⟨by rfl, ?_⟩; intro w hSw; clear hSw; go_simp; try with_reducible rfl)
  try simp only [Act.put, List.setIfInBounds_toArray, List.set_cons_zero, List.set_cons_succ]
  refine wpAnyH_take (i := 7) (oi := { dst := some 18, op := Op.pick (Operand.tmp 12) (Operand.tmp 17) (Operand.const (Value.bool false)), type := 4, pos := "law.go:36", after := #[{ on := 1, ground := Ground.data }, { on := 6, ground := Ground.data }], guard := none }) (v := ?_) rfl (by kernel_rfl) (by kernel_rfl) (by kernel_rfl) (fun _ _ _ h => h) ?_ hHeld ?_; rotate_left
  · (refine Or.inl ⟨by rfl, ?_⟩; intro w hSw; clear hSw; go_simp; try with_reducible rfl)
  try simp only [Act.put, List.setIfInBounds_toArray, List.set_cons_zero, List.set_cons_succ]
  refine wpAnyH_take (i := 8) (oi := { dst := some 19, op := Op.move (Operand.tmp 18), type := 4, pos := "law.go:36", after := #[{ on := 7, ground := Ground.data }, { on := 5, ground := Ground.chain }], guard := none }) (v := ?_) rfl (by kernel_rfl) (by kernel_rfl) (by kernel_rfl) (fun _ _ _ h => h) ?_ hHeld ?_; rotate_left
  · (refine Or.inl ⟨by rfl, ?_⟩; intro w hSw; clear hSw; go_simp; try with_reducible rfl)
  try simp only [Act.put, List.setIfInBounds_toArray, List.set_cons_zero, List.set_cons_succ]
  refine wpAnyH_take (i := 9) (oi := { dst := some 20, op := Op.move (Operand.tmp 4), type := 4, pos := "law.go:36", after := #[{ on := 8, ground := Ground.guard }], guard := some (8, true) }) (v := ?_) rfl (by kernel_rfl) (by kernel_rfl) (by kernel_rfl) (fun _ _ _ h => h) ?_ hHeld ?_; rotate_left
  · (refine Or.inl ⟨by rfl, ?_⟩; intro w hSw; clear hSw; go_simp; try with_reducible rfl)
  try simp only [Act.put, List.setIfInBounds_toArray, List.set_cons_zero, List.set_cons_succ]
  refine wpAnyH_take (i := 10) (oi := { dst := some 21, op := Op.pick (Operand.tmp 19) (Operand.tmp 20) (Operand.const (Value.bool false)), type := 4, pos := "law.go:36", after := #[{ on := 8, ground := Ground.data }, { on := 9, ground := Ground.data }], guard := none }) (v := ?_) rfl (by kernel_rfl) (by kernel_rfl) (by kernel_rfl) (fun _ _ _ h => h) ?_ hHeld ?_; rotate_left
  · (refine Or.inl ⟨by rfl, ?_⟩; intro w hSw; clear hSw; go_simp; try with_reducible rfl)
  try simp only [Act.put, List.setIfInBounds_toArray, List.set_cons_zero, List.set_cons_succ]
  refine wpAnyH_take (i := 11) (oi := { dst := some 22, op := Op.move (Operand.tmp 21), type := 4, pos := "law.go:36", after := #[{ on := 10, ground := Ground.data }, { on := 8, ground := Ground.chain }], guard := none }) (v := ?_) rfl (by kernel_rfl) (by kernel_rfl) (by kernel_rfl) (fun _ _ _ h => h) ?_ hHeld ?_; rotate_left
  · (refine Or.inl ⟨by rfl, ?_⟩; intro w hSw; clear hSw; go_simp; try with_reducible rfl)
  try simp only [Act.put, List.setIfInBounds_toArray, List.set_cons_zero, List.set_cons_succ]
  refine wpAnyH_take (i := 12) (oi := { dst := some 23, op := Op.load 24 (Operand.tmp 3), type := 24, pos := "law.go:36", after := #[{ on := 11, ground := Ground.guard }], guard := some (11, true) }) (v := .agg (List.toArray (byRow bs).toList)) rfl (by kernel_rfl) (by kernel_rfl) (by kernel_rfl) (fun _ _ _ h => h) ?_ hHeld ?_
  · (refine yieldsIf_load_mid (by rfl) _ _ rfl _ _ rfl _ _ ?_ hu rfl hi; exact fun _ hw => hw.2.2)
  try simp only [Act.put, List.setIfInBounds_toArray, List.set_cons_zero, List.set_cons_succ]
  refine wpAnyH_take (i := 13) (oi := { dst := some 24, op := Op.load 24 (Operand.tmp 1), type := 24, pos := "law.go:36", after := #[{ on := 11, ground := Ground.guard }], guard := some (11, true) }) (v := .agg (List.toArray (byRow bs).toList)) rfl (by kernel_rfl) (by kernel_rfl) (by kernel_rfl) (fun _ _ _ h => h) ?_ hHeld ?_
  · (refine yieldsIf_load_mid (by rfl) _ _ rfl _ _ rfl _ _ ?_ hu rfl hi; exact fun _ hw => hw.2.1)
  try simp only [Act.put, List.setIfInBounds_toArray, List.set_cons_zero, List.set_cons_succ]
  refine wpAnyH_take (i := 14) (oi := { dst := some 25, op := Op.binOp BinOp.eql 24 (Operand.tmp 23) (Operand.tmp 24) 24, type := 4, pos := "law.go:36", after := #[{ on := 12, ground := Ground.data }, { on := 13, ground := Ground.data }, { on := 11, ground := Ground.guard }], guard := some (11, true) }) (v := ?_) rfl (by kernel_rfl) (by kernel_rfl) (by kernel_rfl) (fun _ _ _ h => h) ?_ hHeld ?_; rotate_left
  · (refine Or.inl ⟨by rfl, ?_⟩; intro w hSw; clear hSw; go_simp; try with_reducible rfl)
  try simp only [Act.put, List.setIfInBounds_toArray, List.set_cons_zero, List.set_cons_succ]
  refine wpAnyH_take (i := 15) (oi := { dst := some 26, op := Op.pick (Operand.tmp 22) (Operand.tmp 25) (Operand.const (Value.bool false)), type := 4, pos := "law.go:36", after := #[{ on := 11, ground := Ground.data }, { on := 14, ground := Ground.data }], guard := none }) (v := ?_) rfl (by kernel_rfl) (by kernel_rfl) (by kernel_rfl) (fun _ _ _ h => h) ?_ hHeld ?_; rotate_left
  · (refine Or.inl ⟨by rfl, ?_⟩; intro w hSw; clear hSw; go_simp; try with_reducible rfl)
  try simp only [Act.put, List.setIfInBounds_toArray, List.set_cons_zero, List.set_cons_succ]
  refine wpAnyH_take (i := 16) (oi := { dst := some 2, op := Op.assign (Operand.tmp 26), type := 4, pos := "law.go:36", after := #[{ on := 15, ground := Ground.data }, { on := 11, ground := Ground.chain }, { on := 0, ground := Ground.phase }, { on := 1, ground := Ground.phase }, { on := 2, ground := Ground.phase }, { on := 3, ground := Ground.phase }, { on := 4, ground := Ground.phase }, { on := 5, ground := Ground.phase }, { on := 6, ground := Ground.phase }, { on := 7, ground := Ground.phase }, { on := 8, ground := Ground.phase }, { on := 9, ground := Ground.phase }, { on := 10, ground := Ground.phase }, { on := 11, ground := Ground.phase }, { on := 12, ground := Ground.phase }, { on := 13, ground := Ground.phase }, { on := 14, ground := Ground.phase }, { on := 15, ground := Ground.phase }], guard := none }) (v := ?_) rfl (by kernel_rfl) (by kernel_rfl) (by kernel_rfl) (fun _ _ _ h => h) ?_ hHeld ?_; rotate_left
  · (refine Or.inl ⟨by rfl, ?_⟩; intro w hSw; clear hSw; go_simp; try with_reducible rfl)
  try simp only [Act.put, List.setIfInBounds_toArray, List.set_cons_zero, List.set_cons_succ]
  refine wpAnyH_done (by kernel_rfl) ?_ _
  go_wp2
  go_ret
  exact ⟨rfl, hB4.trans (hHeld.1.mono (by omega))⟩
end Go.Proofs.Ytmcpobmmogeiiaa
