/-
  What any text is, and back: the walk of the law ShaParses.
-/
import Derived.Test.YtmcpobmmogeiiaaRefParse
import Derived.Test.YtmcpobmmogeiiaaTextsWalk
namespace Go.Proofs.Ytmcpobmmogeiiaa
open Go.RowKit

/-- A load of a whole array behind a guard that lets it. -/
theorem wpList_load_rowW {P : Program} {ops : Array Oper} {rest : List Oper} {o : Oper} {a : Act} {w : World} {Q : Exit → Act → World → Prop} (hw : Region.wanted o (yielded ops a.tmps) = true) (ty : TypeId) (x : Operand) (ho : o.op = .load ty x)
    (g : Nat) (hx : a.eval x = .pointer (some ⟨g, 0, none⟩)) (t : TypeId) (cs : Array Value) (fr : Nat × Nat) (d : TypeDesc) (hg : w.heap[g]? = some (.cells cs t fr))
    (hu : P.underlying ty = some d) (hd : (match d with | .struct _ | .array _ _ => true | _ => false) = true) (hi : (P.info? ty).map (·.size) = some cs.size)
    (h : wpList P ops Q rest (a.put o.dst (.agg cs)) w) : wpList P ops Q (o :: rest) a w :=
  wpList_step fun K hK => by rw [if_pos hw]; exact wp_load_row ty x ho g hx t cs fr d hg hu hd hi (hK _ _ h)
/-- One operation, the rest shut away. -/
theorem wpList_one {P : Program} {ops : Array Oper} {rest : List Oper} {o : Oper} {a : Act} {w : World} {Q : Exit → Act → World → Prop}
    (h : ∀ K : Act → World → Prop, Shut (∀ a w, wpList P ops Q rest a w → K a w) → if Region.wanted o (yielded ops a.tmps) = true then o.wp P a w K Q else K (a.put o.dst undef) w) : wpList P ops Q (o :: rest) a w :=
  wpList_step h
theorem hexd_dv (b : By) (h : isD b = true) : hexd (dv b) = b := by
  have key : ∀ n : Nat, n < 256 → isD (BitVec.ofNat 8 n) = true → hexd (dv (BitVec.ofNat 8 n)) = BitVec.ofNat 8 n := by decide +kernel
  have := key b.toNat b.isLt
  rw [BitVec.ofNat_toNat, BitVec.setWidth_eq] at this
  exact this h
theorem parse_back (bs : List By) (h : parseOk bs = true) : hexL (parseB bs) = bs := by
  have hl : bs.length = 64 := by
    by_cases hl : bs.length = 64
    · exact hl
    · rw [bad_len hl] at h; cases h
  have hd : ∀ i, i < 64 → isD (bs.getD i 0) = true := fun i hi => by
    by_cases hd : isD (bs.getD i 0) = true
    · exact hd
    · rw [bad_at i (by omega) (by simpa using hd)] at h; cases h
  have hpl := parseB_length bs
  have hpg : ∀ i, i < 32 → (parseB bs).getD i 0 = pairB bs i := fun i hi => by
    unfold parseB; rw [if_pos h]; simp [List.getD_eq_getElem?_getD, hi]
  have hpn : ∀ i, (pairB bs i).toNat = 16 * dv (bs.getD (2 * i) 0) + dv (bs.getD (2 * i + 1) 0) := fun i => by
    unfold pairB
    rw [BitVec.toNat_ofNat]
    have h1 := dv_lt (bs.getD (2 * i) 0)
    have h2 := dv_lt (bs.getD (2 * i + 1) 0)
    omega
  have hget : ∀ (l : List By) (i : Nat) (hi : i < l.length), l[i] = l.getD i 0 := fun l i hi => by
    rw [List.getD_eq_getElem?_getD, List.getElem?_eq_getElem hi]; rfl
  apply List.ext_getElem (by rw [hexL_length, hpl, hl])
  intro i h1 h2
  rw [hget _ _ h1, hget _ _ h2]
  rcases Nat.mod_two_eq_zero_or_one i with h0 | h0
  · obtain ⟨k, rfl⟩ : ∃ k, i = 2 * k := ⟨i / 2, by omega⟩
    have h3 := dv_lt (bs.getD (2 * k + 1) 0)
    rw [hexL_even _ k (by omega), hpg k (by omega), hpn, show (16 * dv (bs.getD (2 * k) 0) + dv (bs.getD (2 * k + 1) 0)) / 16 = dv (bs.getD (2 * k) 0) from by omega, hexd_dv _ (hd _ (by omega))]
  · obtain ⟨k, rfl⟩ : ∃ k, i = 2 * k + 1 := ⟨i / 2, by omega⟩
    have h3 := dv_lt (bs.getD (2 * k + 1) 0)
    rw [hexL_odd _ k (by omega), hpg k (by omega), hpn, show (16 * dv (bs.getD (2 * k) 0) + dv (bs.getD (2 * k + 1) 0)) % 16 = dv (bs.getD (2 * k + 1) 0) from by omega, hexd_dv _ (hd _ (by omega))]

set_option maxRecDepth 100000 in
set_option maxHeartbeats 1000000 in
theorem parses_walk (bs : List By) (w : World) :
    Calls Try.prog 8 #[.string (strOf bs)] w fun e w' => e = .returned (.bool true) ∧ Below w.heap.size w w' := by
  have hg := eqGuard24
  obtain ⟨x, hx⟩ : ∃ x, x = parseB bs := ⟨_, rfl⟩
  have hxl : x.length = 32 := by rw [hx, parseB_length]
  have heq : ∀ W : World, (Op.equalIn 10000 24 (.agg (byRow x)) (.agg (byRow x))).run Try.prog W = .ok true W := fun W => by
    rw [run_eql_by W _ _ hxl hxl]; simp
  have hback : parseOk bs = true → hexL x = bs := fun h => by rw [hx, parse_back bs h]
  obtain ⟨ok, hok⟩ : ∃ ok, ok = parseOk bs := ⟨_, rfl⟩
  rw [← hok] at hback
  have HX := Lib.hid hx
  have HO := Lib.hid hok
  have HB := Lib.hid hback
  have HL := Lib.hid hxl
  clear hx hok hback hxl
  go_enter Try.func8, Try.ntmps8
  go_wp2_with fail
  refine (parse_any bs _).mono ?_
  rintro e w1 ⟨rfl, hb1⟩
  rw [← HX.out, ← HO.out]
  go_wp2_with (first | (with_reducible refine wpList_alloc_row rfl 24 rfl z32 Try.zero24 ?_) | (with_reducible refine wpList_store_last rfl 24 _ _ rfl rfl (byRow x) z32 24 rfl rfl (by rw [byRow_size]; exact Try.size24) (by rw [byRow_size, z32_size]) (byRow_ones2 _) ?_))
  refine (refparse_any bs _).mono ?_
  rintro e w2 ⟨rfl, hb2⟩
  rw [← HX.out, ← HO.out]
  have hB2 : Below w.heap.size w w2 := (hb1.alloc hb1.size _).trans (hb2.mono (by have := hb1.size; simp; omega))
  have h1 : w2.heap[w1.heap.size]? = some (.cells (byRow x) 24 (0, 0)) := by rw [hb2.block _ (by simp)]; exact heap_alloc_last w1 _
  have hs2 : w1.heap.size + 1 ≤ w2.heap.size := by have := hb2.size; simpa using this
  have hs1 := hb1.size
  clear hb1 hb2
  generalize w1.heap.size = N at h1 hs2 hs1 ⊢
  go_wp2_with (first | (with_reducible refine wpList_alloc_row rfl 24 rfl z32 Try.zero24 ?_) | (with_reducible refine wpList_store_last rfl 24 _ _ rfl rfl (byRow x) z32 24 rfl rfl (by rw [byRow_size]; exact Try.size24) (by rw [byRow_size, z32_size]) (byRow_ones2 _) ?_))
  refine (lives_any _).mono ?_
  rintro e w3 ⟨rfl, hb3⟩
  have hB3 : Below w.heap.size w w3 := (hB2.alloc (by omega) _).trans (hb3.mono (by simp; omega))
  have h13 : w3.heap[N]? = some (.cells (byRow x) 24 (0, 0)) := by
    rw [hb3.block _ (by simp; omega), Below.heap_alloc _ _ _ (by omega)]; exact h1
  have h23 : w3.heap[w2.heap.size]? = some (.cells (byRow x) 24 (0, 0)) := by
    rw [hb3.block _ (by simp)]; exact heap_alloc_last w2 _
  have hs3 := hb3.size
  simp only [World.size_alloc] at hs3
  clear hb3 h1 hB2
  generalize w2.heap.size = M at h23 hs2 hs3 ⊢
  cases ok with
  | false =>
    go_wp2_with (first | go_skip | (with_reducible refine wpList_one (fun K hK => ?_); rw [if_pos (by simp [Region.wanted, yielded, Act.put])]; with_reducible refine wp_load_row 24 _ rfl N rfl 24 (byRow x) (0, 0) _ h13 Try.underlying24 rfl (by rw [byRow_size]; exact Try.size24) ?_; with_reducible refine hK.out _ _ ?_; clear hK K) | (with_reducible refine wpList_one (fun K hK => ?_); rw [if_pos (by simp [Region.wanted, yielded, Act.put])]; with_reducible refine wp_load_row 24 _ rfl M rfl 24 (byRow x) (0, 0) _ h23 Try.underlying24 rfl (by rw [byRow_size]; exact Try.size24) ?_; with_reducible refine hK.out _ _ ?_; clear hK K) | (with_reducible refine wpList_one (fun K hK => ?_); go_simp; with_reducible refine hK.out _ _ ?_; clear hK K))
    go_ret
    exact ⟨rfl, hB3⟩
  | true =>
    go_wp2_with (first | go_skip | (with_reducible refine wpList_one (fun K hK => ?_); rw [if_pos (by simp [Region.wanted, yielded, Act.put])]; with_reducible refine wp_load_row 24 _ rfl N rfl 24 (byRow x) (0, 0) _ h13 Try.underlying24 rfl (by rw [byRow_size]; exact Try.size24) ?_; with_reducible refine hK.out _ _ ?_; clear hK K) | (with_reducible refine wpList_one (fun K hK => ?_); rw [if_pos (by simp [Region.wanted, yielded, Act.put])]; with_reducible refine wp_load_row 24 _ rfl M rfl 24 (byRow x) (0, 0) _ h23 Try.underlying24 rfl (by rw [byRow_size]; exact Try.size24) ?_; with_reducible refine hK.out _ _ ?_; clear hK K) | (with_reducible refine wpList_one (fun K hK => ?_); go_simp; with_reducible refine hK.out _ _ ?_; clear hK K))
    refine (hex_any x HL.out _).mono ?_
    rintro e w4 ⟨rfl, hb4⟩
    rw [HB.out trivial]
    have hB4 := hB3.trans (hb4.mono (by omega))
    clear hb4
    go_wp2
    go_ret
    exact ⟨rfl, hB4⟩
end Go.Proofs.Ytmcpobmmogeiiaa
