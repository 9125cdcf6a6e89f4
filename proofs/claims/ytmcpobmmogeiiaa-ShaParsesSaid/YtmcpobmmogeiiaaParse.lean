/-
  The program's Parse: the sum of a text.
-/
import Derived.Test.YtmcpobmmogeiiaaDig
namespace Go.Proofs.Ytmcpobmmogeiiaa
open Go.RowKit

/-- a whole array and a value as a function's results. -/
theorem bodyPost_row_tmp {P : Program} {fn : Func} {R : Ending → World → Prop} {tmps : Array Value} {w : World} {p u : Tmp} {ty : TypeId} (hf : fn.results = #[.cell p ty, .tmp u])
    (g : Nat) (t : TypeId) (cs : Array Value) (d : TypeDesc) (hp : tmps.getD p undef = .pointer (some ⟨g, 0, none⟩)) (hg : w.heap[g]? = some (.cells cs t (0, 0)))
    (hu : P.underlying ty = some d) (hdd : (match d with | .struct _ | .array _ _ => true | _ => false) = true) (hi : (P.info? ty).map (·.size) = some cs.size)
    (v : Value) (hv : tmps.getD u undef = v) (hR : R (.returned (.tuple #[.agg cs, v])) w) : bodyPost P fn R .ret { tmps, defers := [] } w := by
  have hp' : tmps[p]?.getD undef = .pointer (some ⟨g, 0, none⟩) := by simpa using hp
  refine bodyPost_ret (v := .tuple #[.agg cs, v]) ?_ rfl hR
  rw [results_cell_tmp hf]
  simp [hp', asAddr, run_loadVar_row w g t ty cs (0, 0) d hg hu hdd hi]
  simpa using hv

/-- the result's place at B, the array in the making at B + 1. -/
structure EnvC (B : Nat) (w wr : World) (c : Array Value) : Prop where
  bel : Below B w wr
  b0 : wr.heap[B]? = some (.cells z32 24 (0, 0))
  b1 : wr.heap[B + 1]? = some (.cells c 24 (0, 0))
theorem EnvC.start (w : World) : EnvC w.heap.size w ((w.alloc (.cells z32 24)).alloc (.cells z32 24)) z32 where
  bel := ((Below.refl _ _).alloc (Nat.le_refl _) _).alloc (by simp) _
  b0 := by rw [Below.heap_alloc _ _ _ (by simp)]; exact heap_alloc_last w _
  b1 := by
    have := heap_alloc_last (w.alloc (.cells z32 24)) (.cells z32 24)
    simpa using this
theorem EnvC.go {B : Nat} {w wr : World} {c : Array Value} (h : EnvC B w wr c) (k : Nat) (X : World → Prop) (hx : ∀ w2, EnvC B w w2 c → X w2) : X (wr.drewN k) :=
  hx _ ⟨h.bel.trans ⟨rfl, rfl, rfl, Nat.le_refl _, fun _ _ => rfl⟩, h.b0, h.b1⟩
theorem EnvC.cell {B : Nat} {w wr : World} {f : Nat → Value} (h : EnvC B w wr (rowN 32 f)) {i : Nat} (hi : i < 32) : wr.cell? ⟨B + 1, i, none⟩ = some (f i) := by
  rw [cell_of_row wr (B + 1) i _ _ _ h.b1, rowN_get _ _ _ hi]
theorem EnvC.free {B : Nat} {w wr : World} {c : Array Value} (h : EnvC B w wr c) (i : Nat) : wr.frozen? ⟨B + 1, i, none⟩ = false := frozen_of_row wr (B + 1) i _ _ h.b1
theorem EnvC.set {B : Nat} {w wr : World} {c : Array Value} (h : EnvC B w wr c) (i : Nat) (v : Value) : EnvC B w (wr.setCell ⟨B + 1, i, none⟩ v) (c.setIfInBounds i v) where
  bel := h.bel.setCell (by simp) v
  b0 := by rw [heap_setCell_other _ _ _ _ (by simp)]; exact h.b0
  b1 := heap_setCell_same _ _ _ _ _ _ h.b1

/-- the first t bytes. -/
def pRow (bs : List By) (t : Nat) : Array Value := rowN 32 fun i => if i < t then vB (pairB bs i) else .int .u8 0
theorem pRow_zero (bs : List By) : pRow bs 0 = z32 := by
  rw [z32_by]; unfold pRow byRow; apply rowN_ext; intro i hi
  rw [if_neg (by omega), show by0.getD i 0 = 0#8 from by unfold by0; rw [List.getD_eq_getElem?_getD, List.getElem?_replicate, if_pos hi]; rfl]; rfl
theorem pRow_full (bs : List By) (h : parseOk bs = true) : pRow bs 32 = byRow (parseB bs) := by
  unfold pRow byRow parseB; rw [if_pos h]; apply rowN_ext; intro i hi
  rw [if_pos hi]; simp [List.getD_eq_getElem?_getD, hi]
theorem pRow_size (bs : List By) (t : Nat) : (pRow bs t).size = 32 := by rw [pRow, rowN_size]
theorem pRow_set (bs : List By) (t : Nat) (v : Value) (hv : v = vB (pairB bs t)) : (pRow bs t).setIfInBounds t v = pRow bs (t + 1) := by
  subst hv
  unfold pRow
  rw [rowN_set]
  apply rowN_ext
  intro i _
  by_cases h1 : i = t
  · subst h1; simp
  · by_cases h2 : i < t
    · simp [h1, h2, Nat.lt_succ_of_lt h2]
    · have : ¬ i < t + 1 := by omega
      simp [h1, h2, this]
theorem parse_bad {bs : List By} (h : parseOk bs = false) : byRow (parseB bs) = z32 := by
  unfold parseB; rw [h, z32_by]; rfl
theorem ok_of {bs : List By} (hl : bs.length = 64) (h : ∀ i, i < 64 → isD (bs.getD i 0) = true) : parseOk bs = true := by
  unfold parseOk
  rw [hl]
  simp only [decide_true, Bool.true_and, List.all_eq_true]
  intro x hx
  obtain ⟨i, hi, rfl⟩ := List.getElem_of_mem hx
  have := h i (by omega)
  rwa [List.getD_eq_getElem?_getD, List.getElem?_eq_getElem hi] at this
theorem bad_len {bs : List By} (hl : bs.length ≠ 64) : parseOk bs = false := by simp [parseOk, hl]
theorem bad_at {bs : List By} (i : Nat) (hi : i < bs.length) (h : isD (bs.getD i 0) = false) : parseOk bs = false := by
  unfold parseOk
  rw [Bool.and_eq_false_iff]
  right
  rw [List.all_eq_false]
  rw [List.getD_eq_getElem?_getD, List.getElem?_eq_getElem hi] at h
  exact ⟨bs[i], List.getElem_mem _, by simpa using h⟩
theorem z32_all : z32.all (·.oneCell') = true := by kernel_rfl
theorem byRow_ones2 (bs : List By) : (byRow bs).all (·.oneCell') = true := rowN_all _ _ fun _ => rfl

theorem pair_val (a b : Nat) (ha : a < 16) (hb : b < 16) : Value.int .u8 (bits BinOp.or IntKind.i64 ((a : Int) * 16) (b : Int) % 256) = vB (BitVec.ofNat 8 (16 * a + b)) := by
  have key : ∀ a : Nat, a < 16 → ∀ b : Nat, b < 16 → bits BinOp.or IntKind.i64 ((a : Int) * 16) (b : Int) % 256 = ((BitVec.ofNat 8 (16 * a + b)).toNat : Int) := by decide +kernel
  rw [key a ha b hb]
theorem two_more {bs : List By} {t : Nat} {c1 c2 : By} (h : ∀ i, i < 2 * t → isD (bs.getD i 0) = true) (e1 : c1 = bs.getD (2 * t) 0) (e2 : c2 = bs.getD (2 * t + 1) 0) (h1 : isD c1 = true) (h2 : isD c2 = true) :
    ∀ i, i < 2 * (t + 1) → isD (bs.getD i 0) = true := by
  intro i hi
  by_cases ha : i = 2 * t
  · rw [ha, ← e1]; exact h1
  · by_cases hb : i = 2 * t + 1
    · rw [hb, ← e2]; exact h2
    · exact h i (by omega)

set_option maxRecDepth 100000 in
set_option maxHeartbeats 1000000 in
theorem parse_any (bs : List By) (w : World) :
    Calls Try.prog 21 #[.string (strOf bs)] w fun e w' => e = .returned (.tuple #[.agg (byRow (parseB bs)), .bool (parseOk bs)]) ∧ Below w.heap.size w w' := by
  have hsz := strOf_size bs
  by_cases hl : bs.length = 64
  · have HL := Lib.hid hl
    rw [hl] at hsz
    go_enter Try.func21, Try.ntmps21
    go_wp2_with (with_reducible refine wpList_alloc_row rfl 24 rfl z32 Try.zero24 ?_)
    go_loopw [12, 5, 6, 7] (fun i _ _ _ wr => ∃ t : Nat, t ≤ 32 ∧ i = .int .i64 t ∧ Hid (∀ i, i < 2 * t → isD (bs.getD i 0) = true) ∧ EnvC w.heap.size w wr (pRow bs t)) (fun i _ _ _ _ => 32 - (intOf i).toNat)
    case atStart => exact ⟨0, by omega, rfl, Lib.hid (fun i hi => by omega), by rw [pRow_zero]; exact EnvC.start w⟩
    case round =>
      obtain ⟨t, ht, rfl, HD, hE⟩ := hrel
      by_cases hlt : t < 32
      · have hi1 := str_at bs (2 * t) (by omega)
        have hi2 := str_at bs (2 * t + 1) (by omega)
        simp only [Int.natCast_mul, Int.natCast_add, Int.cast_ofNat_Int] at hi1 hi2
        obtain ⟨c1, hc1⟩ : ∃ c1, c1 = bs.getD (2 * t) 0 := ⟨_, rfl⟩
        obtain ⟨c2, hc2⟩ : ∃ c2, c2 = bs.getD (2 * t + 1) 0 := ⟨_, rfl⟩
        have HC1 := Lib.hid hc1
        have HC2 := Lib.hid hc2
        rw [← hc1] at hi1
        rw [← hc2] at hi2
        clear hc1 hc2
        go_wp2
        go_quiet ((go_at_call 29; first | exact quiet_left (idx29 c1 _) | exact quiet_left (idx29 c2 _)))
        clear hi1 hi2
        refine EnvC.go hE _ (fun w2 => Exit.then _ _ _ _ w2) ?_
        clear hE; intro wr hE
        by_cases hd1 : isD c1 = true
        · by_cases hd2 : isD c2 = true
          · rw [digI_yes hd1, digI_yes hd2]
            have hv1 := dv_lt c1
            have hv2 := dv_lt c2
            have b1 : 0 ≤ (dv c1 : Int) ∧ (dv c1 : Int) < 16 := by omega
            have b2 : 0 ≤ (dv c2 : Int) ∧ (dv c2 : Int) < 16 := by omega
            have hx := EnvC.cell hE hlt
            rw [if_neg (by omega)] at hx
            have hf := hE.free t
            have lt : 0 ≤ (t : Int) ∧ (t : Int) < 32 := by omega
            go_wp2
            clear hx hf b1 b2 hv1 hv2
            go_roundw
            case rel =>
              exact ⟨t + 1, by omega, by go_num, Lib.hid (two_more HD.out HC1.out HC2.out hd1 hd2), by
                rw [← pRow_set bs t _ ((pair_val _ _ (dv_lt c1) (dv_lt c2)).trans (by unfold pairB; rw [← HC1.out, ← HC2.out]))]; exact hE.set t _⟩
            case measure => simp [intOf]; omega
          · have hbad : parseOk bs = false := bad_at (2 * t + 1) (by rw [HL.out]; omega) (by rw [← HC2.out]; simpa using hd2)
            rw [digI_yes hd1, digI_no (by simpa using hd2)]
            have b1 : 0 ≤ (dv c1 : Int) ∧ (dv c1 : Int) < 16 := by have := dv_lt c1; omega
            go_wp2_with (first | (with_reducible refine wpList_buildTo rfl 24 _ rfl _ rfl z32 (by as_aux_lemma => kernel_rfl) ?_) | (with_reducible refine wpList_store_row rfl 24 _ _ rfl w.heap.size z32 rfl rfl 24 z32 hE.b0 (by rw [z32_size]; exact Try.size24) rfl z32_all ?_))
            exact bodyPost_row_tmp rfl w.heap.size 24 z32 _ rfl (setRow_heap _ _ _ _ _ _ hE.b0) Try.underlying24 rfl (by rw [z32_size]; exact Try.size24) _ rfl ⟨by rw [parse_bad hbad, hbad]; rfl, hE.bel.trans ⟨rfl, rfl, rfl, by simp, fun k hk => setRow_other _ _ _ _ (by omega)⟩⟩
        · have hbad : parseOk bs = false := bad_at (2 * t) (by rw [HL.out]; omega) (by rw [← HC1.out]; simpa using hd1)
          rw [digI_no (by simpa using hd1)]
          go_wp2_with (first | (with_reducible refine wpList_buildTo rfl 24 _ rfl _ rfl z32 (by as_aux_lemma => kernel_rfl) ?_) | (with_reducible refine wpList_store_row rfl 24 _ _ rfl w.heap.size z32 rfl rfl 24 z32 hE.b0 (by rw [z32_size]; exact Try.size24) rfl z32_all ?_))
          exact bodyPost_row_tmp rfl w.heap.size 24 z32 _ rfl (setRow_heap _ _ _ _ _ _ hE.b0) Try.underlying24 rfl (by rw [z32_size]; exact Try.size24) _ rfl ⟨by rw [parse_bad hbad, hbad]; rfl, hE.bel.trans ⟨rfl, rfl, rfl, by simp, fun k hk => setRow_other _ _ _ _ (by omega)⟩⟩
      · have ht32 : t = 32 := by omega
        have hok : parseOk bs = true := ok_of HL.out (fun i hi => HD.out i (by omega))
        have hE : EnvC w.heap.size w wr (byRow (parseB bs)) := by
          rw [ht32, pRow_full bs hok] at hE; exact hE
        have HOK := Lib.hid hok
        clear hok ht32
        go_wp2_with (first | (with_reducible refine wpList_load_row rfl 24 _ rfl (w.heap.size + 1) rfl 24 (byRow (parseB bs)) (0, 0) _ hE.b1 Try.underlying24 rfl (by rw [byRow_size]; exact Try.size24) ?_) | (with_reducible refine wpList_store_row rfl 24 _ _ rfl w.heap.size (byRow (parseB bs)) rfl rfl 24 z32 hE.b0 (by rw [byRow_size]; exact Try.size24) (by rw [byRow_size, z32_size]) (byRow_ones2 _) ?_))
        exact bodyPost_row_tmp rfl w.heap.size 24 (byRow (parseB bs)) _ rfl (setRow_heap _ _ _ _ _ _ hE.b0) Try.underlying24 rfl (by rw [byRow_size]; exact Try.size24) _ rfl ⟨by rw [HOK.out]; rfl, hE.bel.trans ⟨rfl, rfl, rfl, by simp, fun k hk => setRow_other _ _ _ _ (by omega)⟩⟩
  · have hbad := Lib.hid (bad_len hl)
    have hl' : ((bs.length : Int) == 64) = false := by simp; omega
    have hE := EnvC.start w
    go_enter Try.func21, Try.ntmps21
    go_wp2_with (first | (with_reducible refine wpList_alloc_row rfl 24 rfl z32 Try.zero24 ?_) | (with_reducible refine wpList_load_row rfl 24 _ rfl (w.heap.size + 1) rfl 24 z32 (0, 0) _ hE.b1 Try.underlying24 rfl (by rw [z32_size]; exact Try.size24) ?_) | (with_reducible refine wpList_store_row rfl 24 _ _ rfl w.heap.size z32 rfl rfl 24 z32 hE.b0 (by rw [z32_size]; exact Try.size24) rfl z32_all ?_))
    exact bodyPost_row_tmp rfl w.heap.size 24 z32 _ rfl (setRow_heap _ _ _ _ _ _ hE.b0) Try.underlying24 rfl (by rw [z32_size]; exact Try.size24) _ rfl ⟨by rw [parse_bad hbad.out, hbad.out]; rfl, hE.bel.trans ⟨rfl, rfl, rfl, by simp, fun k hk => setRow_other _ _ _ _ (by omega)⟩⟩
end Go.Proofs.Ytmcpobmmogeiiaa
