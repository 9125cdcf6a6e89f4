/-
  The document's Sum, by definition.
-/
import Derived.Test.YtmcpobmmogeiiaaSrc
namespace Go.Proofs.Ytmcpobmmogeiiaa
open Go.RowKit

/-- how long a slice is. -/
def sLen : Value → Nat | .slice _ n _ => n | _ => 0
/-- the document's padding, k noughts so far. -/
def padK (k : Nat) : List By := 128#8 :: List.replicate k 0#8
theorem padK_length (k : Nat) : (padK k).length = k + 1 := by simp [padK]
/-- the bytes and the padding so far. -/
def padB (L : List By) (k : Nat) : List By := L ++ padK k
def padT (L : List By) (t : Nat) : List By := L ++ padTo L.length t
theorem padT_length (L : List By) (t : Nat) : (padT L t).length = L.length + 1 + nz L.length + t := by simp [padT, padTo_length]; omega
theorem padT_full (L : List By) : padT L 8 = L ++ padL L := rfl
theorem padK_zero (L : List By) : (L.map vB ++ [vB 128#8]) = (padB L 0).map vB := by simp [padB, padK]
theorem padK_succ (L : List By) (k : Nat) : ((padB L k).map vB ++ [vB 0#8]) = (padB L (k + 1)).map vB := by simp [padB, padK, List.replicate_succ']
theorem padK_full (L : List By) : (padB L (nz L.length)).map vB = (padT L 0).map vB := by simp [padB, padT, padK, padTo]
theorem padTo_next (L : List By) (t : Nat) : (padT L t).map vB ++ [vB (bit8 L.length t)] = (padT L (t + 1)).map vB := by
  unfold padT; rw [padTo_succ]; simp

/-- the result's place at B, and what lies behind. -/
structure EnvRS (B : Nat) (w wr : World) : Prop where
  bel : Below B w wr
  b0 : wr.heap[B]? = some (.cells z32 24 (0, 0))
  sz : B + 1 ≤ wr.heap.size
theorem EnvRS.start (w : World) : EnvRS w.heap.size w (w.alloc (.cells z32 24)) :=
  ⟨(Below.refl _ _).alloc (Nat.le_refl _) _, heap_alloc_last w _, by simp⟩
theorem EnvRS.alloc {B : Nat} {w wr : World} (h : EnvRS B w wr) (o : Obj) : EnvRS B w (wr.alloc o) :=
  ⟨h.bel.alloc (by have := h.sz; omega) o, by rw [Below.heap_alloc _ _ _ (by have := h.sz; omega)]; exact h.b0, by have := h.sz; simp; omega⟩
theorem EnvRS.grown {B : Nat} {w wr w2 : World} {v : Value} {n : Nat} {xs : List Value} (h : EnvRS B w wr) (hown : wr.ownsRow (B + 1) 5 1 v n xs) (hg : wr.grownBy w2 v.ownBlock) : EnvRS B w w2 := by
  have hsz := h.sz
  have hl : ∀ k, v.ownBlock = some k → B + 1 ≤ k := fun k hk => (hown.lt k hk).1
  exact ⟨h.bel.grown hg (by omega) (fun k hk => by have := hl k hk; omega), by rw [hg.block B (by omega) (fun e => by have := hl B e.symm; omega)]; exact h.b0, Nat.le_trans hsz hg.size⟩
theorem size21 (w : World) (a b : Obj) : w.heap.size + 1 ≤ ((w.alloc a).alloc b).heap.size := by simp
theorem own_new1 (w : World) (B : Nat) (hB : B ≤ w.heap.size) : (w.alloc (.cells #[] 5)).ownsRow B 5 1 (.slice (some ⟨w.heap.size, 0, none⟩) 0 0) 0 [] := by
  have := World.ownsRow_lit (base := B) (e := 5) (size := 1) w #[] 0 hB (by unfold maxLen; omega) rfl
  simpa using this
theorem own_new2 (w : World) (a : Obj) : ((w.alloc a).alloc (.cells #[] 5)).ownsRow (w.heap.size + 1) 5 1 (.slice (some ⟨w.heap.size + 1, 0, none⟩) 0 0) 0 [] := by
  have := own_new1 (w.alloc a) (w.heap.size + 1) (by simp)
  simpa using this

/-- the state in block N, the padded bytes in block gp. -/
structure EnvH (B N gp : Nat) (M : List By) (w wr : World) (S : S8) : Prop where
  bel : Below B w wr
  b0 : wr.heap[B]? = some (.cells z32 24 (0, 0))
  bN : wr.heap[N]? = some (.cells S.row 52 (0, 0))
  lt : B + 1 ≤ N
  gl : gp < wr.heap.size
  gn : gp ≠ N
  byt : ∀ i, i < M.length → wr.cell? ⟨gp, i, none⟩ = some (vB (M.getD i 0))
theorem EnvRS.h {B gp : Nat} {M : List By} {w wr : World} (h : EnvRS B w wr) (hgl : gp < wr.heap.size) (hb : ∀ i, i < M.length → wr.cell? ⟨gp, i, none⟩ = some (vB (M.getD i 0))) (S : S8) :
    EnvH B wr.heap.size gp M w (wr.alloc (.cells S.row 52)) S where
  bel := (h.alloc _).bel
  b0 := (h.alloc _).b0
  bN := heap_alloc_last _ _
  lt := h.sz
  gl := by simp; omega
  gn := by omega
  byt := fun i hi => by rw [World.cell?_alloc_lt _ _ _ hgl]; exact hb i hi
theorem EnvH.state {B N gp : Nat} {M : List By} {w wr : World} {S : S8} (h : EnvH B N gp M w wr S) : wr.rangeAt N 0 S.row.toList := by
  intro j v hv
  rw [Nat.zero_add, cell_of_row wr N j _ _ _ h.bN]
  simpa using hv
theorem EnvH.go {B N gp : Nat} {M : List By} {w wr : World} {S : S8} (h : EnvH B N gp M w wr S) (k : Nat) (X : World → Prop) (hx : ∀ w2, EnvH B N gp M w w2 S → X w2) : X (wr.drewN k) :=
  hx _ ⟨h.bel.trans ⟨rfl, rfl, rfl, Nat.le_refl _, fun _ _ => rfl⟩, h.b0, h.bN, h.lt, h.gl, h.gn, h.byt⟩
theorem EnvH.after {B N gp : Nat} {M : List By} {w wr w2 : World} {S : S8} (h : EnvH B N gp M w wr S) (hb : Below wr.heap.size wr w2) : EnvH B N gp M w w2 S := by
  have hN : N < wr.heap.size := (Array.getElem?_eq_some_iff.1 h.bN).1
  have hl := h.lt
  exact ⟨h.bel.trans (hb.mono (by omega)), by rw [hb.block _ (by omega)]; exact h.b0, by rw [hb.block _ hN]; exact h.bN, h.lt, Nat.lt_of_lt_of_le h.gl hb.size, h.gn,
    fun i hi => by rw [hb.cell (p := ⟨gp, i, none⟩) h.gl]; exact h.byt i hi⟩
theorem EnvH.set {B N gp : Nat} {M : List By} {w wr : World} {S : S8} (h : EnvH B N gp M w wr S) (S' : S8) : EnvH B N gp M w (wr.setRow N S'.row) S' := by
  have hl := h.lt
  exact ⟨h.bel.trans ⟨rfl, rfl, rfl, by simp, fun k hk => setRow_other _ _ _ _ (by omega)⟩, by rw [setRow_other _ _ _ _ (by omega)]; exact h.b0, setRow_heap _ _ _ _ _ _ h.bN, h.lt, by simpa using h.gl, h.gn,
    fun i hi => by rw [World.cell?_of_block (w := wr) (setRow_other _ _ _ _ h.gn)]; exact h.byt i hi⟩
theorem EnvH.block {B N gp : Nat} {M : List By} {w wr : World} {S : S8} (h : EnvH B N gp M w wr S) (t : Nat) (ht : 64 * t + 64 ≤ M.length) (i : Nat) (hi : i < 64) : wr.cell? ⟨gp, 64 * t + i, none⟩ = some (vB ((M.drop (64 * t)).getD i 0)) := by
  rw [h.byt _ (by omega), getD_drop']
/-- while the sum is laid out: the state in block N, the bytes in block O. -/
structure EnvX (B N O : Nat) (w wr : World) (S : S8) (t : Nat) : Prop where
  bel : Below B w wr
  b0 : wr.heap[B]? = some (.cells z32 24 (0, 0))
  bN : wr.heap[N]? = some (.cells S.row 52 (0, 0))
  bO : wr.heap[O]? = some (.cells (outRow S t) 24 (0, 0))
  ltN : B + 1 ≤ N
  ltO : N + 1 ≤ O
theorem EnvH.out {B N gp : Nat} {M : List By} {w wr : World} {S : S8} (h : EnvH B N gp M w wr S) : EnvX B N wr.heap.size w (wr.alloc (.cells z32 24)) S 0 := by
  have hN : N < wr.heap.size := (Array.getElem?_eq_some_iff.1 h.bN).1
  have hl := h.lt
  exact ⟨h.bel.alloc (by omega) _, by rw [Below.heap_alloc _ _ _ (by omega)]; exact h.b0, by rw [Below.heap_alloc _ _ _ hN]; exact h.bN, by rw [outRow_zero]; exact heap_alloc_last _ _, h.lt, hN⟩
theorem EnvX.cell {B N O : Nat} {w wr : World} {S : S8} {t : Nat} (h : EnvX B N O w wr S t) (i : Nat) (hi : i < 8) : wr.cell? ⟨N, i, none⟩ = some (vW (S.get i)) := by
  rw [cell_of_row wr N i _ _ _ h.bN]; exact row_get S i hi
theorem EnvX.place {B N O : Nat} {w wr : World} {S : S8} {t : Nat} (h : EnvX B N O w wr S t) (ht : t < 32) : wr.cell? ⟨O, t, none⟩ = some (.int .u8 0) := by
  rw [cell_of_row wr O t _ _ _ h.bO, outRow, rowN_get _ _ _ ht, if_neg (by omega)]
theorem EnvX.free {B N O : Nat} {w wr : World} {S : S8} {t : Nat} (h : EnvX B N O w wr S t) (i : Nat) : wr.frozen? ⟨O, i, none⟩ = false := frozen_of_row wr O i _ _ h.bO
theorem EnvX.set {B N O : Nat} {w wr : World} {S : S8} {t : Nat} (h : EnvX B N O w wr S t) (v : Value) (hv : v = vB (sumByte S t)) : EnvX B N O w (wr.setCell ⟨O, t, none⟩ v) S (t + 1) := by
  have h1 := h.ltN
  have h2 := h.ltO
  exact ⟨h.bel.setCell (by simp; omega) v, by rw [heap_setCell_other _ _ _ _ (by simp; omega)]; exact h.b0, by rw [heap_setCell_other _ _ _ _ (by simp; omega)]; exact h.bN, by rw [heap_setCell_same _ _ _ _ _ _ h.bO, outRow_set _ _ _ hv], h.ltN, h.ltO⟩
theorem sum_at (S : S8) (t : Nat) : Value.int .u8 (((S.get (t / 4)).toNat : Int) / 2 ^ (24 - 8 * (t % 4)) % 256) = vB (sumByte S t) := by
  rw [byte_val]; rfl
theorem byRow_ones (bs : List By) : (byRow bs).all (·.oneCell') = true := rowN_all _ _ fun _ => rfl
theorem refbit_val (len t : Nat) (ht : t < 8) : Value.int .u8 ((len : Int) * 8 / 2 ^ (8 * (7 - t)) % 256) = vB (bit8 len t) := by
  rw [show 8 * (7 - t) = 56 - 8 * t from by omega, bit8_val]

set_option maxRecDepth 100000 in
set_option maxHeartbeats 4000000 in
theorem refsum_any (bs : List By) (ao : Option Addr) (cap : Nat) (w : World) (hsrc : BSrc w ao cap bs) (hlen : bs.length ≤ 140737488351232) :
    Calls Try.prog 12 #[.slice ao bs.length cap] w fun e w' => e = .returned (.agg (byRow (sumL (shaS bs)))) ∧ Below w.heap.size w w' := by
  obtain ⟨i0, hi, hz0, hz1, hz2⟩ := info_parts Try.info5
  have HS := Lib.hid (hsrc.after (((Below.refl _ w).alloc (Nat.le_refl _) (.cells z32 24)).alloc (by simp) (.cells #[] 5)))
  clear hsrc
  go_enter Try.func12, Try.ntmps12
  go_wp2_with (first | (with_reducible refine wpList_alloc_row rfl 24 rfl z32 Try.zero24 ?_) | (at_builtin; (refine wpList_append_src rfl (.tmp 10) (.tmp 11) 22 rfl (w.heap.size + 1) 5 i0 (.int .u8 0) Try.underlying22 hi hz0 hz1 hz2 rfl _ 0 [] rfl (own_new2 w _) ao cap bs bs.length rfl rfl HS.out (by omega) (size21 _ _ _) ?_)))
  intro v1 w1 hown hgrow hne
  have hE : EnvRS w.heap.size w w1 := ((EnvRS.start w).alloc (.cells #[] 5)).grown (own_new2 w _) hgrow
  have hne1 : v1 ≠ .slice none 0 0 := hne
  clear hgrow hne HS
  go_wp2_with (at_builtin; (refine wpList_append_own _ rfl (.tmp 13) (.tmp 14) 22 rfl (w.heap.size + 1) 5 i0 (.int .u8 0) 1 1 Try.underlying22 hi hz0 hz1 hz2 rfl (by decide) _ bs.length (bs.map vB) rfl (hown.alloc _) ⟨w1.heap.size, 0, none⟩ 1 1 [vB 128#8] rfl rfl (cell_one_new _ _ _) (one_cell1 _) (by unfold maxLen; omega) (by omega) (by have := hE.sz; simp; omega) ?_))
  intro v2 w2 hown2 hgrow hne
  have hE2 : EnvRS w.heap.size w w2 := (hE.alloc (.cells #[vB 128#8] 5)).grown (hown.alloc _) hgrow
  have hne2 : v2 ≠ .slice none 0 0 := hne
  clear hgrow hne hE hown hne1
  rw [padK_zero] at hown2
  go_wp2
  go_loopw [3] (fun v wr => ∃ k gp cp : Nat, k ≤ nz bs.length ∧ v = .slice (some ⟨gp, 0, none⟩) (bs.length + 1 + k : Nat) cp ∧ wr.ownsRow (w.heap.size + 1) 5 1 v (bs.length + 1 + k) ((padB bs k).map vB) ∧ EnvRS w.heap.size w wr) (fun v _ => bs.length + 1 + nz bs.length - sLen v)
  case atStart =>
    obtain ⟨gp, cp, hv, _⟩ := own_shape hown2 hne2
    exact ⟨0, gp, cp, by omega, hv, hown2, hE2⟩
  case round =>
    clear hown2 hE2 hne2
    obtain ⟨k, gp, cp, hk, rfl, hown, hE⟩ := hrel
    have hnz : nz bs.length = (119 - bs.length % 64) % 64 := rfl
    by_cases hlt : k < nz bs.length
    · have hm : ((bs.length : Int) + 1 + k) % 64 ≠ 56 := by omega
      go_wp2_with (at_builtin; (refine wpList_append_own _ rfl (.tmp 20) (.tmp 21) 22 rfl (w.heap.size + 1) 5 i0 (.int .u8 0) 1 1 Try.underlying22 hi hz0 hz1 hz2 rfl (by decide) _ (bs.length + 1 + k) ((padB bs k).map vB) rfl (hown.alloc _) ⟨wr.heap.size, 0, none⟩ 1 1 [vB 0#8] rfl rfl (cell_one_new _ _ _) (one_cell1 _) (by unfold maxLen; omega) (by omega) (by have := hE.sz; simp; omega) ?_))
      intro v3 w3 hown3 hgrow hne3
      have hE3 : EnvRS w.heap.size w w3 := (hE.alloc (.cells #[vB 0#8] 5)).grown (hown.alloc _) hgrow
      have hne4 : v3 ≠ .slice none 0 0 := hne3
      clear hgrow hne3 hE hown hm
      rw [padK_succ] at hown3
      obtain ⟨gp3, cp3, hv3, _⟩ := own_shape hown3 hne4
      have HV3 := Lib.hid hv3
      clear hv3
      go_wp2
      go_roundw
      case rel => exact ⟨k + 1, gp3, cp3, by omega, HV3.out, hown3, hE3⟩
      case measure => rw [HV3.out]; simp [sLen]; omega
    · have hm : ((bs.length : Int) + 1 + k) % 64 = 56 := by omega
      have hkn : k = nz bs.length := by omega
      subst hkn
      rw [padK_full] at hown
      clear hlt hk hnz
      go_wp2
      go_loopw [3, 5] (fun v i wr => ∃ t gp cp : Nat, t ≤ 8 ∧ i = .int .i64 (7 - (t : Int)) ∧ v = .slice (some ⟨gp, 0, none⟩) (bs.length + 1 + nz bs.length + t : Nat) cp ∧ wr.ownsRow (w.heap.size + 1) 5 1 v (bs.length + 1 + nz bs.length + t) ((padT bs t).map vB) ∧ EnvRS w.heap.size w wr) (fun _ i _ => (intOf i + 1).toNat)
      case atStart => exact ⟨0, gp, cp, by omega, rfl, rfl, hown, hE⟩
      case round =>
        clear hown hE hm
        obtain ⟨t, gp, cp, ht, rfl, rfl, hown, hE⟩ := hrel
        by_cases hlt : t < 8
        · have hb1 : (0 : Int) ≤ 7 - (t : Int) ∧ 7 - (t : Int) ≤ 7 := by omega
          go_wp2_with (at_builtin; (refine wpList_append_own _ rfl (.tmp 31) (.tmp 37) 22 rfl (w.heap.size + 1) 5 i0 (.int .u8 0) 1 1 Try.underlying22 hi hz0 hz1 hz2 rfl (by decide) _ (bs.length + 1 + nz bs.length + t) ((padT bs t).map vB) rfl (hown.alloc _) ⟨wr.heap.size, 0, none⟩ 1 1 [.int .u8 ((bs.length : Int) * 8 / 2 ^ (8 * (7 - t)) % 256)] rfl rfl (cell_one_new _ _ _) (one_cell1 _) (by unfold maxLen nz; omega) (by unfold nz; omega) (by have := hE.sz; simp; omega) ?_))
          intro v3 w3 hown3 hgrow hne3
          have hE3 : EnvRS w.heap.size w w3 := (hE.alloc _).grown (hown.alloc _) hgrow
          have hne4 : v3 ≠ .slice none 0 0 := hne3
          clear hgrow hne3 hE hown
          rw [refbit_val _ _ hlt, padTo_next] at hown3
          obtain ⟨gp3, cp3, hv3, _⟩ := own_shape hown3 hne4
          have HV3 := Lib.hid hv3
          clear hv3
          go_wp2
          go_roundw
          case rel => exact ⟨t + 1, gp3, cp3, by omega, by go_num, HV3.out, hown3, hE3⟩
          case measure => simp [intOf]; omega
        · have ht8 : t = 8 := by omega
          subst ht8
          clear hlt ht
          obtain ⟨gp2, cp2, hv, hg1, hg2, hcp, hcl⟩ := own_shape hown (by intro h; cases h)
          cases hv
          have hl := padT_length bs 8
          have hE3 := hE.h hg2 hcl h0
          have hl64 : (bs.length + 1 + nz bs.length + 8) % 64 = 0 := by unfold nz; omega
          obtain ⟨M, hM⟩ : ∃ M, M = padT bs 8 := ⟨_, rfl⟩
          obtain ⟨n, hn⟩ : ∃ n, n = bs.length + 1 + nz bs.length + 8 := ⟨_, rfl⟩
          have hn60 : n ≤ 140737488355328 := by rw [hn]; unfold nz; omega
          have HM := Lib.hid hM
          rw [← hM] at hE3 hl
          rw [← hn] at hl hl64 hcp ⊢
          clear hcl hE hown hM hn
          go_wp2_with (first | (with_reducible refine wpList_buildTo rfl 52 _ rfl _ rfl h0.row (by as_aux_lemma => kernel_rfl) ?_) | (with_reducible refine wpList_alloc_row rfl 52 rfl z8 Try.zero52 ?_) | (with_reducible refine wpList_store_last rfl 52 _ _ rfl rfl h0.row z8 52 rfl rfl (by rw [S8.row_size]; exact Try.size52) (by rw [S8.row_size, z8_size]) (S8.row_all _) ?_))
          generalize wr.alloc (.cells h0.row 52) = w4 at hE3 ⊢
          generalize wr.heap.size = N at hE3 ⊢
          go_loopw [7] (fun i wr => ∃ t : Nat, 64 * t ≤ n ∧ i = .int .i64 (64 * t : Nat) ∧ EnvH w.heap.size N gp M w wr (blocksS h0 M t)) (fun i _ => n - (intOf i).toNat)
          case atStart => exact ⟨0, by omega, rfl, hE3⟩
          case round =>
            clear hE3
            obtain ⟨t, ht, rfl, hE⟩ := hrel
            obtain ⟨S, hS⟩ : ∃ S, S = blocksS h0 M t := ⟨_, rfl⟩
            have HS := Lib.hid hS
            rw [← hS] at hE
            clear hS
            by_cases hlt : 64 * t < n
            · have hlt64 : 64 * t + 64 ≤ n := by omega
              have hi1 : (0 : Int) ≤ 64 * (t : Int) ∧ 64 * (t : Int) ≤ 64 * (t : Int) + 64 ∧ 64 * (t : Int) + 64 ≤ cp := by omega
              go_wp2
              refine wp_region_still_tail 6 (by kernel_rfl) (by kernel_rfl) ?_
              simp only [List.take_succ_cons, List.take_zero, List.drop_succ_cons, List.drop_zero]
              refine wpStill_load_mid rfl 52 _ rfl N 0 rfl S.row.toList _ hE.state Try.underlying52 rfl (by rw [Array.length_toList, S8.row_size]; exact Try.size52) ?_
              rw [Array.toArray_toList]
              repeat (refine wpStill_step (fun K hK => ?_); go_simp; (try go_bits); (try (rw [if_pos (by omega)]; go_simp)); refine hK _ ?_; clear hK K)
              refine wpStill_nil ?_
              change wpList _ _ _ _ _ (wr.drewN 1)
              refine EnvH.go hE _ (fun w2 => wpList _ _ _ _ _ w2) ?_
              clear hE; intro wr hE
              have hN : N < wr.heap.size := (Array.getElem?_eq_some_iff.1 hE.bN).1
              go_wp2_with fail
              refine (refblock_any S (M.drop (64 * t)) gp (64 * t) (cp - 64 * t) wr hE.gl (fun i hi => hE.block t (by omega) i hi)).mono ?_
              rintro e w5 ⟨rfl, hb5⟩
              have hE5 := hE.after hb5
              clear hE hb5 hN
              go_wp2_with (with_reducible refine wpList_store_row rfl 52 _ _ rfl N (blockS S (M.drop (64 * t))).row rfl rfl 52 S.row hE5.bN (by rw [S8.row_size]; exact Try.size52) (by rw [S8.row_size, S8.row_size]) (S8.row_all _) ?_)
              have hE6 := hE5.set (blockS S (M.drop (64 * t)))
              rw [show blockS S (M.drop (64 * t)) = blocksS h0 M (t + 1) from by rw [HS.out]; rfl] at hE6 ⊢
              clear hE5
              go_wp2
              go_roundw
              case rel => exact ⟨t + 1, by omega, by go_num, hE6⟩
              case measure => simp [intOf]; omega
            · have htn : 64 * t = n := by omega
              have hSt : S = shaS bs := by
                have h1 : M.length / 64 = t := by omega
                rw [HS.out, ← h1]
                show stateOf M = _
                rw [HM.out, padT_full]; rfl
              clear HS HM
              subst hSt
              have htn' : (64 : Int) * t = n := by omega
              go_wp2_with (with_reducible refine wpList_alloc_row rfl 24 rfl z32 Try.zero24 ?_)
              have hE7 := hE.out
              clear hE htn'
              generalize wr.alloc (.cells z32 24) = w8 at hE7 ⊢
              generalize wr.heap.size = O at hE7 ⊢
              go_loopw [9] (fun i wr => ∃ t : Nat, t ≤ 32 ∧ i = .int .i64 t ∧ EnvX w.heap.size N O w wr (shaS bs) t) (fun i _ => 32 - (intOf i).toNat)
              case atStart => exact ⟨0, by omega, rfl, hE7⟩
              case round =>
                clear hE7
                obtain ⟨t, ht, rfl, hE⟩ := hrel
                by_cases hlt : t < 32
                · have hx := hE.cell (t / 4) (by omega)
                  have hp := hE.place hlt
                  have hf := hE.free t
                  have lt : 0 ≤ (t : Int) / 4 ∧ (t : Int) / 4 < 8 := by omega
                  have lo : 0 ≤ (t : Int) ∧ (t : Int) < 32 := by omega
                  have lm : 0 ≤ (t : Int) % 4 ∧ (t : Int) % 4 < 4 := by omega
                  have nd : ((t : Int) / 4).toNat = t / 4 := by omega
                  have ls : 0 ≤ 24 - 8 * ((t : Int) % 4) ∧ 24 - 8 * ((t : Int) % 4) < 25 := by omega
                  have ns : (24 - 8 * ((t : Int) % 4)).toNat = 24 - 8 * (t % 4) := by omega
                  go_wp2
                  go_roundw
                  case rel => exact ⟨t + 1, by omega, by go_num, hE.set _ (sum_at _ t)⟩
                  case measure => simp [intOf]; omega
                · have hE : EnvX w.heap.size N O w wr (shaS bs) 32 := by
                    have ht32 : t = 32 := by omega
                    rw [ht32] at hE; exact hE
                  have hbo := hE.bO
                  rw [outRow_full, sumRow_by] at hbo
                  have HBo := Lib.hid hbo
                  clear hbo
                  go_wp2_with (first | (with_reducible refine wpList_load_row rfl 24 _ rfl O rfl 24 (byRow (sumL (shaS bs))) (0, 0) _ HBo.out Try.underlying24 rfl (by rw [byRow_size]; exact Try.size24) ?_) | (with_reducible refine wpList_store_row rfl 24 _ _ rfl w.heap.size (byRow (sumL (shaS bs))) rfl rfl 24 z32 hE.b0 (by rw [byRow_size]; exact Try.size24) (by rw [byRow_size, z32_size]) (byRow_ones _) ?_))
                  exact bodyPost_row rfl w.heap.size 24 (byRow (sumL (shaS bs))) _ rfl (setRow_heap _ _ _ _ _ _ hE.b0) Try.underlying24 rfl (by rw [byRow_size]; exact Try.size24) ⟨rfl, hE.bel.trans ⟨rfl, rfl, rfl, by simp, fun k hk => setRow_other _ _ _ _ (by omega)⟩⟩
end Go.Proofs.Ytmcpobmmogeiiaa
