/-
  The program's Hasher: its sum.
-/
import Derived.Test.YtmcpobmmogeiiaaWrite
import Derived.Test.YtmcpobmmogeiiaaPad
import Derived.Test.YtmcpobmmogeiiaaArr2
import Derived.Test.YtmcpobmmogeiiaaZeros
import Derived.Test.YtmcpobmmogeiiaaIdx
namespace Go.Proofs.Ytmcpobmmogeiiaa
open Go.RowKit

def z74 : Array Value := (List.replicate 8 (Value.int .u32 0) ++ (List.replicate 64 (Value.int .u8 0) ++ [Value.int .i64 0, Value.int .i64 0])).toArray
theorem Try.zero24 : ((Try.prog.info? 24).bind (·.zero)).map (·.cells) = some z32 := by kernel_rfl
theorem Try.size24 : (Try.prog.info? 24).map (·.size) = some 32 := by kernel_rfl
theorem Try.zero58 : ((Try.prog.info? 58).bind (·.zero)).map (·.cells) = some z74 := by kernel_rfl
theorem Try.size58 : (Try.prog.info? 58).map (·.size) = some 74 := by kernel_rfl
theorem Try.info5 : (Try.prog.info? 5).map (fun i => (i.zero, i.size, i.bytes)) = some (some (.int .u8 0), 1, 1) := by kernel_rfl
theorem z74_size : z74.size = 74 := by kernel_rfl
theorem hRow_size (S : S8) (R : List By) (n all : Nat) (hR : R.length = 64) : (hRow S R n all).size = 74 := by simpa [hRow] using hList_length S R n all hR
theorem hRow_all (S : S8) (R : List By) (n all : Nat) : (hRow S R n all).all (·.oneCell') = true := by
  rw [Array.all_eq_true_iff_forall_mem]
  intro v hv
  simp only [hRow, hList, List.mem_toArray, List.mem_append, List.mem_map, List.mem_cons, List.not_mem_nil, or_false, Array.mem_toList_iff] at hv
  rcases hv with hv | ⟨x, _, rfl⟩ | rfl | rfl
  · exact (Array.all_eq_true_iff_forall_mem.1 (S8.row_all S)) v hv
  · rfl
  · rfl
  · rfl

structure EnvP (B : Nat) (w wr : World) (L : List By) : Prop where
  bel : Below B w wr
  b0 : wr.heap[B]? = some (.cells z32 24 (0, 0))
  ok : HOK (B + 1) wr L
  sz : B + 2 ≤ wr.heap.size

theorem pad_zero (n : Nat) : Value.int .u8 ((128#8 : By).toNat : Int) :: List.replicate (nz n) (Value.int .u8 0) = (padTo n 0).map vB := by
  simp [padTo, vB]
theorem size2 (w : World) (a b : Obj) : w.heap.size + 2 ≤ ((w.alloc a).alloc b).heap.size := by simp
theorem size3 (w : World) (a b c : Obj) : w.heap.size + 2 ≤ (((w.alloc a).alloc b).alloc c).heap.size := by simp
theorem own_one2 (w : World) (a b : Obj) (u : Value) : (((w.alloc a).alloc b).alloc (.cells #[u] 5)).ownsRow (w.heap.size + 2) 5 1 (.slice (some ⟨w.heap.size + 1 + 1, 0, none⟩) 1 1) 1 [u] := by
  refine ⟨rfl, .inr ⟨w.heap.size + 1 + 1, 1, #[u], rfl, Nat.le_refl _, ?_, Nat.le_refl _, by unfold maxLen; omega, rfl, rfl⟩⟩
  have := heap_alloc_last ((w.alloc a).alloc b) (.cells #[u] 5)
  simpa using this
theorem EnvP.start {g : Nat} {L : List By} {w w1 : World} {S : S8} {R : List By} {n : Nat} {u : Value} (hS : HSt g w L L.length S R n)
    (hg : (((w.alloc (.cells z32 24)).alloc (.cells (hRow S R n L.length) 58)).alloc (.cells #[u] 5)).grownBy w1 (some (w.heap.size + 1 + 1))) : EnvP w.heap.size w w1 L where
  bel := ((((Below.refl _ _).alloc (Nat.le_refl _) _).alloc (by simp) _).alloc (by simp <;> omega) _).grown hg (by simp <;> omega) (by intro k hk; simp at hk; omega)
  b0 := by
    rw [hg.block _ (by simp <;> omega) (by simp <;> omega), Below.heap_alloc _ _ _ (by simp <;> omega), Below.heap_alloc _ _ _ (by simp)]
    exact heap_alloc_last w _
  ok := by
    refine ⟨S, R, n, ⟨⟨?_, hS.obj.len⟩, hS.st, hS.hn, hS.rest⟩⟩
    rw [hg.block _ (by simp <;> omega) (by simp), Below.heap_alloc _ _ _ (by simp)]
    have := heap_alloc_last (w.alloc (.cells z32 24)) (.cells (hRow S R n L.length) 58)
    simpa using this
  sz := by have := hg.size; simp at this; omega

theorem bit8_val (len t : Nat) : ((len : Int) * 8 / 2 ^ (56 - 8 * t) % 256) = ((bit8 len t).toNat : Int) := by
  unfold bit8
  rw [BitVec.toNat_ofNat]
  simp
theorem pad_succ (len t : Nat) : (padTo len (t + 1)).map vB = (padTo len t).map vB ++ [.int .u8 ((bit8 len t).toNat : Int)] := by
  rw [padTo_succ]; simp
theorem one_cell1 (n : Int) : ∀ u ∈ [Value.int .u8 n], u.oneCell' = true := by
  intro u hu
  simp only [List.mem_cons, List.not_mem_nil, or_false] at hu
  subst hu; rfl
theorem EnvP.grown {B : Nat} {w wr w2 : World} {L : List By} {v : Value} {n : Nat} {xs : List Value} {o : Obj} (h : EnvP B w wr L) (hown : wr.ownsRow (B + 2) 5 1 v n xs) (hg : (wr.alloc o).grownBy w2 v.ownBlock) : EnvP B w w2 L := by
  have hsz := h.sz
  have hl : ∀ k, v.ownBlock = some k → B + 2 ≤ k := fun k hk => (hown.lt k hk).1
  have hb : ∀ k, k < B + 2 → w2.heap[k]? = wr.heap[k]? := fun k hk => by
    rw [hg.block k (by simp; omega) (fun e => by have := hl k e.symm; omega), Below.heap_alloc _ _ _ (by omega)]
  obtain ⟨S, R, n, hS⟩ := h.ok
  exact ⟨(h.bel.alloc (by omega) o).grown hg (by simp; omega) (fun k hk => by have := hl k hk; omega), by rw [hb _ (by omega)]; exact h.b0,
    ⟨S, R, n, ⟨⟨by rw [hb _ (by omega)]; exact hS.obj.obj, hS.obj.len⟩, hS.st, hS.hn, hS.rest⟩⟩, by have := hg.size; simp at this; omega⟩

theorem own_shape {w : World} {base : Nat} {v : Value} {n : Nat} {bs : List By} (h : w.ownsRow base 5 1 v n (bs.map vB)) (hne : v ≠ .slice none 0 0) :
    ∃ g cap, v = .slice (some ⟨g, 0, none⟩) n cap ∧ base ≤ g ∧ g < w.heap.size ∧ n ≤ cap ∧ ∀ i, i < bs.length → w.cell? ⟨g, i, none⟩ = some (vB (bs.getD i 0)) := by
  have hc := @World.ownsRow.cells w base 5 1 v n (bs.map vB) h
  rcases h.2 with ⟨h0, _⟩ | ⟨g, cap, cur, rfl, hbg, hg, hnc, _, _, _⟩
  · exact absurd h0 hne
  · refine ⟨g, cap, rfl, hbg, (Array.getElem?_eq_some_iff.1 hg).1, hnc, fun i hi => ?_⟩
    have := hc (g := g) rfl i (vB (bs.getD i 0)) (by rw [List.getElem?_map, List.getD_eq_getElem?_getD, List.getElem?_eq_getElem hi]; rfl)
    rw [Addr.add_mid, Nat.zero_add] at this; exact this
theorem EnvP.kept {B : Nat} {w wr w2 : World} {L M : List By} (h : EnvP B w wr L) (hk : Keeps (B + 1) wr w2) (hok : HOK (B + 1) w2 M) : EnvP B w w2 M := by
  have hsz := h.sz
  exact ⟨h.bel.trans ⟨hk.os, hk.tape, hk.output, hk.size, fun k hkk => hk.block k (by omega) (by omega)⟩, by rw [hk.block _ (by omega) (by omega)]; exact h.b0, hok, Nat.le_trans hsz hk.size⟩

theorem HObj.alloc {g : Nat} {w : World} {S : S8} {R : List By} {n all : Nat} (h : HObj g w S R n all) (o : Obj) : HObj g (w.alloc o) S R n all :=
  ⟨by rw [Below.heap_alloc _ _ _ h.lt]; exact h.obj, h.len⟩
/-- while the sum is laid out: block N. -/
structure EnvO (B N : Nat) (w wr : World) (S : S8) (t : Nat) : Prop where
  bel : Below B w wr
  b0 : wr.heap[B]? = some (.cells z32 24 (0, 0))
  bo : wr.heap[N]? = some (.cells (outRow S t) 24 (0, 0))
  lt : B + 2 ≤ N
theorem EnvP.out {B : Nat} {w w2 : World} {M : List By} {S : S8} (h : EnvP B w w2 M) (_hS : S = stateOf M) : EnvO B w2.heap.size w (w2.alloc (.cells z32 24)) S (4 * 0) := by
  have := h.sz
  exact ⟨h.bel.alloc (by omega) _, by rw [Below.heap_alloc _ _ _ (by omega)]; exact h.b0, by rw [Nat.mul_zero, outRow_zero]; exact heap_alloc_last _ _, this⟩
theorem EnvO.cell {B N : Nat} {w wr : World} {S : S8} {t i : Nat} (h : EnvO B N w wr S t) (h1 : t ≤ i) (h2 : i < 32) : wr.cell? ⟨N, i, none⟩ = some (.int .u8 0) := by
  rw [cell_of_row wr N i _ _ _ h.bo, outRow, rowN_get _ _ _ h2, if_neg (by omega)]
theorem EnvO.free {B N : Nat} {w wr : World} {S : S8} {t : Nat} (h : EnvO B N w wr S t) (i : Nat) : wr.frozen? ⟨N, i, none⟩ = false := frozen_of_row wr N i _ _ h.bo
theorem EnvO.set {B N : Nat} {w wr : World} {S : S8} {t : Nat} (h : EnvO B N w wr S t) (v : Value) (hv : v = vB (sumByte S t)) : EnvO B N w (wr.setCell ⟨N, t, none⟩ v) S (t + 1) := by
  have := h.lt
  exact ⟨h.bel.setCell (by simp; omega) v, by rw [heap_setCell_other _ _ _ _ (by simp; omega)]; exact h.b0, by rw [heap_setCell_same _ _ _ _ _ _ h.bo, outRow_set _ _ _ hv], h.lt⟩

theorem byte_val (x : Wd) (k : Nat) : (x.toNat : Int) / 2 ^ k % 256 = (((x >>> k).setWidth 8).toNat : Int) := by
  rw [w_shr, BitVec.toNat_setWidth]; simp
theorem sumByte_at (S : S8) (t j : Nat) (hj : j < 4) : sumByte S (4 * t + j) = ((S.get t) >>> (24 - 8 * j)).setWidth 8 := by
  unfold sumByte
  rw [show (4 * t + j) / 4 = t from by omega, show (4 * t + j) % 4 = j from by omega]
theorem sum_b0 (S : S8) (t : Nat) : Value.int .u8 (((S.get t).toNat : Int) / 16777216) = vB (sumByte S (4 * t)) := by
  have h := byte_val (S.get t) 24
  have h2 : ((S.get t).toNat : Int) / 2 ^ 24 % 256 = ((S.get t).toNat : Int) / 16777216 := by
    have := (S.get t).isLt
    rw [show (2 : Int) ^ 24 = 16777216 from rfl]; omega
  rw [h2] at h
  rw [h, ← Nat.add_zero (4 * t), sumByte_at S t 0 (by omega)]
theorem sum_b1 (S : S8) (t : Nat) : Value.int .u8 (((S.get t).toNat : Int) / 65536 % 256) = vB (sumByte S (4 * t + 1)) := by
  have h := byte_val (S.get t) 16
  rw [show (2 : Int) ^ 16 = 65536 from rfl] at h
  rw [h, sumByte_at S t 1 (by omega)]
theorem sum_b2 (S : S8) (t : Nat) : Value.int .u8 (((S.get t).toNat : Int) / 256 % 256) = vB (sumByte S (4 * t + 1 + 1)) := by
  have h := byte_val (S.get t) 8
  rw [show (2 : Int) ^ 8 = 256 from rfl] at h
  rw [h, sumByte_at S t 2 (by omega)]
theorem sum_b3 (S : S8) (t : Nat) : Value.int .u8 (((S.get t).toNat : Int) % 256) = vB (sumByte S (4 * t + 1 + 1 + 1)) := by
  have h := byte_val (S.get t) 0
  rw [show (2 : Int) ^ 0 = 1 from rfl, Int.ediv_one] at h
  rw [h, sumByte_at S t 3 (by omega)]

set_option maxRecDepth 100000 in
set_option maxHeartbeats 4000000 in
theorem sum_any (g : Nat) (L : List By) (w : World) (hH : HOK g w L) (hlen : L.length ≤ 1152921504606846976) :
    Calls Try.prog 19 #[.pointer (some ⟨g, 0, none⟩)] w fun e w' => e = .returned (.agg (sumRow (shaS L))) ∧ Below w.heap.size w w' := by
  obtain ⟨S, R, n, hS⟩ := hH
  have hgl := hS.obj.lt
  have HO := Lib.hid hS.obj.obj
  have hlr := hS.obj.len
  have hcn : ((w.alloc (.cells z32 24)).alloc (.cells (hRow S R n L.length) 58)).cell? ⟨w.heap.size + 1, 72, none⟩ = some (.int .i64 n) := by
    rw [cell_of_row _ _ _ _ _ _ (by have := heap_alloc_last (w.alloc (.cells z32 24)) (.cells (hRow S R n L.length) 58); simpa using this)]
    simpa [hRow] using hList_n S R n L.length hlr
  have hca : ((w.alloc (.cells z32 24)).alloc (.cells (hRow S R n L.length) 58)).cell? ⟨w.heap.size + 1, 73, none⟩ = some (.int .i64 L.length) := by
    rw [cell_of_row _ _ _ _ _ _ (by have := heap_alloc_last (w.alloc (.cells z32 24)) (.cells (hRow S R n L.length) 58); simpa using this)]
    simpa [hRow] using hList_all S R n L.length hlr
  have hn64 : n < 64 := by rw [hS.hn]; omega
  clear hlr
  have hnz : ((119 - (n : Int)) % 64) = ((nz L.length : Nat) : Int) := by unfold nz; have := hS.hn; omega
  obtain ⟨i0, hi, hz0, hz1, hz2⟩ := info_parts Try.info5
  go_enter Try.func19, Try.ntmps19
  go_wp2_with (first | (with_reducible refine wpList_alloc_row rfl 24 rfl z32 Try.zero24 ?_) | (with_reducible refine wpList_load_row rfl 58 _ rfl g rfl 58 (hRow S R n L.length) (0, 0) _ (by rw [Below.heap_alloc _ _ _ hgl]; exact HO.out) Try.underlying58 rfl (by rw [hRow_size _ _ _ _ hS.obj.len]; exact Try.size58) ?_) | ((with_reducible refine wpList_alloc_row rfl 58 rfl z74 Try.zero58 ?_); simp only [World.size_alloc]) | (with_reducible refine wpList_store_lastN (w.heap.size + 1) (by simp) rfl 58 _ _ rfl rfl (hRow S R n L.length) z74 58 rfl rfl (by rw [hRow_size _ _ _ _ hS.obj.len]; exact Try.size58) (by rw [hRow_size _ _ _ _ hS.obj.len, z74_size]) (hRow_all _ _ _ _) ?_) | (at_builtin; (refine wpList_append_make _ rfl (.tmp 25) (.tmp 26) 22 3 rfl (w.heap.size + 2) 5 i0 (.int .u8 0) (.int .u8 0) Try.underlying22 Try.underlying3 hi hz0 hz1 hz2 rfl rfl _ 1 [.int .u8 128] rfl (own_one2 _ _ _ _) (by intro h; cases h) (nz L.length) (congrArg (Value.int .i64) hnz) (by unfold nz; omega) (size3 _ _ _ _) ?_)))
  intro v1 w1 hown hgrow hne
  have hE : EnvP w.heap.size w w1 L := EnvP.start hS hgrow
  clear hgrow hca hcn hnz HO
  rw [show (128 : Int) = ((128#8 : By).toNat : Int) from rfl] at hown
  go_wp2
  rw [pad_zero] at hown
  go_loopw [6, 28] (fun v i wr => ∃ t : Nat, t ≤ 8 ∧ i = .int .i64 t ∧ v ≠ .slice none 0 0 ∧ wr.ownsRow (w.heap.size + 2) 5 1 v (1 + nz L.length + t) ((padTo L.length t).map vB) ∧ EnvP w.heap.size w wr L) (fun _ i _ => 8 - (intOf i).toNat)
  case atStart => exact ⟨0, by omega, rfl, hne, hown, hE⟩
  case round =>
    clear hown hE hne
    obtain ⟨t, ht, rfl, hne, hown, hE⟩ := hrel
    by_cases hlt : t < 8
    · have hb1 : (0 : Int) ≤ 56 - 8 * (t : Int) ∧ 56 - 8 * (t : Int) ≤ 56 := by omega
      go_wp2_with (at_builtin; (refine wpList_append_own _ rfl (.tmp 31) (.tmp 38) 22 rfl (w.heap.size + 2) 5 i0 (.int .u8 0) 1 1 Try.underlying22 hi hz0 hz1 hz2 rfl (by decide) _ (1 + nz L.length + t) ((padTo L.length t).map vB) rfl (hown.alloc _) ⟨wr.heap.size, 0, none⟩ 1 1 [.int .u8 ((L.length : Int) * 8 / 2 ^ (56 - 8 * t) % 256)] rfl rfl (cell_one_new _ _ _) (one_cell1 _) (by unfold maxLen nz; omega) (by unfold nz; omega) (by have := hE.sz; simp; omega) ?_))
      intro v2 w2 hown2 hgrow hne2
      have hE2 := hE.grown hown hgrow
      have hne3 : v2 ≠ .slice none 0 0 := hne2
      clear hgrow hne2 hown hE hne
      rw [bit8_val, ← pad_succ] at hown2
      go_wp2
      go_roundw
      case rel => exact ⟨t + 1, by omega, by go_num, hne3, hown2, hE2⟩
      case measure => simp [intOf]; omega
    · have ht8 : t = 8 := by omega
      rw [ht8] at hown
      obtain ⟨gp, cp, hv, hgp1, hgp2, hcp, hcl⟩ := own_shape hown hne
      have HV := Lib.hid hv
      clear hv
      go_wp2_with fail
      rw [show u6 = .slice (some ⟨gp, 0, none⟩) (padL L).length cp from by rw [HV.out, padL, padTo_length]]
      refine (write_any (w.heap.size + 1) L (padL L) _ gp 0 cp wr hE.ok (by rw [padL, padTo_length]; unfold nz; omega) (by rw [padL, padTo_length]; exact hcp) (fun _ => rfl) (fun _ => ⟨hgp2, by omega⟩) (fun i hi => by rw [Nat.zero_add]; exact hcl i hi)).mono ?_
      rintro e w2 ⟨rfl, hok, hk⟩
      have hE2 : EnvP w.heap.size w w2 (L ++ padL L) := hE.kept hk hok
      clear hok hk hE hown hne HV hcl
      obtain ⟨S2, R2, n2, hS2⟩ := hE2.ok
      have hO3 := hS2.obj.alloc (.cells z32 24)
      have hE3 := hE2.out hS2.st
      obtain ⟨hc0, hc1, hc2, hc3, hc4, hc5, hc6, hc7⟩ := hO3.eight
      have HS2 := Lib.hid hS2.st
      clear hE2 hS2 hO3
      go_wp2_with (with_reducible refine wpList_alloc_row rfl 24 rfl z32 Try.zero24 ?_)
      clear hc0 hc1 hc2 hc3 hc4 hc5 hc6 hc7
      generalize w2.alloc (.cells z32 24) = w3 at hE3 ⊢
      generalize w2.heap.size = N at hE3 ⊢
      go_loopw [45] (fun i wr => ∃ t : Nat, t ≤ 8 ∧ i = .int .i64 t ∧ EnvO w.heap.size N w wr S2 (4 * t)) (fun i _ => 8 - (intOf i).toNat)
      case atStart => exact ⟨0, by omega, rfl, hE3⟩
      case round =>
        clear hE3
        obtain ⟨t, ht, rfl, hE⟩ := hrel
        by_cases hlt : t < 8
        · have hidx := fun W : World => run_index_cells (P := Try.prog) W 52 51 8 .u32 #[vW S2.a, vW S2.b, vW S2.c, vW S2.d, vW S2.e, vW S2.f, vW S2.g, vW S2.h] .i64 t _ Try.underlying52 Try.underlying51 Try.size51 hlt (row_get S2 t hlt)
          have hx0 := hE.cell (i := 4 * t) (by omega) (by omega)
          have hx1 := hE.cell (i := 4 * t + 1) (by omega) (by omega)
          have hx2 := hE.cell (i := 4 * t + 2) (by omega) (by omega)
          have hx3 := hE.cell (i := 4 * t + 3) (by omega) (by omega)
          have hf0 := hE.free (4 * t)
          have hf1 := hE.free (4 * t + 1)
          have hf2 := hE.free (4 * t + 2)
          have hf3 := hE.free (4 * t + 3)
          go_wp2
          refine ⟨⟨t + 1, by omega, by go_num, ?_⟩, by simp [intOf]; omega⟩
          have h4 := (((hE.set _ (sum_b0 S2 t)).set _ (sum_b1 S2 t)).set _ (sum_b2 S2 t)).set _ (sum_b3 S2 t)
          exact h4
        · have hE : EnvO w.heap.size N w wr S2 32 := by
            have ht8 : t = 8 := by omega
            rw [ht8] at hE; exact hE
          have hbo := hE.bo
          rw [outRow_full] at hbo
          have HBo := Lib.hid hbo
          clear hbo
          go_wp2_with (first | (with_reducible refine wpList_load_row rfl 24 _ rfl N rfl 24 (sumRow S2) (0, 0) _ HBo.out Try.underlying24 rfl (by rw [sumRow_size]; exact Try.size24) ?_) | (with_reducible refine wpList_store_row rfl 24 _ _ rfl w.heap.size (sumRow S2) rfl rfl 24 z32 hE.b0 (by rw [sumRow_size]; exact Try.size24) (by rw [sumRow_size, z32_size]) (sumRow_all _) ?_))
          exact bodyPost_row rfl w.heap.size 24 (sumRow S2) _ rfl (setRow_heap _ _ _ _ _ _ hE.b0) Try.underlying24 rfl (by rw [sumRow_size]; exact Try.size24) ⟨by rw [HS2.out]; rfl, hE.bel.trans ⟨rfl, rfl, rfl, by simp, fun k hk => setRow_other _ _ _ _ (by omega)⟩⟩
end Go.Proofs.Ytmcpobmmogeiiaa
