/-
  The program's Hasher in memory: its one block of 74 cells, and what a call may turn besides.
-/
import Derived.Test.YtmcpobmmogeiiaaRound
import Derived.Test.YtmcpobmmogeiiaaBlocks
namespace Go.Proofs.Ytmcpobmmogeiiaa
open Go.RowKit

/-- all that was there but block g is as it was. -/
structure Keeps (g : Nat) (w w' : World) : Prop where
  os : w'.os = w.os
  tape : w'.tape = w.tape
  output : w'.output = w.output
  size : w.heap.size ≤ w'.heap.size
  block : ∀ k, k < w.heap.size → k ≠ g → w'.heap[k]? = w.heap[k]?
theorem Keeps.refl (g : Nat) (w : World) : Keeps g w w := ⟨rfl, rfl, rfl, Nat.le_refl _, fun _ _ _ => rfl⟩
theorem Keeps.trans {g : Nat} {a b c : World} (h : Keeps g a b) (k : Keeps g b c) : Keeps g a c :=
  ⟨k.os.trans h.os, k.tape.trans h.tape, k.output.trans h.output, Nat.le_trans h.size k.size, fun i hi hg => (k.block i (Nat.lt_of_lt_of_le hi h.size) hg).trans (h.block i hi hg)⟩
theorem Keeps.drewN {g : Nat} {a w : World} (h : Keeps g a w) (n : Nat) : Keeps g a (w.drewN n) := ⟨h.os, h.tape, h.output, h.size, h.block⟩
theorem Keeps.setCell {g : Nat} {a w : World} (h : Keeps g a w) (o : Nat) (v : Value) : Keeps g a (w.setCell ⟨g, o, none⟩ v) :=
  h.trans ⟨rfl, rfl, rfl, by simp [World.setCell], fun k _ hk => heap_setCell_other _ _ _ _ hk⟩
theorem Keeps.setRow {g : Nat} {a w : World} (h : Keeps g a w) (c : Array Value) : Keeps g a (w.setRow g c) :=
  h.trans ⟨rfl, rfl, rfl, by simp, fun k _ hk => setRow_other _ _ _ _ hk⟩
theorem Keeps.below {g : Nat} {a w w' : World} (h : Keeps g a w) (hb : Below w.heap.size w w') : Keeps g a w' :=
  h.trans ⟨hb.os, hb.tape, hb.output, hb.size, fun k hk _ => hb.block k hk⟩
theorem Keeps.cell {g : Nat} {w w' : World} (h : Keeps g w w') {p : Addr} (hp : p.block < w.heap.size) (hg : p.block ≠ g) : w'.cell? p = w.cell? p := World.cell?_of_block (w := w) (h.block _ hp hg)

def hList (S : S8) (R : List By) (n all : Nat) : List Value := S.row.toList ++ (R.map vB ++ [.int .i64 n, .int .i64 all])
def hRow (S : S8) (R : List By) (n all : Nat) : Array Value := (hList S R n all).toArray
theorem hList_length (S : S8) (R : List By) (n all : Nat) (hR : R.length = 64) : (hList S R n all).length = 74 := by
  have : S.row.toList.length = 8 := by rw [Array.length_toList, S8.row_size]
  simp [hList, this, hR]
theorem rowL (S : S8) : S.row.toList.length = 8 := by rw [Array.length_toList, S8.row_size]
theorem hList_n (S : S8) (R : List By) (n all : Nat) (hR : R.length = 64) : (hList S R n all)[72]? = some (.int .i64 n) := by
  unfold hList
  rw [List.getElem?_append_right (by rw [rowL]; omega), rowL, List.getElem?_append_right (by simp [hR])]; simp [hR]
theorem hList_all (S : S8) (R : List By) (n all : Nat) (hR : R.length = 64) : (hList S R n all)[73]? = some (.int .i64 all) := by
  unfold hList
  rw [List.getElem?_append_right (by rw [rowL]; omega), rowL, List.getElem?_append_right (by simp [hR])]; simp [hR]
theorem hList_rest (S : S8) (R : List By) (n all : Nat) (hR : R.length = 64) (i : Nat) (hi : i < 64) : (hList S R n all)[8 + i]? = some (vB (R.getD i 0)) := by
  unfold hList
  rw [List.getElem?_append_right (by rw [rowL]; omega), rowL, List.getElem?_append_left (by simp [hR]; omega)]
  simp [List.getD_eq_getElem?_getD, hR, hi]

/-- the Hasher at block g: its state, what waits, how much waits, how much there was. -/
structure HObj (g : Nat) (w : World) (S : S8) (R : List By) (n all : Nat) : Prop where
  obj : w.heap[g]? = some (.cells (hRow S R n all) 58 (0, 0))
  len : R.length = 64
theorem HObj.lt {g : Nat} {w : World} {S : S8} {R : List By} {n all : Nat} (h : HObj g w S R n all) : g < w.heap.size := by
  have := h.obj
  by_cases hlt : g < w.heap.size
  · exact hlt
  · rw [Array.getElem?_eq_none (by omega)] at this; cases this
theorem HObj.cell {g : Nat} {w : World} {S : S8} {R : List By} {n all : Nat} (h : HObj g w S R n all) (i : Nat) : w.cell? ⟨g, i, none⟩ = (hList S R n all)[i]? := by
  rw [cell_of_row w g i _ _ _ h.obj]; simp [hRow]
theorem HObj.cn {g : Nat} {w : World} {S : S8} {R : List By} {n all : Nat} (h : HObj g w S R n all) : w.cell? ⟨g, 72, none⟩ = some (.int .i64 n) := by rw [h.cell, hList_n _ _ _ _ h.len]
theorem HObj.call {g : Nat} {w : World} {S : S8} {R : List By} {n all : Nat} (h : HObj g w S R n all) : w.cell? ⟨g, 73, none⟩ = some (.int .i64 all) := by rw [h.cell, hList_all _ _ _ _ h.len]
theorem HObj.crest {g : Nat} {w : World} {S : S8} {R : List By} {n all : Nat} (h : HObj g w S R n all) (i : Nat) (hi : i < 64) : w.cell? ⟨g, 8 + i, none⟩ = some (vB (R.getD i 0)) := by rw [h.cell, hList_rest _ _ _ _ h.len i hi]
theorem HObj.free {g : Nat} {w : World} {S : S8} {R : List By} {n all : Nat} (h : HObj g w S R n all) (i : Nat) : w.frozen? ⟨g, i, none⟩ = false := frozen_of_row w g i _ _ h.obj
theorem HObj.state {g : Nat} {w : World} {S : S8} {R : List By} {n all : Nat} (h : HObj g w S R n all) : w.rangeAt g 0 S.row.toList := by
  intro j v hv
  rw [Nat.zero_add, h.cell]
  unfold hList
  rw [List.getElem?_append_left (List.getElem?_eq_some_iff.1 hv).1]; exact hv
theorem HObj.cs {g : Nat} {w : World} {S : S8} {R : List By} {n all : Nat} (h : HObj g w S R n all) (i : Nat) (v : Value) (hv : S.row.toList[i]? = some v) : w.cell? ⟨g, i, none⟩ = some v := by
  have := h.state i v hv; rwa [Nat.zero_add] at this
theorem HObj.there {g : Nat} {w : World} {S : S8} {R : List By} {n all : Nat} (h : HObj g w S R n all) : w.there g 0 8 := by
  intro j hj
  rw [Nat.zero_add]
  refine ⟨?_, h.free j⟩
  have hl := hList_length S R n all h.len
  rw [h.cell, List.getElem?_eq_getElem (by omega)]; rfl
theorem HObj.drewN {g : Nat} {w : World} {S : S8} {R : List By} {n all : Nat} (h : HObj g w S R n all) (k : Nat) : HObj g (w.drewN k) S R n all := ⟨h.obj, h.len⟩
theorem HObj.below {g : Nat} {w w' : World} {S : S8} {R : List By} {n all : Nat} (h : HObj g w S R n all) (hb : Below w.heap.size w w') : HObj g w' S R n all := ⟨by rw [hb.block g h.lt]; exact h.obj, h.len⟩
theorem HObj.setN {g : Nat} {w : World} {S : S8} {R : List By} {n all : Nat} (h : HObj g w S R n all) (m : Nat) : HObj g (w.setCell ⟨g, 72, none⟩ (.int .i64 m)) S R m all := by
  refine ⟨?_, h.len⟩
  rw [heap_setCell_same _ _ _ _ _ _ h.obj]
  congr 2
  unfold hRow hList
  rw [List.setIfInBounds_toArray, List.set_append_right _ _ (by rw [rowL]; omega), rowL, List.set_append_right _ _ (by simp [h.len])]
  simp [h.len]
theorem HObj.setAll {g : Nat} {w : World} {S : S8} {R : List By} {n all : Nat} (h : HObj g w S R n all) (m : Nat) : HObj g (w.setCell ⟨g, 73, none⟩ (.int .i64 m)) S R n m := by
  refine ⟨?_, h.len⟩
  rw [heap_setCell_same _ _ _ _ _ _ h.obj]
  congr 2
  unfold hRow hList
  rw [List.setIfInBounds_toArray, List.set_append_right _ _ (by rw [rowL]; omega), rowL, List.set_append_right _ _ (by simp [h.len])]
  simp [h.len]
theorem HObj.setRest {g : Nat} {w : World} {S : S8} {R : List By} {n all : Nat} (h : HObj g w S R n all) (k : Nat) (c : List By) (hk : k + c.length ≤ 64) :
    HObj g (w.setRow g ((hRow S R n all).toList.take (8 + k) ++ (c.map vB ++ (hRow S R n all).toList.drop (8 + k + (c.map vB).length))).toArray) S (R.take k ++ (c ++ R.drop (k + c.length))) n all := by
  refine ⟨?_, by simp [h.len]; omega⟩
  rw [setRow_heap _ _ _ _ _ _ h.obj]
  congr 3
  unfold hRow hList
  have e1 : (S.row.toList ++ (R.map vB ++ [Value.int .i64 n, Value.int .i64 all])).toArray.toList = S.row.toList ++ (R.map vB ++ [Value.int .i64 n, Value.int .i64 all]) := rfl
  rw [e1, List.take_append, List.drop_append, rowL, List.take_of_length_le (by rw [rowL]; omega), List.drop_of_length_le (by rw [rowL]; omega), List.take_append_of_le_length (by simp [h.len]; omega),
    List.drop_append_of_le_length (by simp [h.len]; omega)]
  have e2 : 8 + k - 8 = k := by omega
  have e3 : 8 + k + (c.map vB).length - 8 = k + c.length := by simp; omega
  rw [e2, e3]
  simp [List.map_take, List.map_drop]

theorem setState_eq (w : World) (g : Nat) (T : S8) : w.setCells g 0 T.row.toList =
    (((((((w.setCell ⟨g, 0, none⟩ (vW T.a)).setCell ⟨g, 1, none⟩ (vW T.b)).setCell ⟨g, 2, none⟩ (vW T.c)).setCell ⟨g, 3, none⟩ (vW T.d)).setCell ⟨g, 4, none⟩ (vW T.e)).setCell ⟨g, 5, none⟩ (vW T.f)).setCell ⟨g, 6, none⟩ (vW T.g)).setCell ⟨g, 7, none⟩ (vW T.h) := by
  rw [show T.row.toList = [vW T.a, vW T.b, vW T.c, vW T.d, vW T.e, vW T.f, vW T.g, vW T.h] from rfl]
  simp only [World.setCells]
theorem hRow_state (S T : S8) (R : List By) (n all : Nat) : ((((((((hRow S R n all).setIfInBounds 0 (vW T.a)).setIfInBounds 1 (vW T.b)).setIfInBounds 2 (vW T.c)).setIfInBounds 3 (vW T.d)).setIfInBounds 4 (vW T.e)).setIfInBounds 5 (vW T.f)).setIfInBounds 6 (vW T.g)).setIfInBounds 7 (vW T.h) = hRow T R n all := by
  unfold hRow hList S8.row
  simp only [List.setIfInBounds_toArray, List.cons_append, List.set_cons_zero, List.set_cons_succ]
theorem HObj.setState {g : Nat} {w : World} {S : S8} {R : List By} {n all : Nat} (h : HObj g w S R n all) (T : S8) : HObj g (w.setCells g 0 T.row.toList) T R n all := by
  refine ⟨?_, h.len⟩
  have h0 := heap_setCell_same w g 0 _ _ (vW T.a) h.obj
  have h1 := heap_setCell_same _ g 1 _ _ (vW T.b) h0
  have h2 := heap_setCell_same _ g 2 _ _ (vW T.c) h1
  have h3 := heap_setCell_same _ g 3 _ _ (vW T.d) h2
  have h4 := heap_setCell_same _ g 4 _ _ (vW T.e) h3
  have h5 := heap_setCell_same _ g 5 _ _ (vW T.f) h4
  have h6 := heap_setCell_same _ g 6 _ _ (vW T.g) h5
  have h7 := heap_setCell_same _ g 7 _ _ (vW T.h) h6
  rw [setState_eq, h7, hRow_state]
theorem Keeps.setState {g : Nat} {a w : World} (h : Keeps g a w) (T : S8) : Keeps g a (w.setCells g 0 T.row.toList) := by
  rw [setState_eq]
  exact (((((((h.setCell 0 (vW T.a)).setCell 1 (vW T.b)).setCell 2 (vW T.c)).setCell 3 (vW T.d)).setCell 4 (vW T.e)).setCell 5 (vW T.f)).setCell 6 (vW T.g)).setCell 7 (vW T.h)

/-- the Hasher at block g has taken the bytes M, of what its counter says. -/
structure HSt (g : Nat) (w : World) (M : List By) (all : Nat) (S : S8) (R : List By) (n : Nat) : Prop where
  obj : HObj g w S R n all
  st : S = stateOf M
  hn : n = M.length % 64
  rest : ∀ i, i < n → R.getD i 0 = M.getD (64 * (M.length / 64) + i) 0
def HOK (g : Nat) (w : World) (M : List By) : Prop := ∃ S R n, HSt g w M M.length S R n

theorem HSt.go {g : Nat} {w wr : World} {M : List By} {all : Nat} {S : S8} {R : List By} {n : Nat} (h : HSt g wr M all S R n) (hK : Keeps g w wr) (k : Nat) (X : World → Prop)
    (hx : ∀ w2, HSt g w2 M all S R n → Keeps g w w2 → X w2) : X (wr.drewN k) := hx _ ⟨h.obj.drewN k, h.st, h.hn, h.rest⟩ (hK.drewN k)
theorem HSt.below {g : Nat} {wr w2 : World} {M : List By} {all : Nat} {S : S8} {R : List By} {n : Nat} (h : HSt g wr M all S R n) (hb : Below wr.heap.size wr w2) : HSt g w2 M all S R n :=
  ⟨h.obj.below hb, h.st, h.hn, h.rest⟩
theorem HObj.there' {g : Nat} {w : World} {S : S8} {R : List By} {n all : Nat} (h : HObj g w S R n all) (T : S8) : w.there g 0 T.row.size := by
  rw [S8.row_size]; exact h.there
theorem Try.size52'' (T : S8) : (Try.prog.info? 52).map (·.size) = some T.row.size := by rw [S8.row_size]; exact Try.size52

/-- what the walk wants of the state's cells. -/
theorem HObj.eight {g : Nat} {w : World} {S : S8} {R : List By} {n all : Nat} (h : HObj g w S R n all) :
    w.cell? ⟨g, 0, none⟩ = some (vW S.a) ∧ w.cell? ⟨g, 1, none⟩ = some (vW S.b) ∧ w.cell? ⟨g, 2, none⟩ = some (vW S.c) ∧ w.cell? ⟨g, 3, none⟩ = some (vW S.d) ∧
      w.cell? ⟨g, 4, none⟩ = some (vW S.e) ∧ w.cell? ⟨g, 5, none⟩ = some (vW S.f) ∧ w.cell? ⟨g, 6, none⟩ = some (vW S.g) ∧ w.cell? ⟨g, 7, none⟩ = some (vW S.h) :=
  ⟨h.cs 0 _ rfl, h.cs 1 _ rfl, h.cs 2 _ rfl, h.cs 3 _ rfl, h.cs 4 _ rfl, h.cs 5 _ rfl, h.cs 6 _ rfl, h.cs 7 _ rfl⟩
theorem HObj.free8 {g : Nat} {w : World} {S : S8} {R : List By} {n all : Nat} (h : HObj g w S R n all) :
    w.frozen? ⟨g, 0, none⟩ = false ∧ w.frozen? ⟨g, 1, none⟩ = false ∧ w.frozen? ⟨g, 2, none⟩ = false ∧ w.frozen? ⟨g, 3, none⟩ = false ∧
      w.frozen? ⟨g, 4, none⟩ = false ∧ w.frozen? ⟨g, 5, none⟩ = false ∧ w.frozen? ⟨g, 6, none⟩ = false ∧ w.frozen? ⟨g, 7, none⟩ = false :=
  ⟨h.free 0, h.free 1, h.free 2, h.free 3, h.free 4, h.free 5, h.free 6, h.free 7⟩
/-- the round's contract with its result written out. -/
theorem round_out (s : S8) (b : List By) (bk off : Nat) (cap : Nat) (w : World) (hbk : bk < w.heap.size)
    (hb : ∀ i, i < 64 → w.cell? ⟨bk, off + i, none⟩ = some (vB (b.getD i 0))) :
    Calls Try.prog 28 #[.agg #[vW s.a, vW s.b, vW s.c, vW s.d, vW s.e, vW s.f, vW s.g, vW s.h], .slice (some ⟨bk, off, none⟩) 64 cap] w fun e w' => ∃ T, Hid (T = blockS s b) ∧
      e = .returned (.agg #[vW T.a, vW T.b, vW T.c, vW T.d, vW T.e, vW T.f, vW T.g, vW T.h]) ∧ Below w.heap.size w w' :=
  (round_any s b bk off cap w hbk hb).mono fun _ _ ⟨he, hw⟩ => ⟨_, Lib.hid rfl, he, hw⟩

def sliceLen : Value → Nat | .slice _ n _ => n | _ => 0
theorem Try.size52' (S : S8) : (Try.prog.info? 52).map (·.size) = some S.row.toList.length := by rw [rowL]; exact Try.size52

end Go.Proofs.Ytmcpobmmogeiiaa
