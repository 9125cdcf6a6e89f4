/-
  Bytes block by block: the state behind all whole blocks of some bytes, and how it goes on.
-/
import Derived.Test.YtmcpobmmogeiiaaSpec
namespace Go.Proofs.Ytmcpobmmogeiiaa
open Go.RowKit

/-- the state behind n blocks. -/
def blocksS (s : S8) (b : List By) : Nat → S8
  | 0 => s
  | n + 1 => blockS (blocksS s b n) (b.drop (64 * n))
/-- the state behind all whole blocks. -/
def stateOf (b : List By) : S8 := blocksS h0 b (b.length / 64)

theorem words_congr {b c : List By} (h : ∀ i, i < 64 → b.getD i 0 = c.getD i 0) : words b = words c := by
  unfold words
  apply List.map_congr_left
  intro i hi
  have hi : i < 16 := by simpa using hi
  rw [h _ (by omega), h _ (by omega), h _ (by omega), h _ (by omega)]
theorem blockS_congr (s : S8) {b c : List By} (h : ∀ i, i < 64 → b.getD i 0 = c.getD i 0) : blockS s b = blockS s c := by
  unfold blockS; rw [words_congr h]
theorem getD_drop' (l : List By) (n i : Nat) : (l.drop n).getD i 0 = l.getD (n + i) 0 := by
  simp [List.getD_eq_getElem?_getD]
theorem getD_append_left' (l m : List By) (i : Nat) (h : i < l.length) : (l ++ m).getD i 0 = l.getD i 0 := by
  simp [List.getD_eq_getElem?_getD, List.getElem?_append_left h]
theorem getD_append_right' (l m : List By) (i : Nat) (h : l.length ≤ i) : (l ++ m).getD i 0 = m.getD (i - l.length) 0 := by
  simp [List.getD_eq_getElem?_getD, List.getElem?_append_right h]
theorem getD_take' (l : List By) (n i : Nat) (h : i < n) : (l.take n).getD i 0 = l.getD i 0 := by
  simp [List.getD_eq_getElem?_getD, List.getElem?_take_of_lt h]
theorem blocksS_append (s : S8) (b c : List By) (n : Nat) (h : 64 * n ≤ b.length) : blocksS s (b ++ c) n = blocksS s b n := by
  induction n with
  | zero => rfl
  | succ n ih =>
    unfold blocksS
    rw [ih (by omega)]
    apply blockS_congr
    intro i hi
    rw [getD_drop', getD_drop', getD_append_left' _ _ _ (by omega)]
theorem stateOf_block (L M : List By) (hL : L.length % 64 = 0) (hM : 64 ≤ M.length) : stateOf (L ++ M.take 64) = blockS (stateOf L) M := by
  unfold stateOf
  have hl : (L ++ M.take 64).length / 64 = L.length / 64 + 1 := by simp; omega
  rw [hl]
  show blockS (blocksS h0 (L ++ M.take 64) (L.length / 64)) _ = _
  rw [blocksS_append _ _ _ _ (by omega)]
  apply blockS_congr
  intro i hi
  rw [getD_drop', getD_append_right' _ _ _ (by omega), getD_take' _ _ _ (by omega)]
  congr 1; omega
theorem stateOf_less (L M : List By) (h : L.length % 64 + M.length < 64) : stateOf (L ++ M) = stateOf L := by
  unfold stateOf
  have hl : (L ++ M).length / 64 = L.length / 64 := by simp; omega
  rw [hl, blocksS_append _ _ _ _ (by omega)]
theorem stateOf_full (L M R : List By) (h : L.length % 64 + M.length = 64) (hR : ∀ i, i < 64 → R.getD i 0 = (L.drop (64 * (L.length / 64)) ++ M).getD i 0) : stateOf (L ++ M) = blockS (stateOf L) R := by
  unfold stateOf
  have hl : (L ++ M).length / 64 = L.length / 64 + 1 := by simp; omega
  rw [hl]
  show blockS (blocksS h0 (L ++ M) (L.length / 64)) _ = _
  rw [blocksS_append _ _ _ _ (by omega)]
  apply blockS_congr
  intro i hi
  rw [hR i hi, getD_drop']
  by_cases hi2 : i < L.length % 64
  · rw [getD_append_left' _ _ _ (by omega), getD_append_left' _ _ _ (by simp; omega), getD_drop']
  · rw [getD_append_right' _ _ _ (by omega), getD_append_right' _ _ _ (by simp; omega)]
    congr 1; simp; omega

end Go.Proofs.Ytmcpobmmogeiiaa
