/-
  The reference's block: the state behind 64 bytes.
-/
import Derived.Test.YtmcpobmmogeiiaaLeaf
import Derived.Lib.Hide
import Derived.StillTailTactics
namespace Go.Proofs.Ytmcpobmmogeiiaa
open Go.RowKit

def z8 : Array Value := Array.replicate 8 (.int .u32 0)
theorem z8_size : z8.size = 8 := by kernel_rfl
theorem Try.zero52 : ((Try.prog.info? 52).bind (·.zero)).map (·.cells) = some z8 := by kernel_rfl
theorem Try.size52 : (Try.prog.info? 52).map (·.size) = some 8 := by kernel_rfl
theorem S8.row_size (s : S8) : s.row.size = 8 := by kernel_rfl
theorem S8.row_all (s : S8) : s.row.all (·.oneCell') = true := by kernel_rfl

def wRow (W : Nat → Wd) (t : Nat) : Array Value := rowN 64 fun i => if i < t then vW (W i) else .int .u32 0
theorem wRow_zero (W : Nat → Wd) : wRow W 0 = z64 := by
  unfold wRow z64 rowN; simp; rfl

structure Env (B : Nat) (w : World) (r0 r1 : Array Value) (wr : World) (c : Array Value) : Prop where
  size : wr.heap.size = B + 3
  bel : Below B w wr
  b0 : wr.heap[B]? = some (.cells r0 52 (0, 0))
  b1 : wr.heap[B + 1]? = some (.cells r1 52 (0, 0))
  b2 : wr.heap[B + 2]? = some (.cells c 67 (0, 0))

theorem Env.start (w : World) (r0 r1 c : Array Value) : Env w.heap.size w r0 r1 (((w.alloc (.cells r0 52)).alloc (.cells r1 52)).alloc (.cells c 67)) c where
  size := by simp
  bel := (((Below.refl _ _).alloc (Nat.le_refl _) _).alloc (by simp) _).alloc (by simp; omega) _
  b0 := by
    rw [Below.heap_alloc _ _ _ (by simp; omega), Below.heap_alloc _ _ _ (by simp)]; exact heap_alloc_last w _
  b1 := by
    rw [Below.heap_alloc _ _ _ (by simp)]
    have := heap_alloc_last (w.alloc (.cells r0 52)) (.cells r1 52)
    simpa using this
  b2 := by
    have := heap_alloc_last ((w.alloc (.cells r0 52)).alloc (.cells r1 52)) (.cells c 67)
    simpa using this

theorem Env.drew {B : Nat} {w wr : World} {r0 r1 c : Array Value} (h : Env B w r0 r1 wr c) (k : Nat) : Env B w r0 r1 (wr.drewN k) c where
  size := h.size
  bel := h.bel.trans ⟨rfl, rfl, rfl, Nat.le_refl _, fun _ _ => rfl⟩
  b0 := h.b0
  b1 := h.b1
  b2 := h.b2
/-- Behind draws: only what is known of the world goes on. -/
theorem Env.go {B : Nat} {w wr : World} {r0 r1 c : Array Value} (h : Env B w r0 r1 wr c) (k : Nat) (X : World → Prop) (hx : ∀ w2, Env B w r0 r1 w2 c → X w2) : X (wr.drewN k) := hx _ (h.drew k)
theorem Env.cell {B : Nat} {w wr : World} {r0 r1 : Array Value} {f : Nat → Value} (h : Env B w r0 r1 wr (rowN 64 f)) {i : Nat} (hi : i < 64) : wr.cell? ⟨B + 1 + 1, i, none⟩ = some (f i) := by
  rw [cell_of_row wr (B + 1 + 1) i _ _ _ h.b2, rowN_get _ _ _ hi]
theorem Env.free {B : Nat} {w wr : World} {r0 r1 c : Array Value} (h : Env B w r0 r1 wr c) (i : Nat) : wr.frozen? ⟨B + 1 + 1, i, none⟩ = false :=
  frozen_of_row wr (B + 1 + 1) i _ _ h.b2
theorem Env.set {B : Nat} {w wr : World} {r0 r1 c : Array Value} (_hB : w.heap.size = B) (h : Env B w r0 r1 wr c) (i : Nat) (v : Value) : Env B w r0 r1 (wr.setCell ⟨B + 1 + 1, i, none⟩ v) (c.setIfInBounds i v) where
  size := by simp [h.size]
  bel := h.bel.setCell (by simp; omega) v
  b0 := by rw [heap_setCell_other _ _ _ _ (by simp; omega)]; exact h.b0
  b1 := by rw [heap_setCell_other _ _ _ _ (by simp)]; exact h.b1
  b2 := heap_setCell_same _ _ _ _ _ _ h.b2
theorem wRow_set (W : Nat → Wd) (t : Nat) (v : Value) (hv : v = vW (W t)) : (wRow W t).setIfInBounds t v = wRow W (t + 1) := by
  subst hv
  unfold wRow
  rw [rowN_set]
  apply rowN_ext
  intro i _
  by_cases h1 : i = t
  · subst h1; simp
  · by_cases h2 : i < t
    · simp [h1, h2, Nat.lt_succ_of_lt h2]
    · have : ¬ i < t + 1 := by omega
      simp [h1, h2, this]

theorem be32_walk (b : List By) (t : Nat) (ht : t < 16) :
    Value.int IntKind.u32 (bits BinOp.or IntKind.u32 (bits BinOp.or IntKind.u32 (bits BinOp.or IntKind.u32 (((b[4 * t]?.getD 0#8).toNat : Int) * 16777216) (((b[4 * t + 1]?.getD 0#8).toNat : Int) * 65536))
      (((b[4 * t + 2]?.getD 0#8).toNat : Int) * 256)) ((b[4 * t + 3]?.getD 0#8).toNat : Int)) = vW (Wt (words b) t) := by
  rw [Wt_low _ (words_length b) _ ht, words_getD _ _ ht]
  have hs : ∀ (x : By) (n : Nat), n ≤ 24 → (x.toNat : Int) * 2 ^ n = (((x.setWidth 32) <<< n).toNat : Int) := fun x n hn => by
    rw [BitVec.toNat_shiftLeft, BitVec.toNat_setWidth, Nat.shiftLeft_eq]
    have := x.isLt
    have h1 : x.toNat % 2 ^ 32 = x.toNat := by omega
    have h2 : x.toNat * 2 ^ n < 2 ^ 32 := by
      have : x.toNat * 2 ^ n ≤ 255 * 2 ^ 24 := Nat.mul_le_mul (by omega) (Nat.pow_le_pow_right (by omega) hn)
      omega
    rw [h1, Nat.mod_eq_of_lt h2]; simp
  have h24 := hs (b[4 * t]?.getD 0#8) 24 (by omega)
  have h16 := hs (b[4 * t + 1]?.getD 0#8) 16 (by omega)
  have h8 := hs (b[4 * t + 2]?.getD 0#8) 8 (by omega)
  simp only [show (2 : Int) ^ 24 = 16777216 from rfl, show (2 : Int) ^ 16 = 65536 from rfl, show (2 : Int) ^ 8 = 256 from rfl] at h24 h16 h8
  rw [h24, h16, h8, w_ext (b[4 * t + 3]?.getD 0#8), w_or, w_or, w_or]
  rfl

/-- behind the schedule: the constants, and the state that goes round. -/
structure Env2 (B N : Nat) (w : World) (r0 r1 rw : Array Value) (wr : World) (c : Array Value) : Prop where
  size : wr.heap.size = N + 3
  bel : Below B w wr
  lt : B + 3 = N
  b0 : wr.heap[B]? = some (.cells r0 52 (0, 0))
  b1 : wr.heap[B + 1]? = some (.cells r1 52 (0, 0))
  b2 : wr.heap[B + 1 + 1]? = some (.cells rw 67 (0, 0))
  b4 : wr.heap[N + 1]? = some (.cells kRow 67 (0, 0))
  b5 : wr.heap[N + 1 + 1]? = some (.cells c 52 (0, 0))
theorem Env2.start {B : Nat} {w wr : World} {r0 r1 rw : Array Value} (h : Env B w r0 r1 wr rw) (_hB : w.heap.size = B) (c : Array Value) :
    Env2 B wr.heap.size w r0 r1 rw (((wr.alloc (.cells kRow 67)).alloc (.cells kRow 67)).alloc (.cells c 52)) c where
  size := by simp
  bel := ((h.bel.alloc (by have := h.size; omega) _).alloc (by have := h.size; simp; omega) _).alloc (by have := h.size; simp; omega) _
  lt := h.size.symm
  b0 := by have := h.size; rw [Below.heap_alloc _ _ _ (by simp; omega), Below.heap_alloc _ _ _ (by simp; omega), Below.heap_alloc _ _ _ (by omega)]; exact h.b0
  b1 := by have := h.size; rw [Below.heap_alloc _ _ _ (by simp; omega), Below.heap_alloc _ _ _ (by simp; omega), Below.heap_alloc _ _ _ (by omega)]; exact h.b1
  b2 := by have := h.size; rw [Below.heap_alloc _ _ _ (by simp; omega), Below.heap_alloc _ _ _ (by simp; omega), Below.heap_alloc _ _ _ (by omega)]; exact h.b2
  b4 := by
    rw [Below.heap_alloc _ _ _ (by simp)]
    have := heap_alloc_last (wr.alloc (.cells kRow 67)) (.cells kRow 67)
    simpa using this
  b5 := by
    have := heap_alloc_last ((wr.alloc (.cells kRow 67)).alloc (.cells kRow 67)) (.cells c 52)
    simpa using this
theorem Env2.go {B N : Nat} {w wr : World} {r0 r1 rw c : Array Value} (h : Env2 B N w r0 r1 rw wr c) (k : Nat) (X : World → Prop) (hx : ∀ w2, Env2 B N w r0 r1 rw w2 c → X w2) : X (wr.drewN k) :=
  hx _ ⟨h.size, h.bel.trans ⟨rfl, rfl, rfl, Nat.le_refl _, fun _ _ => rfl⟩, h.lt, h.b0, h.b1, h.b2, h.b4, h.b5⟩
theorem Env2.setS {B N : Nat} {w wr : World} {r0 r1 rw c : Array Value} (h : Env2 B N w r0 r1 rw wr c) (c' : Array Value) : Env2 B N w r0 r1 rw (wr.setRow (N + 1 + 1) c') c' := by
  have h1 := h.lt
  exact ⟨by simp [h.size], h.bel.trans ⟨rfl, rfl, rfl, by simp, fun k hk => setRow_other _ _ _ _ (by omega)⟩, h.lt,
    by rw [setRow_other _ _ _ _ (by omega)]; exact h.b0, by rw [setRow_other _ _ _ _ (by omega)]; exact h.b1, by rw [setRow_other _ _ _ _ (by omega)]; exact h.b2,
    by rw [setRow_other _ _ _ _ (by omega)]; exact h.b4, setRow_heap _ _ _ _ _ _ h.b5⟩

theorem Env2.cell5 {B N : Nat} {w wr : World} {r0 r1 rw c : Array Value} (h : Env2 B N w r0 r1 rw wr c) (i : Nat) (v : Value) (hv : c[i]? = some v) : wr.cell? ⟨N + 1 + 1, i, none⟩ = some v := by
  rw [cell_of_row wr (N + 1 + 1) i _ _ _ h.b5]; exact hv
theorem kRow_get (t : Nat) (ht : t < 64) : kRow[t]? = some (vW (K t)) := by
  have hl : kL.length = 64 := rfl
  simp [kRow, K, List.getD_eq_getElem?_getD, hl, ht]
theorem Env2.cellK {B N : Nat} {w wr : World} {r0 r1 rw c : Array Value} (h : Env2 B N w r0 r1 rw wr c) (t : Nat) (ht : t < 64) : wr.cell? ⟨N + 1, t, none⟩ = some (vW (K t)) := by
  rw [cell_of_row wr (N + 1) t _ _ _ h.b4]; exact kRow_get t ht
theorem Env2.cellW {B N : Nat} {w wr : World} {r0 r1 c : Array Value} {W : Nat → Wd} (h : Env2 B N w r0 r1 (wRow W 64) wr c) (t : Nat) (ht : t < 64) : wr.cell? ⟨B + 1 + 1, t, none⟩ = some (vW (W t)) := by
  rw [cell_of_row wr (B + 1 + 1) t _ _ _ h.b2, wRow, rowN_get _ _ _ ht, if_pos ht]

theorem w_add4 (x y z u : Wd) : ((x.toNat : Int) + (y.toNat : Int) + (z.toNat : Int) + (u.toNat : Int)) % 4294967296 = ((x + y + z + u).toNat : Int) := by
  simp only [BitVec.toNat_add]; omega
theorem w_shr3 (x : Wd) : ((x.toNat : Int) / (8 : Int)) = ((x >>> 3).toNat : Int) := w_shr x 3
theorem w_shr10 (x : Wd) : ((x.toNat : Int) / (1024 : Int)) = ((x >>> 10).toNat : Int) := w_shr x 10
theorem sched_walk (b : List By) (t : Nat) (ht0 : 16 ≤ t) (ht : t < 64) :
    Value.int IntKind.u32 ((bits BinOp.xor IntKind.u32 (bits BinOp.xor IntKind.u32 ((rorW (Wt (words b) (t - 2)) 17).toNat : Int) ((rorW (Wt (words b) (t - 2)) 19).toNat : Int)) (((Wt (words b) (t - 2)).toNat : Int) / 1024) +
      ((Wt (words b) (t - 7)).toNat : Int) +
      bits BinOp.xor IntKind.u32 (bits BinOp.xor IntKind.u32 ((rorW (Wt (words b) (t - 15)) 7).toNat : Int) ((rorW (Wt (words b) (t - 15)) 18).toNat : Int)) (((Wt (words b) (t - 15)).toNat : Int) / 8) +
      ((Wt (words b) (t - 16)).toNat : Int)) % 4294967296) = vW (Wt (words b) t) := by
  rw [w_shr3, w_shr10, w_xor, w_xor, w_xor, w_xor, w_add4, Wt_high _ (words_length b) t ht0 ht]
  rfl

def addRow (s S : S8) (t : Nat) : Array Value := rowN 8 fun j => if j < t then vW ((addS s S).get j) else vW (s.get j)
theorem addRow_zero (s S : S8) : addRow s S 0 = s.row := by kernel_rfl
theorem addRow_full (s S : S8) : addRow s S 8 = (addS s S).row := by kernel_rfl
theorem addRow_get (s S : S8) (t : Nat) (ht : t < 8) : (addRow s S t)[t]? = some (vW (s.get t)) := by
  unfold addRow; rw [rowN_get _ _ _ ht, if_neg (by omega)]
theorem row_get (S : S8) (t : Nat) (ht : t < 8) : S.row[t]? = some (vW (S.get t)) := by
  match t, ht with
  | 0, _ => rfl | 1, _ => rfl | 2, _ => rfl | 3, _ => rfl | 4, _ => rfl | 5, _ => rfl | 6, _ => rfl | 7, _ => rfl
theorem addS_get (s S : S8) (t : Nat) (ht : t < 8) : (addS s S).get t = s.get t + S.get t := by
  match t, ht with
  | 0, _ => rfl | 1, _ => rfl | 2, _ => rfl | 3, _ => rfl | 4, _ => rfl | 5, _ => rfl | 6, _ => rfl | 7, _ => rfl
theorem addRow_set (s S : S8) (t : Nat) (ht : t < 8) : (addRow s S t).setIfInBounds t (vW (s.get t + S.get t)) = addRow s S (t + 1) := by
  unfold addRow
  rw [rowN_set]
  apply rowN_ext
  intro i _
  by_cases h1 : i = t
  · subst h1; simp [addS_get s S i ht]
  · by_cases h2 : i < t
    · simp [h1, h2, Nat.lt_succ_of_lt h2]
    · have : ¬ i < t + 1 := by omega
      simp [h1, h2, this]
theorem Env2.cell0 {B N : Nat} {w wr : World} {r0 r1 rw c : Array Value} (h : Env2 B N w r0 r1 rw wr c) (i : Nat) (v : Value) (hv : r0[i]? = some v) : wr.cell? ⟨B, i, none⟩ = some v := by
  rw [cell_of_row wr B i _ _ _ h.b0]; exact hv
theorem Env2.free0 {B N : Nat} {w wr : World} {r0 r1 rw c : Array Value} (h : Env2 B N w r0 r1 rw wr c) (i : Nat) : wr.frozen? ⟨B, i, none⟩ = false :=
  frozen_of_row wr B i _ _ h.b0
theorem Env2.set0 {B N : Nat} {w wr : World} {r0 r1 rw c : Array Value} (_hB : w.heap.size = B) (h : Env2 B N w r0 r1 rw wr c) (i : Nat) (v : Value) : Env2 B N w (r0.setIfInBounds i v) r1 rw (wr.setCell ⟨B, i, none⟩ v) c := by
  have h1 := h.lt
  exact ⟨by simp [h.size], h.bel.setCell (by simp) v, h.lt, heap_setCell_same _ _ _ _ _ _ h.b0,
    by rw [heap_setCell_other _ _ _ _ (by simp)]; exact h.b1, by rw [heap_setCell_other _ _ _ _ (by simp; omega)]; exact h.b2,
    by rw [heap_setCell_other _ _ _ _ (by simp; omega)]; exact h.b4, by rw [heap_setCell_other _ _ _ _ (by simp; omega)]; exact h.b5⟩
def t1raw (S : S8) (k w : Wd) : Int :=
  (S.h.toNat : Int) + bits BinOp.xor IntKind.u32 (bits BinOp.xor IntKind.u32 ((rorW S.e 6).toNat : Int) ((rorW S.e 11).toNat : Int)) ((rorW S.e 25).toNat : Int) +
    bits BinOp.xor IntKind.u32 (bits BinOp.and IntKind.u32 (S.e.toNat : Int) (S.f.toNat : Int)) (bits BinOp.and IntKind.u32 (bits BinOp.xor IntKind.u32 IntKind.u32.max (S.e.toNat : Int)) (S.g.toNat : Int)) +
    (k.toNat : Int) + (w.toNat : Int)
def t2raw (S : S8) : Int :=
  bits BinOp.xor IntKind.u32 (bits BinOp.xor IntKind.u32 ((rorW S.a 2).toNat : Int) ((rorW S.a 13).toNat : Int)) ((rorW S.a 22).toNat : Int) +
    bits BinOp.xor IntKind.u32 (bits BinOp.xor IntKind.u32 (bits BinOp.and IntKind.u32 (S.a.toNat : Int) (S.b.toNat : Int)) (bits BinOp.and IntKind.u32 (S.a.toNat : Int) (S.c.toNat : Int)))
      (bits BinOp.and IntKind.u32 (S.b.toNat : Int) (S.c.toNat : Int))
theorem w_not' (x : Wd) : bits BinOp.xor IntKind.u32 IntKind.u32.max (x.toNat : Int) = ((~~~x).toNat : Int) := w_not x
theorem t1raw_eq (S : S8) (k w : Wd) : t1raw S k w = (S.h.toNat : Int) + ((rorW S.e 6 ^^^ rorW S.e 11 ^^^ rorW S.e 25).toNat : Int) + ((S.e &&& S.f ^^^ (~~~S.e &&& S.g)).toNat : Int) + (k.toNat : Int) + (w.toNat : Int) := by
  unfold t1raw; rw [w_not', w_xor, w_xor, w_and, w_and, w_xor]
theorem t2raw_eq (S : S8) : t2raw S = ((rorW S.a 2 ^^^ rorW S.a 13 ^^^ rorW S.a 22).toNat : Int) + ((S.a &&& S.b ^^^ (S.a &&& S.c) ^^^ (S.b &&& S.c)).toNat : Int) := by
  unfold t2raw; rw [w_and, w_and, w_and, w_xor, w_xor, w_xor, w_xor]
theorem t1_mod (S : S8) (k w : Wd) : t1raw S k w % 4294967296 = ((t1W S k w).toNat : Int) := by
  rw [t1raw_eq]; unfold t1W; simp only [BitVec.toNat_add]; omega
theorem t2_mod (S : S8) : t2raw S % 4294967296 = ((t2W S).toNat : Int) := by
  rw [t2raw_eq]; unfold t2W; simp only [BitVec.toNat_add]; omega
theorem step_row (S : S8) (k w : Wd) : #[Value.int IntKind.u32 ((t1raw S k w + t2raw S) % 4294967296), vW S.a, vW S.b, vW S.c, Value.int IntKind.u32 (((S.d.toNat : Int) + t1raw S k w) % 4294967296), vW S.e, vW S.f, vW S.g] = (stepS S k w).row := by
  have h1 := t1_mod S k w
  have h2 := t2_mod S
  have e1 : (t1raw S k w + t2raw S) % 4294967296 = ((t1W S k w + t2W S).toNat : Int) := by simp only [BitVec.toNat_add]; omega
  have e2 : ((S.d.toNat : Int) + t1raw S k w) % 4294967296 = ((S.d + t1W S k w).toNat : Int) := by simp only [BitVec.toNat_add]; omega
  rw [e1, e2]; rfl

set_option maxRecDepth 100000 in
set_option maxHeartbeats 4000000 in
theorem refblock_any (s : S8) (b : List By) (bk off : Nat) (cap : Nat) (w : World) (hbk : bk < w.heap.size)
    (hb : ∀ i, i < 64 → w.cell? ⟨bk, off + i, none⟩ = some (vB (b.getD i 0))) :
    Calls Try.prog 26 #[.agg s.row, .slice (some ⟨bk, off, none⟩) 64 cap] w fun e w' => e = .returned (.agg (blockS s b).row) ∧ Below w.heap.size w w' := by
  have HB := Lib.hid hb; clear hb
  go_enter Try.func26, Try.ntmps26
  go_wp2_with (first | (with_reducible refine wpList_alloc_row rfl 67 rfl z64 Try.zero67 ?_) | (with_reducible refine wpList_alloc_row rfl 52 rfl z8 Try.zero52 ?_) )
  go_loopw [6] (fun i wr => ∃ t : Nat, t ≤ 16 ∧ i = .int .i64 t ∧ Env w.heap.size w s.row z8 wr (wRow (Wt (words b)) t)) (fun i _ => 16 - (intOf i).toNat)
  case atStart => exact ⟨0, by omega, rfl, by rw [wRow_zero]; exact Env.start w _ _ _⟩
  case round =>
    obtain ⟨t, ht, rfl, hE⟩ := hrel
    by_cases hlt : t < 16
    · have hc0 := (hE.bel.cell (p := ⟨bk, off + 4 * t, none⟩) hbk).trans (HB.out (4 * t) (by omega))
      have hc1 := (hE.bel.cell (p := ⟨bk, off + (4 * t + 1), none⟩) hbk).trans (HB.out (4 * t + 1) (by omega))
      have hc2 := (hE.bel.cell (p := ⟨bk, off + (4 * t + 2), none⟩) hbk).trans (HB.out (4 * t + 2) (by omega))
      have hc3 := (hE.bel.cell (p := ⟨bk, off + (4 * t + 3), none⟩) hbk).trans (HB.out (4 * t + 3) (by omega))
      go_wp2
      refine wp_region_still_tail 35 (by kernel_rfl) (by kernel_rfl) ?_
      simp only [List.take_succ_cons, List.take_zero, List.drop_succ_cons, List.drop_zero]
      repeat (refine wpStill_step (fun K hK => ?_); go_simp; (try go_bits); (try (rw [if_pos (by omega)]; go_simp)); refine hK _ ?_; clear hK K)
      refine wpStill_nil ?_
      change wpList _ _ _ _ _ (wr.drewN 1)
      have hE2 := hE.drew 1
      clear hE hc0 hc1 hc2 hc3
      generalize wr.drewN 1 = w2 at hE2 ⊢
      have hx := Env.cell hE2 (i := t) (by omega)
      have hf := hE2.free t
      go_wp2
      clear hx hf
      go_roundw
      case rel => exact ⟨t + 1, by omega, by go_num, by rw [← wRow_set (Wt (words b)) t _ (be32_walk b t hlt)]; exact hE2.set rfl t _⟩
      case measure => simp [intOf]; omega
    · have hE16 : Env w.heap.size w s.row z8 wr (wRow (Wt (words b)) 16) := by
        have ht16 : t = 16 := by omega
        rw [ht16] at hE; exact hE
      clear hE
      go_wp2
      clear hlt ht
      obtain ⟨w1, hw1⟩ : ∃ w1, w1 = wr := ⟨_, rfl⟩
      subst hw1
      go_loopw [7] (fun i wr => ∃ t : Nat, 16 ≤ t ∧ t ≤ 64 ∧ i = .int .i64 t ∧ Env w.heap.size w s.row z8 wr (wRow (Wt (words b)) t)) (fun i _ => 64 - (intOf i).toNat)
      case atStart => exact ⟨16, by omega, by omega, rfl, hE16⟩
      case round =>
        obtain ⟨t, ht0, ht, rfl, hE⟩ := hrel
        by_cases hlt : t < 64
        · have hx2 := Env.cell hE (i := t - 2) (by omega)
          have hx7 := Env.cell hE (i := t - 7) (by omega)
          have hx15 := Env.cell hE (i := t - 15) (by omega)
          have hx16 := Env.cell hE (i := t - 16) (by omega)
          rw [if_pos (by omega)] at hx2 hx7 hx15 hx16
          have e2 : IntKind.i64.wrap ((t : Int) - 2) = t - 2 := IntWalk.i64_in _ (by omega)
          have e7 : IntKind.i64.wrap ((t : Int) - 7) = t - 7 := IntWalk.i64_in _ (by omega)
          have e15 : IntKind.i64.wrap ((t : Int) - 15) = t - 15 := IntWalk.i64_in _ (by omega)
          have e16 : IntKind.i64.wrap ((t : Int) - 16) = t - 16 := IntWalk.i64_in _ (by omega)
          have n2 : ((t : Int) - 2).toNat = t - 2 := by omega
          have n7 : ((t : Int) - 7).toNat = t - 7 := by omega
          have n15 : ((t : Int) - 15).toNat = t - 15 := by omega
          have n16 : ((t : Int) - 16).toNat = t - 16 := by omega
          have l2 : 0 ≤ (t : Int) - 2 ∧ (t : Int) - 2 < 64 := by omega
          have l7 : 0 ≤ (t : Int) - 7 ∧ (t : Int) - 7 < 64 := by omega
          have l15 : 0 ≤ (t : Int) - 15 ∧ (t : Int) - 15 < 64 := by omega
          have l16 : 0 ≤ (t : Int) - 16 ∧ (t : Int) - 16 < 64 := by omega
          go_wp2
          go_quiet ((go_at_call 31; exact Calls.quiet_of (refror_any _ _ (by omega) (by omega) _)))
          clear hx2 hx7 hx15 hx16
          refine Env.go hE _ (fun w2 => Exit.then _ _ _ _ w2) ?_
          clear hE; intro wr hE
          have hx2 := Env.cell hE (i := t - 2) (by omega)
          rw [if_pos (by omega)] at hx2
          go_wp2
          go_quiet ((go_at_call 31; exact Calls.quiet_of (refror_any _ _ (by omega) (by omega) _)))
          clear hx2
          refine Env.go hE _ (fun w2 => Exit.then _ _ _ _ w2) ?_
          clear hE; intro wr hE
          have hx7 := Env.cell hE (i := t - 7) (by omega)
          have hx16 := Env.cell hE (i := t - 16) (by omega)
          rw [if_pos (by omega)] at hx7 hx16
          go_wp2
          refine wp_region_still_tail 15 (by kernel_rfl) (by kernel_rfl) ?_
          simp only [List.take_succ_cons, List.take_zero, List.drop_succ_cons, List.drop_zero]
          repeat (refine wpStill_step (fun K hK => ?_); go_simp; (try go_bits); (try (rw [if_pos (by omega)]; go_simp)); refine hK _ ?_; clear hK K)
          refine wpStill_nil ?_
          change wpList _ _ _ _ _ (wr.drewN 1)
          refine Env.go hE _ (fun w2 => wpList _ _ _ _ _ w2) ?_
          clear hx7 hx16 hE; intro wr hE
          have hx := Env.cell hE (i := t) (by omega)
          have hf := hE.free t
          go_wp2
          clear hx hf
          go_roundw
          case rel => 
            exact ⟨t + 1, by omega, by omega, by go_num, by rw [← wRow_set (Wt (words b)) t _ (sched_walk b t ht0 hlt)]; exact hE.set rfl t _⟩
          case measure => simp [intOf]; omega
        · have hE : Env w.heap.size w s.row z8 wr (wRow (Wt (words b)) 64) := by
            have ht64 : t = 64 := by omega
            rw [ht64] at hE; exact hE
          clear hE16
          go_wp2_with (first | (go_at_call 32; refine (k_any _).mono ?_; rintro e w' ⟨rfl, rfl⟩) | (with_reducible refine wpList_alloc_row rfl 67 rfl z64 Try.zero67 ?_) | (with_reducible refine wpList_store_last rfl 67 _ _ rfl rfl kRow z64 67 rfl rfl (by rw [kRow_size]; exact Try.size67) (by rw [kRow_size, z64_size]) kRow_all ?_) | (with_reducible refine wpList_load_row rfl 52 _ rfl w.heap.size rfl 52 s.row (0, 0) _ (by have := hE.size; rw [Below.heap_alloc _ _ _ (by simp; omega), Below.heap_alloc _ _ _ (by omega)]; exact hE.b0) Try.underlying52 rfl (by rw [S8.row_size]; exact Try.size52) ?_) | (with_reducible refine wpList_alloc_row rfl 52 rfl z8 Try.zero52 ?_) | (with_reducible refine wpList_store_last rfl 52 _ _ rfl rfl s.row z8 52 rfl rfl (by rw [S8.row_size]; exact Try.size52) (by rw [S8.row_size, z8_size]) (S8.row_all s) ?_))
          have hE2 := Env2.start hE rfl s.row
          generalize ((wr.alloc (.cells kRow 67)).alloc (.cells kRow 67)).alloc (.cells s.row 52) = w2 at hE2 ⊢
          generalize wr.heap.size = N at hE2 ⊢
          clear hE
          go_loopw [12] (fun i wr => ∃ t : Nat, t ≤ 64 ∧ i = .int .i64 t ∧ Env2 w.heap.size N w s.row z8 (wRow (Wt (words b)) 64) wr (roundsS (Wt (words b)) s t).row) (fun i _ => 64 - (intOf i).toNat)
          case atStart => exact ⟨0, by omega, rfl, hE2⟩
          case round =>
            clear hE2
            obtain ⟨t, ht, rfl, hE⟩ := hrel
            by_cases hlt : t < 64
            · obtain ⟨S, hS⟩ : ∃ S, S = roundsS (Wt (words b)) s t := ⟨_, rfl⟩
              have HS := Lib.hid hS
              rw [← hS] at hE
              clear hS
              have hca := hE.cell5 0 (vW S.a) rfl
              have hcb := hE.cell5 1 (vW S.b) rfl
              have hcc := hE.cell5 2 (vW S.c) rfl
              have hcd := hE.cell5 3 (vW S.d) rfl
              have hce := hE.cell5 4 (vW S.e) rfl
              have hcf := hE.cell5 5 (vW S.f) rfl
              have hcg := hE.cell5 6 (vW S.g) rfl
              have hch := hE.cell5 7 (vW S.h) rfl
              have hck := hE.cellK t hlt
              have hcw := hE.cellW t hlt
              have lt : 0 ≤ (t : Int) ∧ (t : Int) < 64 := by omega
              go_wp2
              go_quiet ((go_at_call 31; exact Calls.quiet_of (refror_any _ _ (by omega) (by omega) _)))
              clear hca hcb hcc hcd hce hcf hcg hch hck hcw lt
              refine Env2.go hE _ (fun w2 => Exit.then _ _ _ _ w2) ?_
              clear hE; intro wr hE
              have hca := hE.cell5 0 (vW S.a) rfl
              have hcb := hE.cell5 1 (vW S.b) rfl
              have hcc := hE.cell5 2 (vW S.c) rfl
              go_wp2
              go_quiet ((go_at_call 31; exact Calls.quiet_of (refror_any _ _ (by omega) (by omega) _)))
              clear hca hcb hcc
              refine Env2.go hE _ (fun w2 => Exit.then _ _ _ _ w2) ?_
              clear hE; intro wr hE
              have hca := hE.cell5 0 (vW S.a) rfl
              have hcb := hE.cell5 1 (vW S.b) rfl
              have hcc := hE.cell5 2 (vW S.c) rfl
              have hcd := hE.cell5 3 (vW S.d) rfl
              have hce := hE.cell5 4 (vW S.e) rfl
              have hcf := hE.cell5 5 (vW S.f) rfl
              have hcg := hE.cell5 6 (vW S.g) rfl
              go_wp2_with (with_reducible refine wpList_store_row rfl 52 _ _ rfl (N + 1 + 1) (stepS S (K t) (Wt (words b) t)).row rfl ?hy 52 S.row hE.b5 (by rw [S8.row_size]; exact Try.size52) (by rw [S8.row_size, S8.row_size]) (S8.row_all _) ?_)
              case hy => exact congrArg Value.agg (step_row S (K t) (Wt (words b) t))
              clear hca hcb hcc hcd hce hcf hcg
              go_wp2
              go_roundw
              case rel => exact ⟨t + 1, by omega, by go_num, by rw [show roundsS (Wt (words b)) s (t + 1) = stepS S (K t) (Wt (words b) t) from by rw [HS.out]; rfl]; exact hE.setS _⟩
              case measure => simp [intOf]; omega
            · have hE : Env2 w.heap.size N w s.row z8 (wRow (Wt (words b)) 64) wr (roundsS (Wt (words b)) s 64).row := by
                have ht64 : t = 64 := by omega
                rw [ht64] at hE; exact hE
              obtain ⟨S, hS⟩ : ∃ S, S = roundsS (Wt (words b)) s 64 := ⟨_, rfl⟩
              have HS := Lib.hid hS
              rw [← hS] at hE
              clear hS
              go_wp2
              go_loopw [17] (fun i wr => ∃ t : Nat, t ≤ 8 ∧ i = .int .i64 t ∧ Env2 w.heap.size N w (addRow s S t) z8 (wRow (Wt (words b)) 64) wr S.row) (fun i _ => 8 - (intOf i).toNat)
              case atStart => exact ⟨0, by omega, rfl, by rw [addRow_zero]; exact hE⟩
              case round =>
                clear hE
                obtain ⟨t, ht, rfl, hE⟩ := hrel
                by_cases hlt : t < 8
                · have hc0 := hE.cell0 t _ (addRow_get s S t hlt)
                  have hc5 := hE.cell5 t _ (row_get S t hlt)
                  have lt : 0 ≤ (t : Int) ∧ (t : Int) < 8 := by omega
                  go_wp2
                  refine wp_region_still_tail 9 (by kernel_rfl) (by kernel_rfl) ?_
                  simp only [List.take_succ_cons, List.take_zero, List.drop_succ_cons, List.drop_zero]
                  repeat (refine wpStill_step (fun K hK => ?_); go_simp; (try go_bits); (try (rw [if_pos (by omega)]; go_simp)); refine hK _ ?_; clear hK K)
                  refine wpStill_nil ?_
                  change wpList _ _ _ _ _ (wr.drewN 1)
                  refine Env2.go hE _ (fun w2 => wpList _ _ _ _ _ w2) ?_
                  clear hc0 hc5 hE; intro wr hE
                  have hc0 := hE.cell0 t _ (addRow_get s S t hlt)
                  have hf := hE.free0 t
                  go_wp2
                  clear hc0 hf
                  go_roundw
                  case rel => exact ⟨t + 1, by omega, by go_num, by rw [← addRow_set s S t hlt]; rw [w_add]; exact hE.set0 rfl t _⟩
                  case measure => simp [intOf]; omega
                · have hE : Env2 w.heap.size N w (addS s S).row z8 (wRow (Wt (words b)) 64) wr S.row := by
                    have ht8 : t = 8 := by omega
                    rw [ht8, addRow_full] at hE; exact hE
                  go_wp2_with (first | (with_reducible refine wpList_load_row rfl 52 _ rfl w.heap.size rfl 52 (addS s S).row (0, 0) _ hE.b0 Try.underlying52 rfl (by rw [S8.row_size]; exact Try.size52) ?_) | (with_reducible refine wpList_store_row rfl 52 _ _ rfl (w.heap.size + 1) (addS s S).row rfl rfl 52 z8 hE.b1 (by rw [S8.row_size]; exact Try.size52) (by rw [S8.row_size, z8_size]) (S8.row_all _) ?_))
                  exact bodyPost_row rfl (w.heap.size + 1) 52 (addS s S).row _ rfl (setRow_heap _ _ _ _ _ _ hE.b1) Try.underlying52 rfl (by rw [S8.row_size]; exact Try.size52) ⟨by rw [HS.out]; rfl, hE.bel.trans ⟨rfl, rfl, rfl, by simp, fun k hk => setRow_other _ _ _ _ (by omega)⟩⟩
end Go.Proofs.Ytmcpobmmogeiiaa
