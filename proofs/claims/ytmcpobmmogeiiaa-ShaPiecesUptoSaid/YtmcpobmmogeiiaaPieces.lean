/-
  Pieces of bytes: the walk of the law ShaPieces.
-/
import Derived.Test.YtmcpobmmogeiiaaCopy
import Derived.Test.YtmcpobmmogeiiaaSumsWalk
namespace Go.Proofs.Ytmcpobmmogeiiaa
open Go.RowKit

structure Pc where
  ao : Option Addr
  cap : Nat
  bs : List By
  copy : Bool
  ask : Bool
/-- the slice '.slice ao ps.length cap' holds the pieces ps. -/
structure PSrc (w : World) (ao : Option Addr) (ps : List Pc) : Prop where
  plain : 0 < ps.length → ∃ bk off, ao = some ⟨bk, off, none⟩ ∧ bk < w.heap.size ∧
    ∀ i p, ps[i]? = some p → w.cell? ⟨bk, off + i * 3, none⟩ = some (.slice p.ao p.bs.length p.cap) ∧ w.cell? ⟨bk, off + i * 3 + 1, none⟩ = some (.bool p.copy) ∧ w.cell? ⟨bk, off + i * 3 + 2, none⟩ = some (.bool p.ask) ∧ BSrc w p.ao p.cap p.bs
def bytesTo (ps : List Pc) (t : Nat) : List By := (ps.take t).flatMap (·.bs)
theorem bytesTo_zero (ps : List Pc) : bytesTo ps 0 = [] := rfl
theorem bytesTo_succ (ps : List Pc) (t : Nat) (p : Pc) (h : ps[t]? = some p) : bytesTo ps (t + 1) = bytesTo ps t ++ p.bs := by
  obtain ⟨ht, rfl⟩ := List.getElem?_eq_some_iff.1 h
  unfold bytesTo
  rw [List.take_succ_eq_append_getElem ht, List.flatMap_append]
  simp
theorem bytesTo_le (ps : List Pc) (t : Nat) : (bytesTo ps t).length ≤ (bytesTo ps ps.length).length := by
  unfold bytesTo
  rw [List.take_length]
  conv => rhs; rw [← List.take_append_drop t ps, List.flatMap_append, List.length_append]
  omega

/-- the hasher at block g holds L, the call's own row v holds A. -/
structure PSt (w wr : World) (g : Nat) (v : Value) (L A : List By) : Prop where
  ok : HOK g wr L
  own : wr.ownsRow w.heap.size 5 1 v A.length (A.map vB)
  ge : w.heap.size ≤ g
  bel : Below w.heap.size w wr
theorem HOK.type {g : Nat} {w : World} {L : List By} (h : HOK g w L) : ∃ c, w.heap[g]? = some (.cells c 58 (0, 0)) := by
  obtain ⟨S, R, n, h⟩ := h
  exact ⟨_, h.obj.obj⟩
theorem HOK.lt {g : Nat} {w : World} {L : List By} (h : HOK g w L) : g < w.heap.size := by
  obtain ⟨S, R, n, h⟩ := h
  exact h.obj.lt
theorem HOK.same {g : Nat} {w w' : World} {L : List By} (h : HOK g w L) (hb : w'.heap[g]? = w.heap[g]?) : HOK g w' L := by
  obtain ⟨S, R, n, h⟩ := h
  exact ⟨S, R, n, ⟨⟨by rw [hb]; exact h.obj.obj, h.obj.len⟩, h.st, h.hn, h.rest⟩⟩
theorem own_ne {g : Nat} {w : World} {L : List By} {base : Nat} {v : Value} {n : Nat} {xs : List Value} (h : HOK g w L) (ho : w.ownsRow base 5 1 v n xs) : v.ownBlock ≠ some g := by
  intro hv
  obtain ⟨c, hc⟩ := h.type
  rcases ho.2 with ⟨rfl, _⟩ | ⟨g', cap, cur, rfl, _, hg, _⟩
  · cases hv
  · simp only [Value.ownBlock, Option.some.injEq] at hv
    subst hv
    rw [hc] at hg
    cases hg
theorem own_same {w w' : World} {base : Nat} {v : Value} {n : Nat} {xs : List Value} (ho : w.ownsRow base 5 1 v n xs) (h : ∀ k, v.ownBlock = some k → w'.heap[k]? = w.heap[k]?) : w'.ownsRow base 5 1 v n xs := by
  refine ⟨ho.1, ?_⟩
  rcases ho.2 with h1 | ⟨g, cap, cur, rfl, hb, hg, hr⟩
  · exact .inl h1
  · exact .inr ⟨g, cap, cur, rfl, hb, by rw [h g rfl]; exact hg, hr⟩
theorem PSt.below {w wr w2 : World} {g : Nat} {v : Value} {L A : List By} (h : PSt w wr g v L A) (hb : Below wr.heap.size wr w2) : PSt w w2 g v L A where
  ok := h.ok.same (hb.block g h.ok.lt)
  own := own_same h.own fun k hk => hb.block k (h.own.lt k hk).2
  ge := h.ge
  bel := h.bel.trans (hb.mono h.bel.size)
theorem PSt.write {w wr w2 : World} {g : Nat} {v : Value} {L A M : List By} (h : PSt w wr g v L A) (hk : Keeps g wr w2) (hok : HOK g w2 M) : PSt w w2 g v M A where
  ok := hok
  own := own_same h.own fun k hk2 => hk.block k (h.own.lt k hk2).2 (fun e => own_ne h.ok h.own (by rw [hk2, e]))
  ge := h.ge
  bel := h.bel.trans ⟨hk.os, hk.tape, hk.output, hk.size, fun k hkk => hk.block k (Nat.lt_of_lt_of_le hkk h.bel.size) (by have := h.ge; omega)⟩
theorem PSt.other {w wr w2 : World} {g go : Nat} {v : Value} {L A : List By} (h : PSt w wr g v L A) (hk : Keeps go wr w2) (h1 : go ≠ g) (h2 : v.ownBlock ≠ some go) (h3 : w.heap.size ≤ go) : PSt w w2 g v L A where
  ok := h.ok.same (hk.block g h.ok.lt (fun e => h1 e.symm))
  own := own_same h.own fun k hk2 => hk.block k (h.own.lt k hk2).2 (fun e => h2 (by rw [hk2, e]))
  ge := h.ge
  bel := h.bel.trans ⟨hk.os, hk.tape, hk.output, hk.size, fun k hkk => hk.block k (Nat.lt_of_lt_of_le hkk h.bel.size) (by omega)⟩
theorem PSt.app {w wr w2 : World} {g : Nat} {v v2 : Value} {L A M : List By} (h : PSt w wr g v L A) (hg : wr.grownBy w2 v.ownBlock) (ho : w2.ownsRow w.heap.size 5 1 v2 M.length (M.map vB)) : PSt w w2 g v2 L M where
  ok := h.ok.same (hg.block g h.ok.lt (fun e => own_ne h.ok h.own e.symm))
  own := ho
  ge := h.ge
  bel := h.bel.grown hg h.bel.size (fun k hk => (h.own.lt k hk).1)
end Go.Proofs.Ytmcpobmmogeiiaa
