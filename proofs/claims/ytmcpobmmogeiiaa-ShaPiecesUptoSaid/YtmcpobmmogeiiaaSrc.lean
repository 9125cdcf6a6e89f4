/-
  Bytes that came in: a slice of whatever make; and 'append(own, bytes...)' by one law.
-/
import Derived.Test.YtmcpobmmogeiiaaLives
import Derived.Laws.AppendOwnNone
namespace Go.Proofs.Ytmcpobmmogeiiaa
open Go.RowKit

/-- the slice '.slice ao bs.length cap' holds the bytes bs. -/
structure BSrc (w : World) (ao : Option Addr) (cap : Nat) (bs : List By) : Prop where
  none : ao = none → bs = [] ∧ cap = 0
  cap : bs.length ≤ cap
  plain : 0 < bs.length → ∃ bk off, ao = some ⟨bk, off, Option.none⟩ ∧ bk < w.heap.size ∧ ∀ i, i < bs.length → w.cell? ⟨bk, off + i, Option.none⟩ = some (vB (bs.getD i 0))
theorem BSrc.below {w w' : World} {ao : Option Addr} {cap : Nat} {bs : List By} (h : BSrc w ao cap bs) {B : Nat} (hb : Below B w w') (hB : ∀ bk off, ao = some ⟨bk, off, Option.none⟩ → 0 < bs.length → bk < B) : BSrc w' ao cap bs where
  none := h.none
  cap := h.cap
  plain := fun hp => by
    obtain ⟨bk, off, h1, h2, h3⟩ := h.plain hp
    refine ⟨bk, off, h1, Nat.lt_of_lt_of_le h2 hb.size, fun i hi => ?_⟩
    rw [hb.cell (p := ⟨bk, off + i, Option.none⟩) (hB bk off h1 hp)]; exact h3 i hi
theorem BSrc.after {w w' : World} {ao : Option Addr} {cap : Nat} {bs : List By} (h : BSrc w ao cap bs) (hb : Below w.heap.size w w') : BSrc w' ao cap bs :=
  h.below hb fun bk off h1 hp => by
    obtain ⟨bk', off', h1', h2, _⟩ := h.plain hp
    have h1' := h1'
    rw [h1] at h1'
    cases h1'; exact h2
theorem BSrc.shasum {w : World} {ao : Option Addr} {cap : Nat} {bs : List By} (h : BSrc w ao cap bs) (hlen : bs.length ≤ 1152921504606846976) :
    Calls Try.prog 11 #[.slice ao bs.length cap] w fun e w' => e = .returned (.agg (sumRow (shaS bs))) ∧ Below w.heap.size w w' := by
  by_cases hp : 0 < bs.length
  · obtain ⟨bk, off, h1, h2, h3⟩ := h.plain hp
    exact shasum_any bs ao bk off cap w hlen h.cap (fun _ => h1) (fun _ => h2) h3
  · exact shasum_any bs ao 0 0 cap w hlen h.cap (fun h' => absurd h' hp) (fun h' => absurd h' hp) (fun i hi => by omega)
theorem BSrc.cells {w : World} {x : Addr} {cap : Nat} {bs : List By} (h : BSrc w (some x) cap bs) : ∀ j u, (bs.map vB)[j]? = some u → w.cell? (x.add j) = some u := by
  intro j u hu
  have hj : j < bs.length := by have := (List.getElem?_eq_some_iff.1 hu).1; simpa using this
  obtain ⟨bk, off, h1, _, h3⟩ := h.plain (by omega)
  cases h1
  rw [Addr.add_mid, h3 j hj, ← hu, List.getElem?_map, List.getD_eq_getElem?_getD, List.getElem?_eq_getElem hj]; rfl
theorem by_one' (bs : List By) : ∀ u ∈ bs.map vB, u.oneCell' = true := by
  intro u hu
  obtain ⟨b, _, rfl⟩ := List.mem_map.1 hu
  rfl

theorem wpList_append_src {P : Program} {w : World} {ops : Array Oper} {rest : List Oper} {o : Oper} {a : Act} {Q : Exit → Act → World → Prop} (hgd : o.guard = none) (s x : Operand) (t : TypeId)
    (ho : o.op = .call { callee := .builtin .append, args := #[s, x], argTypes := #[t, t] })
    (base : Nat) (e : TypeId) (i : TypeInfo) (z : Value) (ht : P.underlying t = some (.slice e)) (hi : P.info? e = some i) (hz : i.zero = some z)
    (hsize : i.size = 1) (hby : i.bytes = 1) (hzs : z.cells.size = 1)
    (v : Value) (n : Nat) (xs : List Value) (hs : a.eval s = v) (hown : w.ownsRow base e 1 v n xs)
    (ao : Option Addr) (cap : Nat) (bs : List By) (m : Nat) (hm : m = bs.length) (hx : a.eval x = .slice ao m cap) (hsrc : BSrc w ao cap bs)
    (hlen : n + bs.length ≤ 140737488355328) (hbase : base ≤ w.heap.size)
    (h : ∀ v' w', w'.ownsRow base e 1 v' (n + bs.length) (xs ++ bs.map vB) → w.grownBy w' v.ownBlock → (v ≠ .slice none 0 0 → v' ≠ .slice none 0 0) → wpList P ops Q rest (a.put o.dst v') w') : wpList P ops Q (o :: rest) a w := by
  subst hm
  cases ao with
  | none =>
    obtain ⟨rfl, rfl⟩ := hsrc.none rfl
    exact wpList_append_own_none hgd s x t ho base e i 1 ht hi v n xs hs hown hx (h v w (by simpa using hown) ⟨rfl, rfl, rfl, Nat.le_refl _, fun _ _ _ => rfl⟩ id)
  | some ad =>
    exact wpList_append_own w hgd s x t ho base e i z 1 1 ht hi hz hsize hby hzs (by decide) v n xs hs hown ad bs.length cap (bs.map vB) hx (by simp) hsrc.cells (by_one' bs) (by unfold maxLen; omega) (by omega) hbase
      fun v' w' h1 h2 h3 => h v' w' h1 h2 fun hv hv' => hv (h3.1 hv').1
end Go.Proofs.Ytmcpobmmogeiiaa
