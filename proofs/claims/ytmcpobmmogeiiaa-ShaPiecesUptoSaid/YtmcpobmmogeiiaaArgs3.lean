/-
  An argument of type []Piece, opened; and what the bound gives.
-/
import Derived.Test.YtmcpobmmogeiiaaPieces
import Derived.Test.YtmcpobmmogeiiaaArgs2
import Derived.Test.YtmcpobmmogeiiaaBulk
namespace Go.Proofs.Ytmcpobmmogeiiaa
open Go.RowKit Go.WideShapes Go.ChangeShapes

theorem DLen.bulk {H : Type} {d : DataW H} {n : Nat} (h : DLen d n) : n ≤ Rows.uptoBulk d := by
  rcases h with ⟨_, rfl⟩ | ⟨elems, spare, rfl, rfl⟩
  · omega
  · have := bulks.slice_le elems spare; omega
theorem cells34 : Try.prog.cellsOf 34 = 3 := by kernel_rfl
theorem cells22 : Try.prog.cellsOf 22 = 1 := by kernel_rfl
theorem cells4 : Try.prog.cellsOf 4 = 1 := by kernel_rfl
theorem open34 {H : Type} {enc : TypeId × Value → H} {w : World} {base : Nat} {fuel : Nat} {cs : List Value} {x : DataW H × List MemPlace}
    (h : DataW.trod enc Try.prog w base (fun _ => true) true fuel 34 cs = some x) : ∃ p : Pc, cs = [.slice p.ao p.bs.length p.cap, .bool p.copy, .bool p.ask] ∧ BSrc w p.ao p.cap p.bs ∧ p.bs.length ≤ Rows.uptoBulk x.1 := by
  obtain ⟨xs, n, _, rfl, hl, hx, hf⟩ := DataW.trod_struct Try.underlying34 h
  rw [cells34] at hl
  match cs, hl with
  | [c0, c1, c2], _ =>
    match xs, hx with
    | [x0, x1, x2], _ =>
      have h0 : DataW.trod enc Try.prog w base (fun _ => true) true n 22 [c0] = some x0 := hf 0 _ rfl
      have h1 : DataW.trod enc Try.prog w base (fun _ => true) true n 4 [c1] = some x1 := hf 1 _ rfl
      have h2 : DataW.trod enc Try.prog w base (fun _ => true) true n 4 [c2] = some x2 := hf 2 _ rfl
      obtain ⟨ao, cap, bs, e0, hb, hd⟩ := open22 h0
      obtain ⟨b1, e1, _⟩ := DataW.trod_bool Try.underlying4 h1
      obtain ⟨b2, e2, _⟩ := DataW.trod_bool Try.underlying4 h2
      cases e0; cases e1; cases e2
      refine ⟨⟨ao, cap, bs, b1, b2⟩, rfl, hb, ?_⟩
      have := hd.bulk
      simp only [List.map_cons, List.map_nil, Rows.uptoBulk, Rows.uptoBulkAll]
      omega

theorem bulk_sum {H : Type} : ∀ (ps : List Pc) (ds : List (DataW H)), ps.length = ds.length → (∀ (i : Nat) (p : Pc) (d : DataW H), ps[i]? = some p → ds[i]? = some d → p.bs.length ≤ Rows.uptoBulk d) → (ps.flatMap (·.bs)).length ≤ Rows.uptoBulkAll ds
  | [], _, _, _ => by simp
  | p :: ps, [], hl, _ => by simp at hl
  | p :: ps, d :: ds, hl, h => by
    have h0 := h 0 p d rfl rfl
    have ih := bulk_sum ps ds (by simpa using hl) (fun i p d hp hd => h (i + 1) p d hp hd)
    simp only [List.flatMap_cons, List.length_append, Rows.uptoBulkAll]
    omega
theorem three_at {w : World} {base : Nat} {a : Addr} {c0 c1 c2 : Value} (h : w.cells? base a 3 = some [c0, c1, c2]) : w.cell? a = some c0 ∧ w.cell? (a.add 1) = some c1 ∧ w.cell? (a.add 2) = some c2 := by
  unfold World.cells? at h
  split at h
  · have h0 := mapM_some_get h 0 0 rfl
    have h1 := mapM_some_get h 1 1 rfl
    have h2 := mapM_some_get h 2 2 rfl
    refine ⟨?_, h1, h2⟩
    have : a.add 0 = a := by simp [Addr.add]
    rw [this] at h0; exact h0
  · cases h
theorem open30 {H : Type} {enc : TypeId × Value → H} {w : World} {base : Nat} {fuel : Nat} {cs : List Value} {x : DataW H × List MemPlace}
    (h : DataW.trod enc Try.prog w base (fun _ => true) true fuel 30 cs = some x) : ∃ (ao : Option Addr) (cap : Nat) (ps : List Pc), cs = [.slice ao ps.length cap] ∧ PSrc w ao ps ∧ (bytesTo ps ps.length).length ≤ Rows.uptoBulk x.1 ∧ ps.length ≤ Rows.uptoBulk x.1 := by
  rcases DataW.trod_slice Try.underlying30 h with ⟨rfl, rfl⟩ | ⟨a, len, cap, elems, rest, n, _, rfl, rfl, _, _, _, hel, hf, _, _⟩
  · exact ⟨none, 0, [], rfl, ⟨fun h => by simp at h⟩, Nat.zero_le _, Nat.zero_le _⟩
  · rw [cells34] at hf
    have each : ∀ i : Fin len, ∃ p : Pc, (w.cell? (a.add (i.val * 3)) = some (.slice p.ao p.bs.length p.cap) ∧ w.cell? ((a.add (i.val * 3)).add 1) = some (.bool p.copy) ∧ w.cell? ((a.add (i.val * 3)).add 2) = some (.bool p.ask) ∧ BSrc w p.ao p.cap p.bs) ∧ ∀ y, elems[i.val]? = some y → p.bs.length ≤ Rows.uptoBulk y.1 := by
      intro i
      have h1 := hf i.val i.isLt
      obtain ⟨y, hy⟩ : ∃ y, elems[i.val]? = some y := ⟨elems[i.val]'(by omega), List.getElem?_eq_getElem _⟩
      rw [hy, Option.bind_eq_some_iff] at h1
      obtain ⟨cs', hc, ht⟩ := h1
      obtain ⟨p, rfl, hb, hl⟩ := open34 ht
      obtain ⟨k0, k1, k2⟩ := three_at hc
      exact ⟨p, ⟨k0, k1, k2, hb⟩, fun y' hy' => by rw [hy] at hy'; cases hy'; exact hl⟩
    have hps : ∀ i p, (List.ofFn fun i : Fin len => Classical.choose (each i))[i]? = some p → (w.cell? (a.add (i * 3)) = some (.slice p.ao p.bs.length p.cap) ∧ w.cell? ((a.add (i * 3)).add 1) = some (.bool p.copy) ∧ w.cell? ((a.add (i * 3)).add 2) = some (.bool p.ask) ∧ BSrc w p.ao p.cap p.bs) ∧ ∀ y, elems[i]? = some y → p.bs.length ≤ Rows.uptoBulk y.1 := by
      intro i p hp
      rw [List.getElem?_ofFn] at hp
      split at hp
      · rename_i hi
        rw [← Option.some.inj hp]
        exact Classical.choose_spec (each ⟨i, hi⟩)
      · cases hp
    have hplen : (List.ofFn fun i : Fin len => Classical.choose (each i)).length = len := List.length_ofFn
    generalize (List.ofFn fun i : Fin len => Classical.choose (each i)) = ps at hps hplen
    clear each
    subst hplen
    refine ⟨some a, cap, ps, rfl, ⟨fun hp => ?_⟩, ?_, ?_⟩
    · have h0 := (hps 0 _ (List.getElem?_eq_getElem hp)).1.1
      have hsp := World.cell?_spot h0
      have hbl := World.block_lt_of_cell? w _ h0
      obtain ⟨b, off, spot⟩ := a
      have hspot : spot = none := by simpa [Addr.add] using hsp
      subst hspot
      rw [Addr.add_mid] at hbl
      refine ⟨b, off, rfl, hbl, fun i p hpi => ?_⟩
      obtain ⟨k0, k1, k2, k3⟩ := (hps i p hpi).1
      rw [Addr.add_mid] at k0 k1 k2
      rw [Addr.add_mid] at k1 k2
      exact ⟨k0, k1, k2, k3⟩
    · have hs := bulk_sum ps (elems.map (·.1)) (by simp [hel]) (fun i p d hp hd => by
        rw [List.getElem?_map, Option.map_eq_some_iff] at hd
        obtain ⟨y, hy, rfl⟩ := hd
        exact (hps i p hp).2 y hy)
      have h2 := bulks.slice_elems (elems.map (·.1)) (rest.map (·.1))
      have e : bytesTo ps ps.length = ps.flatMap (·.bs) := by unfold bytesTo; rw [List.take_length]
      rw [e]
      show _ ≤ Rows.uptoBulk (.slice (elems.map (·.1)) (rest.map (·.1)))
      omega
    · have := bulks.slice_le (elems.map (·.1)) (rest.map (·.1))
      simp only [List.length_map] at this
      show _ ≤ Rows.uptoBulk (.slice (elems.map (·.1)) (rest.map (·.1)))
      omega
theorem openPieces {H : Type} {enc : TypeId × Value → H} {w w' : World} {r : Reach} {base base' : Nat} {v : Value} {d : DataW H} {p : List MemPlace}
    (hv : Value.okWide Try.prog w' r base' 30 v) (h : DataW.Trod enc Try.prog w base (fun _ => true) true 30 v d p) :
    ∃ (ao : Option Addr) (cap : Nat) (ps : List Pc), v = .slice ao ps.length cap ∧ PSrc w ao ps ∧ (bytesTo ps ps.length).length ≤ Rows.uptoBulk d ∧ ps.length ≤ Rows.uptoBulk d := by
  obtain ⟨a0, len0, cap0, rfl⟩ := okWide_slice Try.underlying30 hv
  obtain ⟨fuel, hf⟩ := h
  obtain ⟨ao, cap, ps, hc, hb, hd, hl⟩ := open30 hf
  have : [Value.slice a0 len0 cap0] = [Value.slice ao ps.length cap] := hc
  simp only [List.cons.injEq, and_true] at this
  exact ⟨ao, cap, ps, this, hb, hd, hl⟩
end Go.Proofs.Ytmcpobmmogeiiaa
