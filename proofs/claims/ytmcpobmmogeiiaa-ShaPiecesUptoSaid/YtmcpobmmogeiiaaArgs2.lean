/-
  An argument of type []byte, opened.
-/
import Derived.Test.YtmcpobmmogeiiaaSrc
import Derived.Test.YtmcpobmmogeiiaaArgs
import Derived.SizedLaws
namespace Go.Proofs.Ytmcpobmmogeiiaa
open Go.RowKit Go.WideShapes Go.ChangeShapes

/-- a slice's datum is as long as the slice. -/
def DLen {H : Type} (d : DataW H) (n : Nat) : Prop := (d = .nil ∧ n = 0) ∨ ∃ elems spare, d = .slice elems spare ∧ elems.length = n
theorem bsrc_of {w : World} {x : Addr} {len cap : Nat} {zs : List Int} (hl : len ≤ cap) (hz : zs.length = cap) (hc : ∀ i, i < zs.length → w.cell? (x.add i) = some (.int .u8 (zs.getD i 0))) (hw : ∀ n ∈ zs, (Lit.int .u8 n).wf = true) :
    ∃ bs : List By, bs.length = len ∧ BSrc w (some x) cap bs := by
  have hg : ∀ i, i < len → ((zs.take len).map (BitVec.ofInt 8)).getD i 0 = BitVec.ofInt 8 (zs.getD i 0) := by
    intro i hi
    simp [List.getD_eq_getElem?_getD, List.getElem?_take_of_lt hi, List.getElem?_eq_getElem (show i < zs.length by omega)]
  have hlen : ((zs.take len).map (BitVec.ofInt 8)).length = len := by simp; omega
  refine ⟨(zs.take len).map (BitVec.ofInt 8), hlen, ⟨(fun h => by cases h), by omega, fun hp => ?_⟩⟩
  obtain ⟨b, off, rfl, hcell⟩ := ints_at hc (by omega)
  refine ⟨b, off, rfl, ?_, fun i hi => ?_⟩
  · exact World.block_lt_of_cell? w _ (hcell 0 (by omega))
  · have hi : i < len := by omega
    rw [hcell i (by omega), hg i hi, ← by_of_int _ (hw _ _)]
    rw [List.getD_eq_getElem?_getD, List.getElem?_eq_getElem (show i < zs.length by omega)]
    exact List.getElem_mem _
theorem open22 {H : Type} {enc : TypeId × Value → H} {w : World} {base : Nat} {fuel : Nat} {cs : List Value} {x : DataW H × List MemPlace}
    (h : DataW.trod enc Try.prog w base (fun _ => true) true fuel 22 cs = some x) : ∃ ao cap, ∃ bs : List By, cs = [.slice ao bs.length cap] ∧ BSrc w ao cap bs ∧ DLen x.1 bs.length := by
  rcases open_ints Try.underlying22 Try.underlying5 cells5 h with ⟨rfl, rfl⟩ | ⟨a, len, cap, zs, rfl, _, hl, _, hz, rfl, hc, hw⟩
  · exact ⟨none, 0, [], rfl, ⟨fun _ => ⟨rfl, rfl⟩, Nat.le_refl _, fun h => by simp at h⟩, .inl ⟨rfl, rfl⟩⟩
  · simp only [if_true] at hz
    obtain ⟨bs, rfl, hb⟩ := bsrc_of hl hz hc hw
    exact ⟨some a, cap, bs, rfl, hb, .inr ⟨_, _, rfl, by simp [lits]; omega⟩⟩
theorem openBytes {H : Type} {enc : TypeId × Value → H} {w w' : World} {r : Reach} {base base' : Nat} {v : Value} {d : DataW H} {p : List MemPlace}
    (hv : Value.okWide Try.prog w' r base' 22 v) (h : DataW.Trod enc Try.prog w base (fun _ => true) true 22 v d p) : ∃ ao cap, ∃ bs : List By, v = .slice ao bs.length cap ∧ BSrc w ao cap bs ∧ DLen d bs.length := by
  obtain ⟨a0, len0, cap0, rfl⟩ := okWide_slice Try.underlying22 hv
  obtain ⟨fuel, hf⟩ := h
  obtain ⟨ao, cap, bs, hc, hb, hd⟩ := open22 hf
  have : [Value.slice a0 len0 cap0] = [Value.slice ao bs.length cap] := hc
  simp only [List.cons.injEq, and_true] at this
  exact ⟨ao, cap, bs, this, hb, hd⟩
theorem bytes5 : Try.prog.bytesOf 5 = 1 := by kernel_rfl
theorem DLen.reach {H : Type} {ts : List TypeId} {ds : List (DataW H)} {j : Nat} {d : DataW H} {n : Nat} (hd : DLen d n) (h : (DataW.weightsEach Try.prog ts ds).all (· ≤ reachBytes) = true) (ht : ts[j]? = some 22) (hj : ds[j]? = some d) : n ≤ 140737488351232 := by
  rcases hd with ⟨_, rfl⟩ | ⟨elems, spare, rfl, rfl⟩
  · omega
  · have := sized_slice h ht hj Try.underlying22
    rw [bytes5] at this
    unfold reachBytes at this; omega
end Go.Proofs.Ytmcpobmmogeiiaa
