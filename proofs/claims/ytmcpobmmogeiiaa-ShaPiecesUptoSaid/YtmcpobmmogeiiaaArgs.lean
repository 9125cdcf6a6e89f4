/-
  An argument of type [32]byte, opened.
-/
import Derived.Test.YtmcpobmmogeiiaaEq
import Derived.OpenShut
import Derived.WideShapes
namespace Go.Proofs.Ytmcpobmmogeiiaa
open Go.RowKit Go.WideShapes

theorem by_of_int (n : Int) (h : (Lit.int .u8 n).wf = true) : Value.int .u8 n = vB (BitVec.ofInt 8 n) := by
  have hb := bounds_u8 h
  unfold vB
  congr 1
  rw [BitVec.toNat_ofInt]; omega
theorem cells24 : Try.prog.cellsOf 24 = 32 := by kernel_rfl
theorem cells5 : Try.prog.cellsOf 5 = 1 := by kernel_rfl
theorem open24 {H : Type} {enc : TypeId × Value → H} {w : World} {base : Nat} {spare : Nat → Bool} {held : Bool} {fuel : Nat} {cs : List Value} {x : DataW H × List MemPlace}
    (h : DataW.trod enc Try.prog w base spare held fuel 24 cs = some x) : ∃ bs : List By, bs.length = 32 ∧ cs = (byRow bs).toList := by
  obtain ⟨xs, m, _, _, hl, hx, hf⟩ := DataW.trod_array Try.underlying24 h
  rw [cells24] at hl
  have key : ∀ i : Nat, i < 32 → cs[i]? = some (vB (BitVec.ofInt 8 (intOf (cs.getD i undef)))) := by
    intro i hi
    have h1 := hf i hi
    rw [cells5, Nat.mul_one, List.getElem?_eq_getElem (by omega)] at h1
    have h2 : (cs.drop i).take 1 = [cs[i]'(by omega)] := by
      rw [List.drop_eq_getElem_cons (by omega)]; rfl
    rw [h2] at h1
    obtain ⟨n, hn, _, hw⟩ := DataW.trod_int Try.underlying5 h1
    have hn : cs[i]'(by omega) = .int .u8 n := by simpa using hn
    have hg : cs.getD i undef = .int .u8 n := by rw [List.getD_eq_getElem?_getD, List.getElem?_eq_getElem (by omega), hn]; rfl
    rw [List.getElem?_eq_getElem (by omega), hg, hn]; exact congrArg some (by_of_int n hw)
  refine ⟨(List.range 32).map fun i => BitVec.ofInt 8 (intOf (cs.getD i undef)), by simp, ?_⟩
  apply List.ext_getElem?
  intro i
  by_cases hi : i < 32
  · rw [key i hi, Array.getElem?_toList, byRow, rowN_get _ _ _ hi]
    simp [List.getD_eq_getElem?_getD, hi]
  · rw [List.getElem?_eq_none (by omega), Array.getElem?_toList]
    rw [Array.getElem?_eq_none]
    rw [byRow_size]; omega
theorem okWide_row {w : World} {r : Reach} {base : Nat} {t : TypeId} {n : Nat} {e : TypeId} {v : Value} (ht : Try.prog.underlying t = some (.array n e)) (h : Value.okWide Try.prog w r base t v) : ∃ cs, v = .agg cs ∧ cs.size = Try.prog.cellsOf t := by
  unfold Value.okWide at h
  rw [ht] at h
  obtain ⟨cs, h1, h2, _⟩ := h
  exact ⟨cs, h1, h2⟩
theorem openRow24 {H : Type} {enc : TypeId × Value → H} {w : World} {r : Reach} {base base' : Nat} {spare : Nat → Bool} {held : Bool} {v : Value} {d : DataW H} {p : List MemPlace}
    (hv : Value.okWide Try.prog w r base' 24 v) (h : DataW.Trod enc Try.prog w base spare held 24 v d p) : ∃ bs : List By, bs.length = 32 ∧ v = .agg (byRow bs) := by
  obtain ⟨cs, rfl, _⟩ := okWide_row Try.underlying24 hv
  obtain ⟨fuel, hf⟩ := h
  obtain ⟨bs, hb, hc⟩ := open24 hf
  refine ⟨bs, hb, ?_⟩
  have : cs.toList = (byRow bs).toList := hc
  rw [Array.toList_inj.1 this]
end Go.Proofs.Ytmcpobmmogeiiaa
