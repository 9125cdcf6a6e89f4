/-
  Operations that only read.
-/
import Derived.Test.YtopkigockpiggaaGreatEvTabs
set_option linter.unusedVariables false
set_option linter.unusedSimpArgs false
namespace Go.Ev
section
variable {R : Type} {P : Program} {B : Tab} {r : R}
theorem loadAt_ok (hB : TabOK P B) {t : TypeId} {a : Value} {h : Hp} {c : Value → An R} (hq : loadAt B t a h c = .ok r) :
    ∃ v, c v = .ok r ∧ ∀ G E w a', WR G E h.t w → VR E a a' → ∃ v', (Instr.loadAt t a').run P w = .ok v' w ∧ VR E v v' := by
  unfold loadAt at hq
  split at hq
  case h_2 => exact absurd hq no_ok
  rename_i k off
  split at hq
  case h_2 => exact absurd hq no_ok
  rename_i n el ez ti pl d tr hk
  replace hq := und_ok hB hq
  obtain ⟨ds, hu, hq⟩ := hq
  split at hq
  · rename_i hag
    replace hq := info_ok hB hq
    obtain ⟨i, hi, hq⟩ := hq
    split at hq
    case h_2 => exact absurd hq no_ok
    rename_i hle
    have hle := Nat.le_of_ble_eq_true hle
    replace hq := cellsK_ok hq
    obtain ⟨l, hq, hl, hg⟩ := hq
    refine ⟨_, hq, fun G E w a' hw ha => ?_⟩
    obtain ⟨e, he, _, rfl⟩ := ha.inv_ptr
    obtain ⟨f, hf, hb, _⟩ := hw.blk k _ hk
    rw [he] at hf; cases hf
    obtain ⟨l', h1, h2, h3⟩ := cells_read (P := P) hb hle hl hg
    refine ⟨.agg ⟨l'⟩, ?_, .agg h1.1 h1.2⟩
    simp only [Instr.loadAt, Instr.sureAddr, Sem.run_bind, Sem.run_pure, Result.andThen_ok, loadVar, run_agg hu, hag, if_true, run_siz hi, h3]
  · rename_i hag
    split at hq
    case h_2 => exact absurd hq no_ok
    rename_i hlt
    have hlt := Nat.le_of_ble_eq_true hlt
    have key : c (blkGet d tr off) = .ok r := by
      split at hq
      · rename_i v hv; simp only [blkGet, hv]; exact hq
      · rename_i hv; simp only [blkGet, hv]; exact hq
    refine ⟨_, key, fun G E w a' hw ha => ?_⟩
    obtain ⟨e, he, _, rfl⟩ := ha.inv_ptr
    obtain ⟨f, hf, hb, _⟩ := hw.blk k _ hk
    rw [he] at hf; cases hf
    obtain ⟨v', h1, h2⟩ := hb.cells_at (i := off) hlt
    refine ⟨v', ?_, h2⟩
    simp only [Instr.loadAt, Instr.sureAddr, Sem.run_bind, Sem.run_pure, Result.andThen_ok, loadVar, run_agg hu, hag, Bool.false_eq_true, if_false, run_load, h1]
theorem addOff_ok {k off d : Nat} {c : Value → An R} (hq : addOff k off d c = .ok r) : c (.pointer (some ⟨k, off + d, none⟩)) = .ok r := by
  unfold addOff at hq; rw [fN_eq] at hq; exact hq
theorem fieldOff_ok (hB : TabOK P B) {s f : Nat} {c : Field → Nat → An R} (hq : fieldOff B s f c = .ok r) :
    ∃ fs fd i, P.underlying s = some (.struct fs) ∧ fs[f]? = some fd ∧ P.info? fd.type = some i ∧ c fd i.size = .ok r := by
  unfold fieldOff at hq
  replace hq := und_ok hB hq
  obtain ⟨ds, hu, hq⟩ := hq
  split at hq
  case h_2 => exact absurd hq no_ok
  rename_i fs
  split at hq
  case h_2 => exact absurd hq no_ok
  rename_i fd hfd
  replace hq := info_ok hB hq
  obtain ⟨i, hi, hq⟩ := hq
  rw [fN_eq] at hq
  exact ⟨fs, fd, i, hu, hfd, hi, hq⟩
theorem fieldAt_ok {E : Env} {s f : Nat} {fs : Array Field} {fd : Field} {i : TypeInfo} {z : Nat} (hu : P.underlying s = some (.struct fs)) (hf : fs[f]? = some fd) (hi : P.info? fd.type = some i) (hz : i.size = Nat.succ z)
    {k off : Nat} {a' : Value} {w : World} (ha : VR E (.pointer (some ⟨k, off, none⟩)) a') :
    ∃ v', (Instr.fieldAt s a' f).run P w = .ok v' w ∧ VR E (.pointer (some ⟨k, off + fd.offset, none⟩)) v' := by
  obtain ⟨e, he, _, rfl⟩ := ha.inv_ptr
  refine ⟨_, ?_, .ptr he⟩
  simp only [Instr.fieldAt, Instr.sureAddr, Sem.run_bind, run_underlying hu, Result.andThen_ok, hf, Sem.run_pure, fieldPlace, run_siz hi, hz, Nat.succ_ne_zero, if_false, add_none, Nat.add_assoc]
theorem indexAddrK_ok (hB : TabOK P B) {t : TypeId} {x ix : Value} {c : Value → An R} (hq : indexAddrK B t x ix c = .ok r) :
    ∃ v, c v = .ok r ∧ ∀ E w x' ix', VR E x x' → VR E ix ix' → ∃ v', (Instr.indexAt t x' ix').run P w = .ok v' w ∧ VR E v v' := by
  unfold indexAddrK at hq
  replace hq := asN_ok hq
  obtain ⟨kd, i, eix, hq⟩ := hq
  subst eix
  replace hq := und_ok hB hq
  obtain ⟨ds, hu, hq⟩ := hq
  split at hq
  · rename_i len elem
    split at hq
    case h_2 => exact absurd hq no_ok
    rename_i k off
    split at hq
    case h_2 => exact absurd hq no_ok
    rename_i hlt
    have hlt : i < len := Nat.le_of_ble_eq_true hlt
    replace hq := info_ok hB hq
    obtain ⟨e, he, hq⟩ := hq
    replace hq := addOff_ok hq
    refine ⟨_, hq, fun E w x' ix' hx hi => ?_⟩
    obtain ⟨en, hen, _, rfl⟩ := hx.inv_ptr
    obtain rfl := hi.inv_int
    refine ⟨_, ?_, .ptr hen⟩
    simp only [Instr.indexAt, asIntOf, Instr.sureAddr, Sem.run_bind, Sem.run_pure, Result.andThen_ok, run_underlying hu]
    have h0 : (0 : Int) ≤ Int.ofNat i ∧ Int.ofNat i < (len : Int) := ⟨Int.natCast_nonneg i, Int.ofNat_lt.2 hlt⟩
    rw [if_pos h0]
    simp only [Sem.run_bind, run_siz he, Result.andThen_ok, Sem.run_pure, add_none, Int.toNat_natCast, Int.ofNat_eq_natCast, Nat.add_assoc, Nat.mul_eq]
  · rename_i elem
    split at hq
    case h_2 => exact absurd hq no_ok
    rename_i k off len cap
    split at hq
    case h_2 => exact absurd hq no_ok
    rename_i hlt
    have hlt : i < len := Nat.le_of_ble_eq_true hlt
    replace hq := info_ok hB hq
    obtain ⟨e, he, hq⟩ := hq
    replace hq := addOff_ok hq
    refine ⟨_, hq, fun E w x' ix' hx hi => ?_⟩
    obtain ⟨en, c', hen, _, _, rfl⟩ := hx.inv_sl
    obtain rfl := hi.inv_int
    refine ⟨_, ?_, .ptr hen⟩
    simp only [Instr.indexAt, asIntOf, Sem.run_bind, Sem.run_pure, Result.andThen_ok, run_underlying hu]
    have h0 : (0 : Int) ≤ Int.ofNat i ∧ Int.ofNat i < (len : Int) := ⟨Int.natCast_nonneg i, Int.ofNat_lt.2 hlt⟩
    rw [if_pos h0]
    simp only [Sem.run_bind, run_siz he, Result.andThen_ok, Sem.run_pure, add_none, Int.toNat_natCast, Int.ofNat_eq_natCast, Nat.add_assoc, Nat.mul_eq]
  · exact absurd hq no_ok
theorem partK_ok (hB : TabOK P B) {t : TypeId} {l : List Value} {off : Nat} {c : Value → An R} (hq : partK B t l off c = .ok r) :
    ∃ v, c v = .ok r ∧ ∀ E w l', LR E l l' → ∃ v', (part t ⟨l'⟩ off).run P w = .ok v' w ∧ VR E v v' := by
  unfold partK at hq
  replace hq := und_ok hB hq
  obtain ⟨ds, hu, hq⟩ := hq
  split at hq
  · rename_i hag
    replace hq := info_ok hB hq
    obtain ⟨i, hi, hq⟩ := hq
    split at hq
    case h_2 => exact absurd hq no_ok
    rename_i hle
    rw [fL_eq] at hq
    refine ⟨_, hq, fun E w l' hl => ?_⟩
    have h2 := (hl.drop off).take i.size
    refine ⟨_, ?_, .agg h2.1 h2.2⟩
    simp only [part, Sem.run_bind, run_agg hu, hag, Result.andThen_ok, if_true, run_siz hi, Sem.run_pure]
    congr 2
    apply Array.ext'
    simp [List.extract_eq_take_drop]
  · rename_i hag
    split at hq
    case h_2 => exact absurd hq no_ok
    rename_i v hv
    refine ⟨_, hq, fun E w l' hl => ?_⟩
    obtain ⟨v', h1, h2⟩ := hl.get hv
    refine ⟨v', ?_, h2⟩
    simp [part, run_agg hu, hag, h1]
theorem indexK_ok (hB : TabOK P B) {t : TypeId} {x ix : Value} {c : Value → An R} (hq : indexK B t x ix c = .ok r) :
    ∃ v, c v = .ok r ∧ ∀ E w x' ix', VR E x x' → VR E ix ix' → ∃ v', (Instr.index t x' ix').run P w = .ok v' w ∧ VR E v v' := by
  unfold indexK at hq
  replace hq := asN_ok hq
  obtain ⟨kd, i, eix, hq⟩ := hq
  subst eix
  replace hq := und_ok hB hq
  obtain ⟨ds, hu, hq⟩ := hq
  split at hq
  · rename_i len elem
    split at hq
    case h_2 => exact absurd hq no_ok
    rename_i l
    split at hq
    case h_2 => exact absurd hq no_ok
    rename_i hlt
    have hlt : i < len := Nat.le_of_ble_eq_true hlt
    replace hq := info_ok hB hq
    obtain ⟨e, he, hq⟩ := hq
    replace hq := partK_ok hB hq
    obtain ⟨v, hq, hv⟩ := hq
    refine ⟨_, hq, fun E w x' ix' hx hi => ?_⟩
    obtain ⟨l', hl, rfl⟩ := hx.inv_agg
    obtain rfl := hi.inv_int
    obtain ⟨v', h1, h2⟩ := hv E w l' hl
    refine ⟨v', ?_, h2⟩
    simp only [Instr.index, asIntOf, Sem.run_bind, Sem.run_pure, Result.andThen_ok, run_underlying hu]
    have h0 : (0 : Int) ≤ Int.ofNat i ∧ Int.ofNat i < (len : Int) := ⟨Int.natCast_nonneg i, Int.ofNat_lt.2 hlt⟩
    rw [if_pos h0]
    simpa only [Sem.run_bind, run_siz he, Result.andThen_ok, Int.toNat_natCast, Int.ofNat_eq_natCast, Nat.mul_eq] using h1
  · split at hq
    case h_2 => exact absurd hq no_ok
    rename_i l
    split at hq
    case h_2 => exact absurd hq no_ok
    rename_i b hb
    rw [fN_eq] at hq
    refine ⟨_, hq, fun E w x' ix' hx hi => ?_⟩
    obtain rfl := hx.inv_str
    obtain rfl := hi.inv_int
    refine ⟨_, ?_, .flat rfl⟩
    have h0 : (0 : Int) ≤ Int.ofNat i := Int.natCast_nonneg i
    have h1 : (ByteArray.mk ⟨l⟩)[(Int.ofNat i).toNat]? = some b := by
      have hlt : i < l.length := (List.getElem?_eq_some_iff.1 hb).1
      have : i < (ByteArray.mk ⟨l⟩).size := hlt
      rw [Int.ofNat_eq_natCast, Int.toNat_natCast, getElem?_pos (ByteArray.mk ⟨l⟩) i this]
      congr 1
      exact (List.getElem?_eq_some_iff.1 hb).2
    simp only [Instr.index, asIntOf, Sem.run_bind, Sem.run_pure, Result.andThen_ok, run_underlying hu, h0, if_true, h1]
    rfl
  · exact absurd hq no_ok
end
end Go.Ev
