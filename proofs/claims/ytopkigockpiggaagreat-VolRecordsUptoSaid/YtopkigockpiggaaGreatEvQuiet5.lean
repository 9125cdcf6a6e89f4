/-
  Slicing.
-/
import Derived.Test.YtopkigockpiggaaGreatEvMem
set_option linter.unusedVariables false
set_option linter.unusedSimpArgs false
namespace Go.Ev
section
variable {R : Type} {P : Program} {B : Tab} {r : R}
theorem cutK_ok {k off size l h m : Nat} {c : Value → An R} (hq : cutK k off size l h m c = .ok r) : c (.slice (some ⟨k, if m = l then off else off + l * size, none⟩) (h - l) (m - l)) = .ok r := by
  unfold cutK at hq
  simp only [fN_eq] at hq
  exact hq
theorem cut_addr {b o k off l m size : Nat} : (some (if m = l then (⟨b, o + off, none⟩ : Addr) else (⟨b, o + off, none⟩ : Addr).add (l * size))) = some (⟨b, o + (if m = l then off else off + l * size), none⟩ : Addr) := by
  split
  · rfl
  · rw [add_none, Nat.add_assoc]
theorem cut_addr2 {b o off l m size : Nat} : (if m = l then some (⟨b, o + off, none⟩ : Addr) else Option.map (fun x => x.add (l * size)) (some (⟨b, o + off, none⟩ : Addr))) = some (⟨b, o + (if m = l then off else off + l * size), none⟩ : Addr) := by
  split
  · rfl
  · rw [Option.map_some, add_none, Nat.add_assoc]
theorem mx_eq {mx : Option Value} {m cap : Nat} (h : mx = none → m = cap) : (if mx.isSome then m else cap) = m := by
  cases mx with
  | none => exact (h rfl).symm
  | some v => rfl
theorem sliceK_ok (hB : TabOK P B) {t : TypeId} {x : Value} {lo hi mx : Option Value} {c : Value → An R} (hq : sliceK B t x lo hi mx c = .ok r) :
    ∃ v, c v = .ok r ∧ ∀ E w x' lo' hi' mx', VR E x x' → ORel E lo lo' → ORel E hi hi' → ORel E mx mx' → ∃ v', (Instr.sliceAt t x' lo' hi' mx').run P w = .ok v' w ∧ VR E v v' := by
  unfold sliceK at hq
  replace hq := und_ok hB hq
  obtain ⟨ds, hu, hq⟩ := hq
  split at hq
  · rename_i n elem
    split at hq
    case h_2 => exact absurd hq no_ok
    rename_i k off
    split at hq
    case h_2 => exact absurd hq no_ok
    rename_i hn
    have hn : n < 4611686018427387904 := Nat.le_of_ble_eq_true hn
    replace hq := boundsK_ok (P := P) hq
    obtain ⟨l, h, m, hq, hlh, hhm, hmc, hmn, hb⟩ := hq
    replace hq := info_ok hB hq
    obtain ⟨e, he, hq⟩ := hq
    replace hq := cutK_ok hq
    refine ⟨_, hq, fun E w x' lo' hi' mx' hx hl' hh' hm' => ?_⟩
    obtain ⟨en, hen, _, rfl⟩ := hx.inv_ptr
    refine ⟨_, ?_, .sl hen (Or.inl ⟨by omega, rfl⟩) (by have := hhm (Nat.le_refl _); omega)⟩
    simp only [Instr.sliceAt, Sem.run_bind, run_underlying hu, Result.andThen_ok, Instr.sureAddr, Sem.run_pure, hb E w false n lo' hi' mx' (Nat.le_refl _) hl' hh' hm', run_siz he, mx_eq hmn]
    rw [cut_addr (k := 0)]
  · split at hq
    case h_2 => exact absurd hq no_ok
    rename_i s
    replace hq := boundsK_ok (P := P) hq
    obtain ⟨l, h, m, hq, hlh, hhm, hmc, hmn, hb⟩ := hq
    rw [fL_eq] at hq
    refine ⟨_, hq, fun E w x' lo' hi' mx' hx hl' hh' hm' => ?_⟩
    obtain rfl := hx.inv_str
    have : mx' = none := by cases mx' with | none => rfl | some v => cases hm'
    subst this
    refine ⟨_, ?_, .flat rfl⟩
    have hbb := hb E w false s.length lo' hi' none (Nat.le_refl _) hl' hh' trivial
    have e1 : (ByteArray.mk ⟨s⟩).size = s.length := rfl
    simp only [Instr.sliceAt, Sem.run_bind, run_underlying hu, Result.andThen_ok, Instr.slice, Option.isSome_none, Bool.false_eq_true, if_false, e1, hbb, Sem.run_pure]
    congr 2
    apply ByteArray.ext
    apply Array.ext'
    simp [List.extract_eq_take_drop, List.drop_take]
  · rename_i elem
    split at hq
    · replace hq := boundsK_ok (P := P) hq
      obtain ⟨l, h, m, hq, hlh, hhm, hmc, hmn, hb⟩ := hq
      replace hq := info_ok hB hq
      obtain ⟨e, he, hq⟩ := hq
      refine ⟨_, hq, fun E w x' lo' hi' mx' hx hl' hh' hm' => ?_⟩
      obtain rfl := hx.inv_slnil
      refine ⟨_, ?_, .flat rfl⟩
      have h0 : h ≤ m := hhm (Nat.le_refl _)
      have hm0 : m = 0 := by omega
      have hl0 : l = 0 := by omega
      have hh0 : h = 0 := by omega
      subst hm0; subst hl0; subst hh0
      simp only [Instr.sliceAt, Sem.run_bind, run_underlying hu, Result.andThen_ok, Instr.slice, hb E w true 0 lo' hi' mx' (Nat.le_refl _) hl' hh' hm', run_siz he, Sem.run_pure]
      cases mx <;> simp
    · rename_i k off len cap
      replace hq := info_ok hB hq
      obtain ⟨e, he, hq⟩ := hq
      split at hq
      · rename_i hcap
        have hcap : cap < 4611686018427387904 := Nat.le_of_ble_eq_true hcap
        replace hq := boundsK_ok (P := P) hq
        obtain ⟨l, h, m, hq, hlh, hhm, hmc, hmn, hb⟩ := hq
        replace hq := cutK_ok hq
        refine ⟨_, hq, fun E w x' lo' hi' mx' hx hl' hh' hm' => ?_⟩
        obtain ⟨en, c', hen, hcr, hlc, rfl⟩ := hx.inv_sl
        have hc' : c' = cap := by rcases hcr with ⟨_, h⟩ | ⟨h, _⟩; exact h; omega
        subst hc'
        refine ⟨_, ?_, .sl hen (Or.inl ⟨by omega, rfl⟩) (by have := hhm hlc; omega)⟩
        simp only [Instr.sliceAt, Sem.run_bind, run_underlying hu, Result.andThen_ok, Instr.slice, hb E w true c' lo' hi' mx' (Nat.le_refl _) hl' hh' hm', run_siz he, Sem.run_pure, mx_eq hmn, cut_addr2]
      · rename_i hcap
        have hcap : 4611686018427387904 ≤ cap := by
          rcases Nat.lt_or_ge cap 4611686018427387904 with h | h
          · have : Nat.blt cap 4611686018427387904 = true := Nat.ble_eq_true_of_le h
            rw [this] at hcap; cases hcap
          · exact h
        split at hq
        · replace hq := boundsK_ok (P := P) hq
          obtain ⟨l, h, m, hq, hlh, hhm, hmc, hmn, hb⟩ := hq
          have hml := hmn rfl
          have hhl := hhm (Nat.le_refl _)
          have base : ∀ E w b o c' lo' hi' mx', len ≤ c' → ORel E lo lo' → ORel E hi hi' → ORel E none mx' →
              (Instr.sliceAt t (.slice (some ⟨b, o + off, none⟩) len c') lo' hi' mx').run P w = .ok (.slice (some ⟨b, o + (if c' = l then off else off + l * e.size), none⟩) (h - l) (c' - l)) w := fun E w b o c' lo' hi' mx' hlc hl' hh' hm' => by
            have : mx' = none := by cases mx' with | none => rfl | some v => cases hm'
            subst this
            simp only [Instr.sliceAt, Sem.run_bind, run_underlying hu, Result.andThen_ok, Instr.slice, hb E w true c' lo' hi' none hlc hl' hh' hm', run_siz he, Sem.run_pure, Option.isSome_none, Bool.false_eq_true, if_false, cut_addr2]
          split at hq
          · rename_i hll
            have hll := Nat.eq_of_beq_eq_true hll
            split at hq
            · rename_i hl0
              have hl0 := Nat.eq_of_beq_eq_true hl0
              subst hl0
              refine ⟨_, hq, fun E w x' lo' hi' mx' hx hl' hh' hm' => ?_⟩
              obtain ⟨en, c', hen, hcr, hlc, rfl⟩ := hx.inv_sl
              have hb2 := base E w en.b en.o c' lo' hi' mx' hlc hl' hh' hm'
              have h0 : h = 0 := by omega
              have hlen : len = 0 := by omega
              subst h0
              refine ⟨_, hb2, ?_⟩
              have e1 : (if c' = 0 then off else off + 0 * e.size) = off := by split <;> simp
              rw [e1, hlen]
              exact .sl hen (by simpa using hcr) (by omega)
            · refine ⟨_, hq, fun E w x' lo' hi' mx' hx hl' hh' hm' => ?_⟩
              obtain ⟨en, c', hen, hcr, hlc, rfl⟩ := hx.inv_sl
              have hb2 := base E w en.b en.o c' lo' hi' mx' hlc hl' hh' hm'
              refine ⟨_, hb2, ?_⟩
              rw [show h - l = 0 by omega]
              exact .vague
          · rename_i hll
            have hll : l ≠ len := fun x => by subst x; rw [Nat.beq_refl] at hll; cases hll
            split at hq
            case h_2 => exact absurd hq no_ok
            rename_i hcl
            have hcl : 4611686018427387904 + l ≤ cap := Nat.le_of_ble_eq_true hcl
            simp only [fN_eq] at hq
            refine ⟨_, hq, fun E w x' lo' hi' mx' hx hl' hh' hm' => ?_⟩
            obtain ⟨en, c', hen, hcr, hlc, rfl⟩ := hx.inv_sl
            have hb2 := base E w en.b en.o c' lo' hi' mx' hlc hl' hh' hm'
            rw [if_neg (by omega)] at hb2
            refine ⟨_, hb2, .sl hen (Or.inr ⟨by show _ ≤ cap - l; omega, ?_⟩) (by show h - l ≤ _; omega)⟩
            rcases hcr with ⟨h1, _⟩ | ⟨_, h2⟩
            · omega
            · show c' - l + TOP = en.cap + (cap - l)
              omega
        · split at hq
          case h_2 => exact absurd hq no_ok
          rename_i mv hlt
          have hlt : len < 4611686018427387904 := Nat.le_of_ble_eq_true hlt
          replace hq := boundsK_ok (P := P) hq
          obtain ⟨l, h, m, hq, hlh, hhm, hmc, hmn, hb⟩ := hq
          replace hq := cutK_ok hq
          refine ⟨_, hq, fun E w x' lo' hi' mx' hx hl' hh' hm' => ?_⟩
          obtain ⟨en, c', hen, hcr, hlc, rfl⟩ := hx.inv_sl
          have hhm := hhm (Nat.le_refl _)
          refine ⟨_, ?_, .sl hen (Or.inl ⟨by omega, rfl⟩) (by omega)⟩
          simp only [Instr.sliceAt, Sem.run_bind, run_underlying hu, Result.andThen_ok, Instr.slice, hb E w true c' lo' hi' mx' hlc hl' hh' hm', run_siz he, Sem.run_pure, Option.isSome_some, if_true, cut_addr2]
    · exact absurd hq no_ok
  · exact absurd hq no_ok
end
end Go.Ev
