/-
  Reading of slices; slicing; lengths; conversions that make nothing.
-/
import Derived.Test.YtopkigockpiggaaGreatEvQuiet3
import Derived.Laws.BytesString
set_option linter.unusedVariables false
set_option linter.unusedSimpArgs false
namespace Go.Ev
section
variable {R : Type} {P : Program} {B : Tab} {r : R}
theorem loadCells_zero (a : Addr) (w : World) : (loadCells a 0).run P w = .ok #[] w := rfl
/-- a slice's first cells. -/
theorem firstK_ok {size n : Nat} {x : Value} {h : Hp} {c : List Value → An R} (hq : firstK size n x h c = .ok r) :
    ∃ l, c l = .ok r ∧ ((∀ s, x ≠ .string s) → l.length = n * size) ∧ ∀ G E w x', WR G E h.t w → VR E x x' → ∃ l', LR E l l' ∧ (Builtin.firstCells size n x').run P w = .ok ⟨l'⟩ w := by
  unfold firstK at hq
  split at hq
  · rename_i k off len cap
    split at hq
    · rename_i hn
      have hn := Nat.eq_of_beq_eq_true hn
      subst hn
      refine ⟨[], hq, fun _ => by simp, fun G E w x' hw hx => ?_⟩
      obtain ⟨e, c', he, _, _, rfl⟩ := hx.inv_sl
      exact ⟨[], LR.nil E, by simp [Builtin.firstCells, loadCells_zero]⟩
    · split at hq
      case h_2 => exact absurd hq no_ok
      rename_i m el ez ti pl d tr hk
      split at hq
      case h_2 => exact absurd hq no_ok
      rename_i hle
      have hle := Nat.le_of_ble_eq_true hle
      obtain ⟨l, hq, hl, hg⟩ := cellsK_ok hq
      refine ⟨l, hq, fun _ => by simpa using hl, fun G E w x' hw hx => ?_⟩
      obtain ⟨e, c', he, _, _, rfl⟩ := hx.inv_sl
      obtain ⟨f, hf, hb, _⟩ := hw.blk k _ hk
      rw [he] at hf; cases hf
      obtain ⟨l', h1, h2, h3⟩ := cells_read (P := P) hb hle hl hg
      exact ⟨l', h1, h3⟩
  · split at hq
    case h_2 => exact absurd hq no_ok
    rename_i hn
    have hn := Nat.eq_of_beq_eq_true hn
    subst hn
    refine ⟨[], hq, fun _ => by simp, fun G E w x' hw hx => ?_⟩
    obtain rfl := hx.inv_slnil
    exact ⟨[], LR.nil E, by simp [Builtin.firstCells]⟩
  · split at hq
    case h_2 => exact absurd hq no_ok
    rename_i hn
    have hn := Nat.eq_of_beq_eq_true hn
    subst hn
    refine ⟨[], hq, fun _ => by simp, fun G E w x' hw hx => ?_⟩
    obtain ⟨_, a, c', rfl⟩ := hx.inv_vague
    cases a with
    | none => exact ⟨[], LR.nil E, by simp [Builtin.firstCells]⟩
    | some a => exact ⟨[], LR.nil E, by simp [Builtin.firstCells, loadCells_zero]⟩
  · rename_i l
    rw [fL_eq] at hq
    refine ⟨_, hq, fun hs => absurd rfl (hs _), fun G E w x' hw hx => ?_⟩
    obtain rfl := hx.inv_str
    refine ⟨_, LR.flats E _ (fun v hv => by obtain ⟨b, _, rfl⟩ := List.mem_map.1 hv; rfl), ?_⟩
    have he : (ByteArray.extract ⟨⟨l⟩⟩ 0 n).data.toList = l.take n := by simp
    simp only [Builtin.firstCells, Sem.run_pure]
    congr 1
    apply Array.ext'
    simp only [Array.toList_map, he]
    rfl
  · exact absurd hq no_ok
theorem toBytes_ok : ∀ {l : List Value} {c : List UInt8 → An R}, toBytes l c = .ok r → ∃ ns : List Int, l = ns.map (Value.int .u8) ∧ c (ns.map fun n => UInt8.ofNat n.toNat) = .ok r
  | [], c, h => ⟨[], rfl, h⟩
  | v :: l, c, h => by
    unfold toBytes at h
    split at h
    · rename_i e; cases e
    · rename_i n r' e
      cases e
      obtain ⟨ns, h1, h2⟩ := toBytes_ok h
      exact ⟨Int.ofNat n :: ns, by rw [h1]; rfl, h2⟩
    · exact absurd h no_ok
theorem push_bytes : ∀ (ns : List Int) (acc : ByteArray), ns.foldl (fun r n => r.push (UInt8.ofNat n.toNat)) acc = ⟨⟨acc.data.toList ++ ns.map fun n => UInt8.ofNat n.toNat⟩⟩
  | [], acc => by simp
  | n :: ns, acc => by
    simp only [List.foldl_cons, List.map_cons]
    rw [push_bytes ns]
    simp
theorem LR.ints {E : Env} {k : IntKind} {ns : List Int} {l' : List Value} (h : LR E (ns.map (Value.int k)) l') : l' = ns.map (Value.int k) := by
  apply List.ext_getElem?
  intro i
  cases hv : (ns.map (Value.int k))[i]? with
  | none => rw [List.getElem?_eq_none_iff] at hv; rw [List.getElem?_eq_none]; rw [← h.1]; exact hv
  | some v =>
    obtain ⟨v', h4, h5⟩ := h.get hv
    rw [List.getElem?_map] at hv
    cases hn : ns[i]? with
    | none => rw [hn] at hv; cases hv
    | some n => rw [hn] at hv; cases hv; rw [h4, h5.inv_int]
theorem bytesStr_ok {x : Value} {h : Hp} {c : Value → An R} (hq : bytesStr x h c = .ok r) :
    ∃ v, c v = .ok r ∧ isFlat v = true ∧ ∀ G E w x', WR G E h.t w → VR E x x' → (Conv.bytesToString x').run P w = .ok v w := by
  unfold bytesStr at hq
  split at hq
  · refine ⟨_, hq, rfl, fun G E w x' hw hx => ?_⟩
    obtain rfl := hx.inv_slnil
    simp [Conv.bytesToString]; rfl
  · rename_i a len cap
    obtain ⟨l, hq, hl, hrun⟩ := firstK_ok (P := P) hq
    replace hq := toBytes_ok hq
    obtain ⟨ns, rfl, hq⟩ := hq
    refine ⟨_, hq, rfl, fun G E w x' hw hx => ?_⟩
    obtain ⟨l', h1, h2⟩ := hrun G E w x' hw hx
    obtain rfl := h1.ints
    have key : ∃ a' cap', x' = .slice a' len cap' := by
      obtain ⟨k, o, s⟩ := a
      cases s with
      | none => obtain ⟨e, c', _, _, _, rfl⟩ := hx.inv_sl; exact ⟨_, _, rfl⟩
      | some s => obtain ⟨rfl, a, c', rfl⟩ := hx.inv_vague; exact ⟨_, _, rfl⟩
    obtain ⟨a', cap', rfl⟩ := key
    cases a' with
    | none =>
      simp only [Builtin.firstCells, Sem.run_pure, Result.ok.injEq, and_true] at h2
      have : ns = [] := by have := congrArg Array.toList h2; simpa using this.symm
      subst this
      simp [Conv.bytesToString]; rfl
    | some a' =>
      simp only [Builtin.firstCells, Nat.mul_one] at h2
      rw [run_bytesToString w a' len cap' ns h2, push_bytes]
      rfl
  · exact absurd hq no_ok
theorem lenK_ok (hB : TabOK P B) {x : Value} {t : TypeId} {h : Hp} {c : Value → An R} (hq : lenK B x t h c = .ok r) :
    ∃ v, c v = .ok r ∧ isFlat v = true ∧ ∀ G E w x' (ts : Array TypeId) ty, ts[0]? = some t → WR G E h.t w → VR E x x' → (Builtin.len_ ts ty #[x']).run P w = .ok v w := by
  unfold lenK at hq
  replace hq := und_ok hB hq
  obtain ⟨ds, hu, hq⟩ := hq
  split at hq
  · split at hq
    case h_2 => exact absurd hq no_ok
    rename_i l
    rw [fN_eq] at hq
    refine ⟨_, hq, rfl, fun G E w x' ts ty ht hw hx => ?_⟩
    obtain rfl := hx.inv_str
    simp [Builtin.len_, ht, run_underlying hu, goInt]; rfl
  · refine ⟨_, hq, rfl, fun G E w x' ts ty ht hw hx => ?_⟩
    simp [Builtin.len_, ht, run_underlying hu, goInt]
  · split at hq
    case h_2 => exact absurd hq no_ok
    rename_i a n cap
    refine ⟨_, hq, rfl, fun G E w x' ts ty ht hw hx => ?_⟩
    have key : ∃ a' cap', x' = .slice a' n cap' := by
      cases a with
      | none => exact ⟨_, _, hx.inv_slnil⟩
      | some a =>
        obtain ⟨k, o, s⟩ := a
        cases s with
        | none => obtain ⟨e, c', _, _, _, rfl⟩ := hx.inv_sl; exact ⟨_, _, rfl⟩
        | some s => obtain ⟨rfl, a, c', rfl⟩ := hx.inv_vague; exact ⟨_, _, rfl⟩
    obtain ⟨a', cap', rfl⟩ := key
    simp [Builtin.len_, ht, run_underlying hu, goInt]
  · split at hq
    · refine ⟨_, hq, rfl, fun G E w x' ts ty ht hw hx => ?_⟩
      obtain rfl := hx.inv_mapnil
      simp [Builtin.len_, ht, run_underlying hu, goInt]
    · rename_i k
      split at hq
      case h_2 => exact absurd hq no_ok
      rename_i es ck hk
      rw [fN_eq] at hq
      refine ⟨_, hq, rfl, fun G E w x' ts ty ht hw hx => ?_⟩
      obtain ⟨e, he, rfl⟩ := hx.inv_map
      obtain ⟨f, hf, hb, _⟩ := hw.blk k _ hk
      rw [he] at hf; cases hf
      obtain ⟨es', ho, her⟩ := hb
      simp [Builtin.len_, ht, run_underlying hu, goInt, getObj, Sem.run, ho, her.length]
    · exact absurd hq no_ok
  · exact absurd hq no_ok
theorem bound_run {y i : Nat} {k : IntKind} {code : BoundsCode} {w : World} (h : i ≤ y) : (Instr.sliceBound (.int k (Int.ofNat i)) y code).run P w = .ok i w := by
  have h0 : (0 : Int) ≤ Int.ofNat i ∧ Int.ofNat i ≤ (y : Int) := ⟨Int.natCast_nonneg i, Int.ofNat_le.2 h⟩
  simp only [Instr.sliceBound, asIntOf, Sem.run_bind, Sem.run_pure, Result.andThen_ok, if_pos h0]
  rfl
/-- options of values. -/
noncomputable def ORel (E : Env) : Option Value → Option Value → Prop
  | none, none => True
  | some v, some v' => VR E v v'
  | _, _ => False
theorem boundK_ok {x : Option Value} {d top : Nat} {c : Nat → An R} (hq : boundK x d top c = .ok r) :
    ∃ i, c i = .ok r ∧ ((x = none ∧ i = d) ∨ (∃ k, x = some (.int k (Int.ofNat i)) ∧ i ≤ top)) := by
  unfold boundK at hq
  split at hq
  · exact ⟨_, hq, Or.inl ⟨rfl, rfl⟩⟩
  · rename_i v
    obtain ⟨k, i, e, hq2⟩ := asN_ok hq
    split at hq2
    case h_2 => exact absurd hq2 no_ok
    rename_i hle
    exact ⟨i, hq2, Or.inr ⟨k, by rw [e], Nat.le_of_ble_eq_true hle⟩⟩
/-- the bounds come out the same in the world, where there is as much room or more. -/
theorem boundsK_ok {len cap : Nat} {lo hi mx : Option Value} {c : Nat → Nat → Nat → An R} (hq : boundsK len cap lo hi mx c = .ok r) :
    ∃ l h m, c l h m = .ok r ∧ l ≤ h ∧ (len ≤ cap → h ≤ m) ∧ m ≤ cap ∧ (mx = none → m = cap) ∧ ∀ E w b cap' lo' hi' mx', cap ≤ cap' → ORel E lo lo' → ORel E hi hi' → ORel E mx mx' →
      (Instr.sliceBounds b len cap' lo' hi' mx').run P w = .ok (l, h, if mx.isSome then m else cap') w := by
  unfold boundsK at hq
  have hno : ¬ (hi = none ∧ ∃ v, mx = some v) := by
    rintro ⟨rfl, v, rfl⟩
    exact absurd hq no_ok
  have hq : (boundK mx cap cap fun m => boundK hi len m fun h => boundK lo 0 h fun l => c l h m) = .ok r := by
    split at hq
    · exact absurd hq no_ok
    · exact hq
  obtain ⟨m, hq, hm⟩ := boundK_ok hq
  obtain ⟨h, hq, hh⟩ := boundK_ok hq
  obtain ⟨l, hq, hl⟩ := boundK_ok hq
  have hmc : m ≤ cap := by rcases hm with ⟨_, rfl⟩ | ⟨_, _, h⟩ <;> omega
  have hlh : l ≤ h := by rcases hl with ⟨_, rfl⟩ | ⟨_, _, h⟩ <;> omega
  refine ⟨l, h, m, hq, hlh, fun hlc => ?_, hmc, fun hn => ?_, fun E w b cap' lo' hi' mx' hcc hlo hhi hmx => ?_⟩
  · rcases hh with ⟨hn, rfl⟩ | ⟨_, _, h⟩
    · rcases hm with ⟨_, rfl⟩ | ⟨k, e, _⟩
      · exact hlc
      · exact absurd ⟨hn, _, e⟩ hno
    · exact h
  · subst hn; rcases hm with ⟨_, h⟩ | ⟨_, h, _⟩
    · exact h
    · cases h
  · have fin0 : lo' = none → l = 0 := fun e => by
      subst e
      rcases hl with ⟨_, h⟩ | ⟨k, rfl, _⟩
      · exact h
      · cases hlo
    have fin1 : ∀ v, lo' = some v → ∃ k, v = .int k (Int.ofNat l) ∧ l ≤ h := fun v e => by
      subst e
      rcases hl with ⟨rfl, _⟩ | ⟨k, rfl, hle⟩
      · cases hlo
      · exact ⟨k, VR.inv_int hlo, hle⟩
    clear hlo hl
    rcases hm with ⟨rfl, rfl⟩ | ⟨km, rfl, hmle⟩
    · cases mx' with
      | some v => cases hmx
      | none =>
        rcases hh with ⟨rfl, rfl⟩ | ⟨kh, rfl, hhle⟩
        · cases hi' with
          | some v => cases hhi
          | none =>
            simp only [Instr.sliceBounds, Sem.run_bind, Sem.run_pure, Result.andThen_ok]
            cases lo' with
            | none => obtain rfl := fin0 rfl; rfl
            | some v => obtain ⟨k, rfl, hle⟩ := fin1 v rfl; simp only [Sem.run_bind]; rw [bound_run hle]; rfl
        · cases hi' with
          | none => cases hhi
          | some v =>
            obtain rfl := VR.inv_int hhi
            simp only [Instr.sliceBounds, Sem.run_bind, Sem.run_pure, Result.andThen_ok]
            rw [bound_run (Nat.le_trans hhle hcc)]
            simp only [Result.andThen_ok]
            cases lo' with
            | none => obtain rfl := fin0 rfl; rfl
            | some v => obtain ⟨k, rfl, hle⟩ := fin1 v rfl; simp only [Sem.run_bind]; rw [bound_run hle]; rfl
    · cases mx' with
      | none => cases hmx
      | some v =>
        obtain rfl := VR.inv_int hmx
        rcases hh with ⟨rfl, rfl⟩ | ⟨kh, rfl, hhle⟩
        · exact absurd ⟨rfl, _, rfl⟩ hno
        · cases hi' with
          | none => cases hhi
          | some v =>
            obtain rfl := VR.inv_int hhi
            simp only [Instr.sliceBounds, Sem.run_bind]
            rw [bound_run (Nat.le_trans hmle hcc)]
            simp only [Result.andThen_ok]
            rw [bound_run hhle]
            simp only [Result.andThen_ok]
            cases lo' with
            | none => obtain rfl := fin0 rfl; rfl
            | some v => obtain ⟨k, rfl, hle⟩ := fin1 v rfl; simp only [Sem.run_bind]; rw [bound_run hle]; rfl
end
end Go.Ev
