/-
  What the evaluator's looking up says of the program; operands.
-/
import Derived.Test.YtopkigockpiggaaGreatEvRel
set_option linter.unusedVariables false
set_option linter.unusedSimpArgs false
namespace Go.Ev
structure TabOK (P : Program) (B : Tab) : Prop where
  ty : ∀ t i, B.ty.find t = some i → P.info? t = some i
  un : ∀ t d, B.un.find t = some d → P.underlying t = some d
  ext : ∀ f, B.ext.contains f = true → ∀ t b es clock (w : World), w.heap[b]? = some (.map es clock) →
    (callFunc f ⟨[.iface t (.map (some b))]⟩).run P w = .ok (.value (.iface t (.map (some w.heap.size)))) { w with heap := w.heap.push (.map es clock) }
  fn : ∀ f fd, B.fn.find f = some fd → P.funcs[f]? = some fd ∧ (fd.name == "runtime.NumGoroutine") = false
  plain : ∀ t, B.plain.contains t = true → P.stoodInHeld t = false ∧ P.eqGuardType P.depth t = false
section
variable {R : Type} {P : Program} {B : Tab} {r : R}
theorem no_ok {n : Nat} : ¬ ((no n : An R) = .ok r) := fun h => by cases h
theorem fN_eq (n : Nat) (c : Nat → An R) : fN n c = c n := by cases n <;> rfl
theorem fL_eq {α : Type} : ∀ (l : List α) (c : List α → An R), fL l c = c l
  | [], c => rfl
  | a :: l, c => fL_eq l (fun r => c (a :: r))
theorem fV_ok {v : Value} {c : Value → An R} (h : fV v c = .ok r) : c v = .ok r ∧ isFlat v = true := by
  unfold fV at h
  split at h
  · rw [fN_eq] at h; exact ⟨h, rfl⟩
  · rw [fN_eq] at h; exact ⟨h, rfl⟩
  · exact ⟨h, rfl⟩
  · exact ⟨h, rfl⟩
  · exact absurd h no_ok
theorem fS_ok {s : Sem Value} {c : Value → An R} (h : fS s c = .ok r) : ∃ v, s = .pure v ∧ c v = .ok r ∧ isFlat v = true := by
  unfold fS at h
  split at h
  · obtain ⟨h1, h2⟩ := fV_ok h; exact ⟨_, rfl, h1, h2⟩
  · exact absurd h no_ok
theorem info_ok (hB : TabOK P B) {t : TypeId} {c : TypeInfo → An R} (h : info B t c = .ok r) : ∃ i, P.info? t = some i ∧ c i = .ok r := by
  unfold info at h
  cases hi : B.ty.find t with
  | none => rw [hi] at h; exact absurd h no_ok
  | some i => rw [hi] at h; exact ⟨i, hB.ty t i hi, h⟩
theorem und_ok (hB : TabOK P B) {t : TypeId} {c : TypeDesc → An R} (h : und B t c = .ok r) : ∃ d, P.underlying t = some d ∧ c d = .ok r := by
  unfold und at h
  cases hi : B.un.find t with
  | none => rw [hi] at h; exact absurd h no_ok
  | some i => rw [hi] at h; exact ⟨i, hB.un t i hi, h⟩
theorem run_siz {t : TypeId} {i : TypeInfo} (h : P.info? t = some i) (w : World) : (sizeOf t).run P w = .ok i.size w := by
  simp [sizeOf, typeInfo, h]
theorem run_inf {t : TypeId} {i : TypeInfo} (h : P.info? t = some i) (w : World) : (typeInfo t).run P w = .ok i w := by
  simp [typeInfo, h]
theorem run_agg {t : TypeId} {d : TypeDesc} (h : P.underlying t = some d) (w : World) : (isAgg t).run P w = .ok (isAggD d) w := by
  unfold isAgg
  simp only [Sem.run_bind, run_underlying h, Result.andThen_ok]
  cases d <;> rfl
theorem run_zro {t : TypeId} {i : TypeInfo} {v : Value} (h : P.info? t = some i) (hz : i.zero = some v) (w : World) : (zeroValue t).run P w = .ok v w := by
  simp [zeroValue, typeInfo, h, hz]
/-- what an operand is. -/
noncomputable def OpR (E : Env) (tm : T Value) (x : Operand) (v' : Value) : Prop :=
  match x with
  | .tmp t => VR E (tmGet tm t) v'
  | .const v => v' = v
  | .func f => v' = .func (.func f) #[] #[]
  | .global _ => True
theorem opd_ok {tm : T Value} {x : Operand} {c : Value → An R} (h : opd tm x c = .ok r) : ∃ v, c v = .ok r ∧ ∀ E v', OpR E tm x v' → VR E v v' := by
  rw [opd_eq] at h
  unfold opd' at h
  split at h
  · rename_i t
    split at h
    · rename_i v hv; exact ⟨v, h, fun E v' hx => by simp only [OpR, tmGet, hv] at hx; exact hx⟩
    · rename_i hv; exact ⟨_, h, fun E v' hx => by simp only [OpR, tmGet, hv] at hx; exact hx⟩
  · rename_i v
    split at h
    · rename_i hf; exact ⟨v, h, fun E v' hx => by simp only [OpR] at hx; subst hx; rw [isFlatF_eq] at hf; exact .flat hf⟩
    · exact absurd h no_ok
  · rename_i f; exact ⟨_, h, fun E v' hx => by simp only [OpR] at hx; subst hx; exact .flat rfl⟩
  · exact absurd h no_ok
theorem opds_ok {tm : T Value} : ∀ {xs : List Operand} {c : List Value → An R}, opds tm xs c = .ok r →
    ∃ vs, c vs = .ok r ∧ ∀ E (ρ : Operand → Value), (∀ x ∈ xs, OpR E tm x (ρ x)) → LR E vs (xs.map ρ)
  | [], c, h => ⟨[], h, fun E ρ _ => LR.nil E⟩
  | x :: xs, c, h => by
    replace h : opd tm x (fun v => opds tm xs fun vs => c (v :: vs)) = .ok r := h
    obtain ⟨v, h, hv⟩ := opd_ok h
    obtain ⟨vs, h, hvs⟩ := opds_ok h
    exact ⟨v :: vs, h, fun E ρ hx => .cons (hv E _ (hx x (by simp))) (hvs E ρ (fun y hy => hx y (by simp [hy])))⟩
theorem asN_ok {v : Value} {c : Nat → An R} (h : asN v c = .ok r) : ∃ k n, v = .int k (Int.ofNat n) ∧ c n = .ok r := by
  unfold asN at h
  split at h
  · exact ⟨_, _, rfl, h⟩
  · exact absurd h no_ok
theorem add_none (b o n : Nat) : (⟨b, o, none⟩ : Addr).add n = ⟨b, o + n, none⟩ := by unfold Addr.add; split <;> simp_all
/-! cells of a block -/
theorem cellsK_ok {d : Value} {t : T Value} : ∀ {m i : Nat} {c : List Value → An R}, cellsK d t m i c = .ok r →
    ∃ l : List Value, c l = .ok r ∧ l.length = m ∧ ∀ j : Nat, j < m → l[j]? = some (blkGet d t (i + j))
  | 0, i, c, h => ⟨[], h, rfl, fun j hj => by omega⟩
  | m + 1, i, c, h => by
    replace h : Option.rec (motive := fun _ => An R) (cellsK d t m (Nat.succ i) fun l => c (d :: l)) (fun v => cellsK d t m (Nat.succ i) fun l => c (v :: l)) (t.find i) = .ok r := h
    have key : ∃ l : List Value, c (blkGet d t i :: l) = .ok r ∧ l.length = m ∧ ∀ j : Nat, j < m → l[j]? = some (blkGet d t (Nat.succ i + j)) := by
      cases hv : t.find i with
      | some v =>
        rw [hv] at h
        obtain ⟨l, h1, h2, h3⟩ := cellsK_ok h
        exact ⟨l, by simp only [blkGet, hv]; exact h1, h2, h3⟩
      | none =>
        rw [hv] at h
        obtain ⟨l, h1, h2, h3⟩ := cellsK_ok h
        exact ⟨l, by simp only [blkGet, hv]; exact h1, h2, h3⟩
    obtain ⟨l, h1, h2, h3⟩ := key
    refine ⟨_, h1, by simp [h2], fun j hj => ?_⟩
    cases j with
    | zero => rfl
    | succ j => rw [List.getElem?_cons_succ, h3 j (by omega), show Nat.succ i + j = i + (j + 1) by omega]
/-- a block's cells, in the world. -/
theorem BR.cells_at {E : Env} {n elem esz : Nat} {ti pl : Bool} {d : Value} {t : T Value} {e : Ent} {w : World} (h : BR E (.cells n elem esz ti pl d t) e w.heap[e.b]?) {i : Nat} (hi : i < n) :
    ∃ v', w.cell? ⟨e.b, e.o + i, none⟩ = some v' ∧ VR E (blkGet d t i) v' := by
  obtain ⟨c, fr, h1, h2, _⟩ := h
  obtain ⟨v', h3, h4⟩ := h2 i hi
  exact ⟨v', by simp [World.cell?, h1, h3], h4⟩
theorem BR.cells_list {E : Env} {n elem esz : Nat} {ti pl : Bool} {d : Value} {t : T Value} {e : Ent} {w : World} (h : BR E (.cells n elem esz ti pl d t) e w.heap[e.b]?) (m i : Nat) (hi : i + m ≤ n) :
    ∃ l' : List Value, l'.length = m ∧ (∀ (j : Nat) (v' : Value), l'[j]? = some v' → w.cell? ⟨e.b, e.o + i + j, none⟩ = some v') ∧ ∀ (j : Nat) (v' : Value), l'[j]? = some v' → VR E (blkGet d t (i + j)) v' := by
  induction m with
  | zero => exact ⟨[], rfl, fun j v' h => by simp at h, fun j v' h => by simp at h⟩
  | succ m ih =>
    obtain ⟨l', h1, h2, h3⟩ := ih (by omega)
    obtain ⟨v', h4, h5⟩ := h.cells_at (i := i + m) (by omega)
    refine ⟨l' ++ [v'], by simp [h1], fun j u hj => ?_, fun j u hj => ?_⟩
    · rw [List.getElem?_append] at hj
      split at hj
      · exact h2 j u hj
      · rename_i hlt
        have : j = m := by
          have := (List.getElem?_eq_some_iff.1 hj).1; simp at this; omega
        subst this
        simp [h1] at hj; subst hj
        rw [show e.o + i + j = e.o + (i + j) by omega]; exact h4
    · rw [List.getElem?_append] at hj
      split at hj
      · exact h3 j u hj
      · have : j = m := by
          have := (List.getElem?_eq_some_iff.1 hj).1; simp at this; omega
        subst this
        simp [h1] at hj; subst hj
        exact h5
/-- what is read of a block: m cells. -/
theorem cells_read {E : Env} {n elem esz : Nat} {ti pl : Bool} {d : Value} {t : T Value} {e : Ent} {w : World} (h : BR E (.cells n elem esz ti pl d t) e w.heap[e.b]?) {m i : Nat} (hi : i + m ≤ n) {l : List Value}
    (hl : l.length = m) (hg : ∀ j : Nat, j < m → l[j]? = some (blkGet d t (i + j))) :
    ∃ l' : List Value, LR E l l' ∧ l'.length = m ∧ (loadCells ⟨e.b, e.o + i, none⟩ m).run P w = .ok ⟨l'⟩ w := by
  obtain ⟨l', h1, h2, h3⟩ := h.cells_list m i hi
  refine ⟨l', ⟨by omega, fun j v v' x y => ?_⟩, h1, ?_⟩
  · have hj : j < m := by rw [← h1]; exact (List.getElem?_eq_some_iff.1 y).1
    rw [hg j hj] at x; cases x
    exact h3 j v' y
  · have := run_loadCells_list (P := P) w ⟨e.b, e.o + i, none⟩ l' (fun j v hv => by rw [add_none]; exact h2 j v hv)
    rw [h1] at this
    exact this
end
end Go.Ev
