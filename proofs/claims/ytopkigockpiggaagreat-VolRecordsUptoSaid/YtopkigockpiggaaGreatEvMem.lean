/-
  Cells laid down: in a trie, in a row.
-/
import Derived.Test.YtopkigockpiggaaGreatEvQuiet4
set_option linter.unusedVariables false
set_option linter.unusedSimpArgs false
namespace Go.Ev
section
variable {R : Type} {P : Program} {B : Tab} {r : R}
theorem blkGet_put (d : Value) (t : T Value) (k : Nat) (v : Value) (j : Nat) : blkGet d (t.put k (some v)) j = if j = k then v else blkGet d t j := by
  unfold blkGet; rw [T.find_put]; by_cases h : j = k <;> simp [h]
theorem putCells_ok : ∀ {vs : List Value} {off : Nat} {t : T Value} {c : T Value → An R}, putCells vs off t c = .ok r →
    ∃ t', c t' = .ok r ∧ (∀ v ∈ vs, cellOk v = true) ∧ ∀ (d : Value) (i : Nat), blkGet d t' i = if off ≤ i ∧ i < off + vs.length then vs.getD (i - off) d else blkGet d t i
  | [], off, t, c, h => ⟨t, h, fun v hv => by simp at hv, fun d i => by rw [if_neg]; simp only [List.length_nil]; omega⟩
  | v :: vs, off, t, c, h => by
    replace h : Bool.rec (motive := fun _ => An R) (no 8) (t.putK (some v) off fun t => putCells vs (Nat.succ off) t c) (cellOk v) = .ok r := h
    cases hok : cellOk v with
    | false => rw [hok] at h; exact absurd h no_ok
    | true =>
    rw [hok] at h
    replace h : (t.putK (some v) off fun t => putCells vs (Nat.succ off) t c) = .ok r := h
    rw [T.putK_eq] at h
    obtain ⟨t', h1, h2, h3⟩ := putCells_ok h
    refine ⟨t', h1, fun u hu => ?_, fun d i => ?_⟩
    · rcases List.mem_cons.1 hu with rfl | hu
      · exact hok
      · exact h2 u hu
    · rw [h3, blkGet_put]
      by_cases e : i = off
      · subst e
        rw [if_neg (by omega), if_pos rfl, if_pos (by simp)]
        simp
      · by_cases e2 : Nat.succ off ≤ i ∧ i < Nat.succ off + vs.length
        · rw [if_pos e2, if_pos (by simp; omega)]
          obtain ⟨j, rfl⟩ : ∃ j, i = off + 1 + j := ⟨i - (off + 1), by omega⟩
          rw [show off + 1 + j - Nat.succ off = j by omega, show off + 1 + j - off = j + 1 by omega]
          simp
        · rw [if_neg e2, if_neg e, if_neg (by simp; omega)]
theorem okB_put {n off : Nat} {d : Value} {t t' : T Value} {vs : List Value} (hok : ∀ v ∈ vs, cellOk v = true)
    (ht : ∀ (d : Value) (i : Nat), blkGet d t' i = if off ≤ i ∧ i < off + vs.length then vs.getD (i - off) d else blkGet d t i)
    (ho : ∀ i, i < n → ¬ (off ≤ i ∧ i < off + vs.length) → cellOk (blkGet d t i) = true) : okB n d t' := by
  intro i hi
  rw [ht]
  split
  · rename_i h
    have h2 : i - off < vs.length := by omega
    rw [List.getD_eq_getElem?_getD, List.getElem?_eq_getElem h2]
    exact hok _ (List.getElem_mem h2)
  · rename_i h
    exact ho i hi h
theorem okB_new {n : Nat} {d : Value} {t' : T Value} {vs : List Value} (hok : ∀ v ∈ vs, cellOk v = true) (hn : n ≤ vs.length)
    (ht : ∀ (d : Value) (i : Nat), blkGet d t' i = if 0 ≤ i ∧ i < 0 + vs.length then vs.getD (i - 0) d else blkGet d .nil i) : okB n d t' :=
  okB_put (t := .nil) hok ht (fun i hi h => absurd ⟨Nat.zero_le _, by omega⟩ h)
/-- the cells of a value. -/
theorem cellsOf_ok {E : Env} {v v' : Value} (h : VR E v v') : LR E (cellsOf v) v'.cells.toList := by
  cases v with
  | agg l => obtain ⟨l⟩ := l; obtain ⟨l', h1, rfl⟩ := h.inv_agg; exact h1
  | _ =>
    all_goals (
      have hn : ∀ l, v' ≠ .agg l := fun l e => by subst e; obtain ⟨m, hm⟩ := h.agg_inv; cases hm
      have : v'.cells = #[v'] := by cases v' <;> first | rfl | exact absurd rfl (hn _)
      rw [this]
      exact .cons h (LR.nil E))
theorem cellOk_one {E : Env} {v v' : Value} (h : VR E v v') (hv : cellOk v = true) : v'.oneCell' = true := by
  cases h <;> first | rfl | assumption | (simp [cellOk] at hv) | skip
  all_goals (rename_i hf; cases v <;> first | rfl | (simp [cellOk] at hv))
/-- a row that agrees with a trie. -/
noncomputable def CR (E : Env) (d : Value) (t : T Value) (cells : Array Value) : Prop := ∀ (i : Nat) (v' : Value), cells[i]? = some v' → VR E (blkGet d t i) v'
theorem CR.mono {E E' : Env} (h : E.le E') {d : Value} {t : T Value} {cells : Array Value} (c : CR E d t cells) : CR E' d t cells := fun i v' x => (c i v' x).mono h
/-- a run of cells is put into a row. -/
noncomputable def setRun (cells : Array Value) (off : Nat) : List Value → Array Value
  | [] => cells
  | v :: vs => setRun (cells.setIfInBounds off v) (off + 1) vs
theorem setRun_size : ∀ (vs : List Value) (cells : Array Value) (off : Nat), (setRun cells off vs).size = cells.size
  | [], _, _ => rfl
  | v :: vs, cells, off => by rw [setRun, setRun_size vs]; simp
theorem setRun_get : ∀ (vs : List Value) (cells : Array Value) (off : Nat) (i : Nat), off + vs.length ≤ cells.size → (setRun cells off vs)[i]? = if off ≤ i ∧ i < off + vs.length then vs[i - off]? else cells[i]?
  | [], cells, off, i, h => by rw [if_neg (by simp only [List.length_nil]; omega)]; rfl
  | v :: vs, cells, off, i, h => by
    rw [setRun, setRun_get vs _ _ _ (by simp at h ⊢; omega)]
    by_cases e : i = off
    · subst e
      rw [if_neg (by omega), if_pos (by simp), Array.getElem?_setIfInBounds]
      simp at h
      simp [show i < cells.size by omega]
    · by_cases e2 : off + 1 ≤ i ∧ i < off + 1 + vs.length
      · rw [if_pos e2, if_pos (by simp; omega)]
        obtain ⟨j, rfl⟩ : ∃ j, i = off + 1 + j := ⟨i - (off + 1), by omega⟩
        rw [show off + 1 + j - (off + 1) = j by omega, show off + 1 + j - off = j + 1 by omega]
        simp
      · rw [if_neg e2, if_neg (by simp; omega), Array.getElem?_setIfInBounds, if_neg (fun x => e x.symm)]
theorem CR.setRun {E : Env} {d : Value} {t t' : T Value} {cells : Array Value} {off : Nat} {vs vs' : List Value} (h : CR E d t cells) (hl : LR E vs vs') (hb : off + vs.length ≤ cells.size)
    (ht : ∀ (d : Value) (i : Nat), blkGet d t' i = if off ≤ i ∧ i < off + vs.length then vs.getD (i - off) d else blkGet d t i) : CR E d t' (Ev.setRun cells off vs') := by
  intro i v' hv
  rw [setRun_get _ _ _ _ (by rw [← hl.1]; exact hb)] at hv
  rw [ht]
  by_cases e : off ≤ i ∧ i < off + vs.length
  · rw [if_pos (by rw [← hl.1]; exact e)] at hv
    rw [if_pos e]
    have hi : i - off < vs.length := by omega
    rw [List.getD_eq_getElem?_getD, List.getElem?_eq_getElem hi]
    exact hl.2 _ _ _ (List.getElem?_eq_getElem hi) hv
  · rw [if_neg (by rw [← hl.1]; exact e)] at hv
    rw [if_neg e]
    exact h i v' hv
theorem fold_setRun : ∀ (vs : List Value) (cells : Array Value) (off j : Nat), (vs.zipIdx j).foldl (fun cs (c, j) => cs.setIfInBounds (off + j) c) cells = setRun cells (off + j) vs
  | [], _, _, _ => rfl
  | v :: vs, cells, off, j => by
    simp only [List.zipIdx_cons, List.foldl_cons, setRun]
    rw [fold_setRun vs _ off (j + 1)]
    rfl
theorem zipIdx_fold (a : Array Value) (cells : Array Value) (off : Nat) : a.zipIdx.foldl (fun cs (c, j) => cs.setIfInBounds (off + j) c) cells = setRun cells off a.toList := by
  rw [← Array.foldl_toList, Array.toList_zipIdx]
  exact fold_setRun a.toList cells off 0
/-- parts. -/
noncomputable def PR (E : Env) : List (Nat × Value) → List (Nat × Value) → Prop
  | [], [] => True
  | (i, v) :: r, (j, v') :: r' => i = j ∧ VR E v v' ∧ PR E r r'
  | _, _ => False
theorem PR.zip {E : Env} : ∀ {is : List Nat} {vs vs' : List Value}, LR E vs vs' → PR E (is.zip vs) (is.zip vs')
  | [], vs, vs', h => by simp [PR]
  | i :: is, [], vs', h => by rw [h.unnil]; simp [PR]
  | i :: is, v :: vs, vs', h => by obtain ⟨v', b, rfl, hv, hr⟩ := h.uncons; exact ⟨rfl, hv, PR.zip hr⟩
theorem buildPut_ok {n : Nat} {places : Nat → Option (Nat × Nat)} : ∀ {parts : List (Nat × Value)} {t : T Value} {c : T Value → An R}, buildPut n places parts t c = .ok r →
    ∃ t', c t' = .ok r ∧ (∀ N d, okB N d t → okB N d t') ∧ ∀ E cells parts', cells.size = n → CR E undef t cells → PR E parts parts' → ∃ cells', Instr.fill places cells parts' = some cells' ∧ cells'.size = n ∧ CR E undef t' cells'
  | [], t, c, h => ⟨t, h, fun _ _ x => x, fun E cells parts' hn hc hp => by
    cases parts' with
    | nil => exact ⟨cells, rfl, hn, hc⟩
    | cons x y => exact absurd hp (by simp [PR])⟩
  | (i, v) :: parts, t, c, h => by
    unfold buildPut at h
    split at h
    case h_2 => exact absurd h no_ok
    rename_i off size hpl
    split at h
    case h_2 => exact absurd h no_ok
    rename_i hb
    rw [Bool.and_eq_true] at hb
    have h1 := Nat.eq_of_beq_eq_true hb.1
    have h2 : off + size ≤ n := Nat.le_of_ble_eq_true hb.2
    obtain ⟨t1, h, hok1, ht1⟩ := putCells_ok h
    obtain ⟨t2, h, hk2, ht2⟩ := buildPut_ok h
    refine ⟨t2, h, fun N d x => hk2 N d (okB_put hok1 ht1 (fun i hi _ => x i hi)), fun E cells parts' hn hc hp => ?_⟩
    cases parts' with
    | nil => exact absurd hp (by simp [PR])
    | cons x y =>
      obtain ⟨j, v'⟩ := x
      obtain ⟨rfl, hv, hp⟩ := hp
      have hl := cellsOf_ok hv
      have hsz : v'.cells.size = size := by rw [← h1, hl.1]; simp
      have hc' := hc.setRun (off := off) hl (by rw [h1, hn]; exact h2) ht1
      obtain ⟨cells', h3, h4, h5⟩ := ht2 E _ y (by rw [setRun_size]; exact hn) hc' hp
      refine ⟨cells', ?_, h4, h5⟩
      simp only [Instr.fill, hpl, hsz, ne_eq, not_true, decide_false, Bool.false_or, zipIdx_fold]
      rw [if_neg (by simp; omega)]
      exact h3
/-- the whole of a trie is read out. -/
theorem CR.list {E : Env} {t : T Value} {cells : Array Value} {l : List Value} {n : Nat} (h : CR E undef t cells) (hn : cells.size = n) (hl : l.length = n) (hg : ∀ j : Nat, j < n → l[j]? = some (blkGet undef t (0 + j))) : LR E l cells.toList :=
  ⟨by simp [hl, hn], fun i v v' x y => by
    have hi : i < n := by rw [← hl]; exact (List.getElem?_eq_some_iff.1 x).1
    rw [hg i hi, Nat.zero_add] at x
    cases x
    exact h i v' (by simpa using y)⟩
theorem zeroOf_ok (hB : TabOK P B) {t : TypeId} {c : Value → An R} (hq : zeroOf B t c = .ok r) : ∃ i v, P.info? t = some i ∧ i.zero = some v ∧ isFlat v = true ∧ c v = .ok r := by
  unfold zeroOf at hq
  replace hq := info_ok hB hq
  obtain ⟨i, hi, hq⟩ := hq
  split at hq
  case h_2 => exact absurd hq no_ok
  rename_i v hv
  split at hq
  case h_2 => exact absurd hq no_ok
  rename_i hf
  exact ⟨i, v, hi, hv, hf, hq⟩
theorem placesK_ok (hB : TabOK P B) : ∀ {fs : List Field} {c : List (Nat × Nat) → An R}, placesK B fs c = .ok r →
    ∃ pl, c pl = .ok r ∧ ∀ w, (fs.mapM (fun f => do pure (f.offset, ← sizeOf f.type)) : Sem (List (Nat × Nat))).run P w = .ok pl w
  | [], c, h => ⟨[], h, fun w => by simp⟩
  | f :: fs, c, h => by
    unfold placesK at h
    replace h := info_ok hB h
    obtain ⟨i, hi, h⟩ := h
    obtain ⟨pl, h, hp⟩ := placesK_ok hB h
    refine ⟨_, h, fun w => ?_⟩
    simp only [List.mapM_cons, Sem.run_bind, run_siz hi, Result.andThen_ok, Sem.run_pure, hp]
theorem CR.start {E : Env} {z z' : Value} (hz : VR E z z') {t : T Value} (ht : ∀ (d : Value) (i : Nat), blkGet d t i = if 0 ≤ i ∧ i < 0 + (cellsOf z).length then (cellsOf z).getD (i - 0) d else blkGet d .nil i) :
    CR E undef t z'.cells := by
  intro i v' hv
  have hl := cellsOf_ok hz
  have hi : i < (cellsOf z).length := by rw [hl.1]; simpa using (Array.getElem?_eq_some_iff.1 hv).1
  rw [ht, if_pos (by omega), Nat.sub_zero, List.getD_eq_getElem?_getD, List.getElem?_eq_getElem hi]
  exact hl.2 i _ _ (List.getElem?_eq_getElem hi) (by simpa using hv)
theorem buildK_ok (hB : TabOK P B) {t : TypeId} {parts : List (Nat × Value)} {c : Value → An R} (hq : buildK B t parts c = .ok r) :
    ∃ v, c v = .ok r ∧ ∀ E w (parts' : Array (Nat × Value)), PR E parts parts'.toList → ∃ v', (Instr.build t parts').run P w = .ok v' w ∧ VR E v v' := by
  unfold buildK at hq
  replace hq := zeroOf_ok hB hq
  obtain ⟨i, z, hi, hz, hzf, hq⟩ := hq
  replace hq := und_ok hB hq
  obtain ⟨ds, hu, hq⟩ := hq
  split at hq
  · rename_i fs
    replace hq := placesK_ok hB hq
    obtain ⟨pl, hq, hpl⟩ := hq
    replace hq := putCells_ok hq
    obtain ⟨t1, hq, _, ht1⟩ := hq
    replace hq := buildPut_ok hq
    obtain ⟨t2, hq, _, ht2⟩ := hq
    replace hq := cellsK_ok hq
    obtain ⟨l, hq, hl, hg⟩ := hq
    refine ⟨_, hq, fun E w parts' hp => ?_⟩
    have hz' : VR E z z := .flat hzf
    obtain ⟨cells', h1, h2, h3⟩ := ht2 E z.cells parts'.toList (by have := (cellsOf_ok hz').1; simpa using this.symm) (CR.start hz' ht1) hp
    have h4 := h3.list h2 hl hg
    obtain ⟨cl⟩ := cells'
    refine ⟨.agg ⟨cl⟩, ?_, .agg h4.1 h4.2⟩
    have hmap : ∀ w, (fs.mapM (fun f => do pure (f.offset, ← sizeOf f.type)) : Sem (Array (Nat × Nat))).run P w = .ok ⟨pl⟩ w := fun w => by
      rw [Array.mapM_eq_mapM_toList, Sem.run_map, hpl]
      rfl
    simp only [Instr.build, Sem.run_bind, run_zro hi hz, Result.andThen_ok, run_underlying hu, hmap]
    have h1' : Instr.fill (fun x => (⟨pl⟩ : Array (Nat × Nat))[x]?) z.cells parts'.toList = some ⟨cl⟩ := by simpa using h1
    simp only [h1', Sem.run_pure]
  · rename_i n elem
    replace hq := info_ok hB hq
    obtain ⟨e, he, hq⟩ := hq
    replace hq := putCells_ok hq
    obtain ⟨t1, hq, _, ht1⟩ := hq
    replace hq := buildPut_ok hq
    obtain ⟨t2, hq, _, ht2⟩ := hq
    replace hq := cellsK_ok hq
    obtain ⟨l, hq, hl, hg⟩ := hq
    refine ⟨_, hq, fun E w parts' hp => ?_⟩
    have hz' : VR E z z := .flat hzf
    obtain ⟨cells', h1, h2, h3⟩ := ht2 E z.cells parts'.toList (by have := (cellsOf_ok hz').1; simpa using this.symm) (CR.start hz' ht1) hp
    have h4 := h3.list h2 hl hg
    obtain ⟨cl⟩ := cells'
    refine ⟨.agg ⟨cl⟩, ?_, .agg h4.1 h4.2⟩
    simp only [Instr.build, Sem.run_bind, run_zro hi hz, Result.andThen_ok, run_underlying hu, run_siz he]
    have h1' : Instr.fill (fun i => some (i * e.size, e.size)) z.cells parts'.toList = some ⟨cl⟩ := h1
    simp only [h1', Sem.run_pure]
  · exact absurd hq no_ok
end
end Go.Ev
