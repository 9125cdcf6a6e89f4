/-
  Operations that read the heap; operations that lay one block.
-/
import Derived.Test.YtopkigockpiggaaGreatEvPure
import Derived.Laws.OwnMore
set_option linter.unusedVariables false
set_option linter.unusedSimpArgs false
namespace Go.Ev
section
variable {R : Type} {P : Program} {B : Tab} {r : R}
theorem read_ok (hB : TabOK P B) {J : R → R → Bool} {call : CallK R} {tm : T Value} {h : Hp} {o : Oper} {c : Value → Hp → An R} (hk : ReadOp P o.op) (hq : execK B J call tm h o.op o.type c = .ok r) :
    ∃ v, c v h = .ok r ∧ Quiet P o tm h.t v := by
  obtain ⟨dst, op, ty, pos, after, guard⟩ := o
  simp only at hk hq
  cases op
  case binOp op t x y yt =>
    simp only [execK, opFn_eq, opFn'] at hq
    obtain ⟨xv, hq, hx⟩ := opd_ok hq
    obtain ⟨yv, hq, hy⟩ := opd_ok hq
    obtain ⟨v, hq, hf, hv⟩ := binK_ok hB hq
    exact ⟨v, hq, fun G E ρ w hw ho => ⟨v, isPureV (hv G E w _ _ x y (fun _ => hw) (hx E _ (ho x (by simp [Op.operands]))) (hy E _ (ho y (by simp [Op.operands])))), .flat hf⟩⟩
  case load t a =>
    simp only [execK, opFn_eq, opFn'] at hq
    obtain ⟨av, hq, ha⟩ := opd_ok hq
    obtain ⟨v, hq, hv⟩ := loadAt_ok hB hq
    refine ⟨v, hq, fun G E ρ w hw ho => ?_⟩
    obtain ⟨v', h1, h2⟩ := hv G E w _ hw (ha E _ (ho a (by simp [Op.operands])))
    exact ⟨v', isPureV h1, h2⟩
  case convert s d x =>
    obtain ⟨ds, dd, hs, hd, hs1, hd1⟩ := hk
    simp only [execK, opFn_eq, opFn'] at hq
    obtain ⟨xv, hq, hx⟩ := opd_ok hq
    unfold convK at hq
    replace hq := und_ok hB hq
    obtain ⟨ds', hs', hq⟩ := hq
    rw [hs] at hs'; cases hs'
    replace hq := und_ok hB hq
    obtain ⟨dd', hd', hq⟩ := hq
    rw [hd] at hd'; cases hd'
    split at hq
    · rename_i k kk n
      replace hq := convIntK_ok hq
      refine ⟨_, hq, fun G E ρ w hw ho => ⟨_, ?_, .flat rfl⟩⟩
      have e1 := (hx E _ (ho x (by simp [Op.operands]))).inv_int
      simp only [execOp, e1]
      refine isPureV ?_
      simp only [convert, Sem.run_bind, run_underlying hs, run_underlying hd, Result.andThen_ok]
      simp [Conv.intToInt]
    · simp [isSliceD] at hs1
    · rename_i e
      replace hq := und_ok hB hq
      obtain ⟨de, he, hq⟩ := hq
      split at hq
      case h_2 => exact absurd hq no_ok
      replace hq := bytesStr_ok (P := P) hq
      obtain ⟨v, hq, hf, hv⟩ := hq
      refine ⟨v, hq, fun G E ρ w hw ho => ⟨v, ?_, .flat hf⟩⟩
      have hv := hv G E w _ hw (hx E _ (ho x (by simp [Op.operands])))
      simp only [execOp]
      refine isPureV ?_
      have key : (convert s d (ρ x)).run P w = (Conv.bytesToString (ρ x)).run P w := by
        generalize ρ x = y at hv
        simp only [convert, Sem.run_bind, run_underlying hs, run_underlying hd, Result.andThen_ok]
        cases y <;> first
          | (simp only [Sem.run_bind, run_underlying he, Result.andThen_ok]; done)
          | (simp only [Sem.run_bind, run_underlying he, Result.andThen_ok]; rfl)
          | (simp [Conv.bytesToString, stuck, Sem.run] at hv)
      rw [key]; exact hv
    · simp [isSliceD] at hd1
    · simp [isSliceD] at hd1
    · exact absurd hq no_ok
  case call cl =>
    obtain ⟨callee, args, ats⟩ := cl
    simp only [ReadOp] at hk
    subst hk
    simp only [execK, opFn_eq, opFn', builtinK, bFn_eq, bFn'] at hq
    replace hq := opds_ok hq
    obtain ⟨vs, hq, hvs⟩ := hq
    split at hq
    case h_2 => exact absurd hq no_ok
    rename_i x t ht
    replace hq := lenK_ok hB hq
    obtain ⟨v, hq, hf, hv⟩ := hq
    refine ⟨v, hq, fun G E ρ w hw ho => ⟨v, ?_, .flat hf⟩⟩
    obtain ⟨x', m, hm, hx, hmn⟩ := (hvs E ρ (fun y hy => ho y (by simp [Op.operands, Call.operands]; simpa using hy))).uncons
    rw [hmn.unnil] at hm
    obtain ⟨cs, hr⟩ := run_builtin_op (P := P) ρ w dst .len args ats ty pos after guard
    rw [hr, map_of_toList hm, builtin]
    exact isPureV (hv G E w x' ats ty (by rw [← Array.getElem?_toList, ht]; rfl) hw hx)
  all_goals exact hk.elim
theorem newBlk_ok {b : Blk} {h : Hp} {c : Nat → Hp → An R} (hq : newBlk b h c = .ok r) : c h.next ⟨h.t.put h.next (some b), h.next + 1⟩ = .ok r := by
  unfold newBlk at hq
  rw [T.putK_eq, fN_eq] at hq
  exact hq
theorem blkGet_nil (d : Value) (i : Nat) : blkGet d .nil i = d := rfl
theorem isV {s : Sem Value} {v : Value} {w w' : World} (h : s.run P w = .ok v w') : (do pure (.value (← s)) : Sem Next).run P w = .ok (.value v) w' := by simp [h]
/-- a new row of cells. -/
theorem BR.fresh {E : Env} {vs : List Value} {elem esz cap n : Nat} {ti : Bool} {tr : T Value} {c : Array Value} {b : Nat} (hn : vs.length = n)
    (ht : ∀ (d : Value) (i : Nat), blkGet d tr i = if 0 ≤ i ∧ i < 0 + vs.length then vs.getD (i - 0) d else blkGet d .nil i)
    (hc : ∀ (i : Nat) (v : Value), vs[i]? = some v → ∃ v', c[i]? = some v' ∧ VR E v v') (hcap : cap * esz ≤ c.size) (pl : Bool) (fr : Nat × Nat) (hfr : fr = (0, 0) ∨ (fr = (c.size, c.size + 1) ∧ pl = false)) (hok : ∀ v ∈ vs, cellOk v = true) {hcM : cap ≤ 9223372036854775807} :
    BR E (.cells n elem esz ti pl undef tr) ⟨b, 0, cap, hcM⟩ (some (.cells c elem fr)) := by
  refine ⟨c, fr, rfl, fun i hi => ?_, by simpa using hcap, ?_, ?_, okB_new hok (by omega) ht⟩
  · have hi' : i < vs.length := by omega
    obtain ⟨v', h1, h2⟩ := hc i _ (List.getElem?_eq_getElem hi')
    refine ⟨v', by simpa using h1, ?_⟩
    rw [ht, if_pos (by omega), Nat.sub_zero, List.getD_eq_getElem?_getD, List.getElem?_eq_getElem hi']
    exact h2
  · intro _
    rcases hfr with h | ⟨h, _⟩
    · exact Or.inl h
    · exact Or.inr h
  · intro hp
    rcases hfr with h | ⟨_, h⟩
    · exact h
    · rw [hp] at h; cases h
/-- what laying a block does. -/
structure Laid (P : Program) (o : Oper) (tm : T Value) (k : Nat) (v : Value) (blk : Blk) : Prop where
  mu : mutB blk = true
  run : ∀ E ρ w, Ops E tm o.op ρ → E k = none → ∃ v' e obj n, (execOp ρ o).run P w = .ok (.value v') { w with heap := w.heap.push obj, drawn := n } ∧ e.b = w.heap.size ∧ BR (E.set k e) blk e (some obj) ∧ VR (E.set k e) v v'
theorem newCells_ok {elem esz : Nat} {vs : List Value} {h : Hp} {c : Nat → Hp → An R} (hq : newCells elem esz vs h c = .ok r) :
    ∃ tr, (∀ (d : Value) (i : Nat), blkGet d tr i = if 0 ≤ i ∧ i < 0 + vs.length then vs.getD (i - 0) d else blkGet d .nil i) ∧ (∀ v ∈ vs, cellOk v = true) ∧ c h.next ⟨h.t.put h.next (some (.cells vs.length elem esz true true undef tr)), h.next + 1⟩ = .ok r := by
  unfold newCells at hq
  replace hq := putCells_ok hq
  obtain ⟨tr, hq, h1, h2⟩ := hq
  exact ⟨tr, h2, h1, newBlk_ok hq⟩
theorem run_newRow (w : World) (elem : TypeId) (cells : Array Value) : (newRow elem cells).run P w = .ok ⟨w.heap.size, 0, none⟩ { w with heap := w.heap.push (.cells cells elem) } := rfl
theorem repCells_get (z : List Value) (s : Nat) (hz : z.length = s) : ∀ (n : Nat) (acc : List Value), (repCells z n acc).length = n * s + acc.length ∧ ∀ i, i < n * s → (repCells z n acc)[i]? = z[i % s]?
  | 0, acc => ⟨by simp [repCells], fun i hi => by simp at hi⟩
  | n + 1, acc => by
    obtain ⟨h1, h2⟩ := repCells_get z s hz n (z ++ acc)
    refine ⟨by rw [repCells, h1]; simp [hz, Nat.succ_mul]; omega, fun i hi => ?_⟩
    rw [repCells]
    rcases Nat.lt_or_ge i (n * s) with h | h
    · exact h2 i h
    · have key : ∀ (n : Nat) (acc : List Value) (j : Nat), (repCells z n acc)[n * s + j]? = acc[j]? := fun n => by
        induction n with
        | zero => intro acc j; simp [repCells]
        | succ n ih =>
          intro acc j
          rw [repCells, show (n + 1) * s + j = n * s + (s + j) by rw [Nat.succ_mul]; omega, ih, List.getElem?_append_right (by omega), hz]
          congr 1; omega
      obtain ⟨j, rfl⟩ : ∃ j, i = n * s + j := ⟨i - n * s, by omega⟩
      rw [Nat.succ_mul] at hi
      rw [key, List.getElem?_append_left (by omega), Nat.add_comm, Nat.add_mul_mod_self_right, Nat.mod_eq_of_lt (by omega)]
theorem flat_cells {z : Value} (hf : isFlat z = true) : ∀ v ∈ cellsOf z, isFlat v = true := by
  intro v hv
  cases z with
  | agg l => obtain ⟨l⟩ := l; exact flat_agg hf v hv
  | _ => all_goals (simp only [cellsOf, List.mem_singleton] at hv; subst hv; exact hf)
theorem flat_cellOk {z : Value} (hf : isFlat z = true) : ∀ v ∈ cellsOf z, cellOk v = true := by
  intro v hv
  cases z with
  | agg l =>
    obtain ⟨l⟩ := l
    simp only [isFlat, List.all_eq_true] at hf
    have := hf v hv
    revert this
    cases v <;> simp [cellOk]
  | tuple l => simp [isFlat] at hf
  | _ => all_goals (simp only [cellsOf, List.mem_singleton] at hv; subst hv; rfl)
/-- noughts, n times over: as the model lays them. -/
theorem noughts {E : Env} {z : Value} {s n : Nat} {tr : T Value} (hf : isFlat z = true) (hzs : (cellsOf z).length = s)
    (ht : ∀ (d : Value) (i : Nat), blkGet d tr i = if 0 ≤ i ∧ i < 0 + (repCells (cellsOf z) n []).length then (repCells (cellsOf z) n []).getD (i - 0) d else blkGet d .nil i) :
    CR E undef tr ((Array.range (n * s)).map (z.cells[· % z.cells.size]!)) := by
  have hzl : z.cells.toList = cellsOf z := by cases z <;> rfl
  have hzsz : z.cells.size = s := by rw [← hzs, ← hzl]; simp
  obtain ⟨r1, r2⟩ := repCells_get (cellsOf z) s hzs n []
  intro i v' hv
  have hi : i < n * s := by
    have := (Array.getElem?_eq_some_iff.1 hv).1
    simpa using this
  have hsp : 0 < s := by
    rcases Nat.eq_zero_or_pos s with h | h
    · rw [h] at hi; simp at hi
    · exact h
  have him : i % s < s := Nat.mod_lt _ hsp
  rw [ht, if_pos (by rw [r1]; simp; omega), Nat.sub_zero, List.getD_eq_getElem?_getD, r2 i hi]
  have h1 : ((Array.range (n * s)).map (z.cells[· % z.cells.size]!))[i]? = some (z.cells[i % s]'(by rw [hzsz]; exact him)) := by
    simp [hi, hzsz, him]
  rw [h1] at hv
  have h2 : (cellsOf z)[i % s]? = some v' := by
    rw [← hzl]
    rw [← Option.some.inj hv]
    simp [hzsz, him]
  rw [h2]
  exact .flat (flat_cells hf v' (List.mem_of_getElem? h2))
theorem alloc_ok (hB : TabOK P B) {J : R → R → Bool} {call : CallK R} {tm : T Value} {h : Hp} {o : Oper} {c : Value → Hp → An R} (hk : AllocOp P o.op) (hq : execK B J call tm h o.op o.type c = .ok r) :
    ∃ v blk, c v ⟨h.t.put h.next (some blk), h.next + 1⟩ = .ok r ∧ Laid P o tm h.next v blk := by
  obtain ⟨dst, op, ty, pos, after, guard⟩ := o
  simp only at hk hq
  cases op
  case alloc t =>
    simp only [execK, opFn_eq, opFn'] at hq
    replace hq := zeroOf_ok hB hq
    obtain ⟨i, z, hi, hz, hf, hq⟩ := hq
    replace hq := newCells_ok hq
    obtain ⟨tr, ht, hok, hq⟩ := hq
    refine ⟨_, _, hq, ⟨rfl, fun E ρ w ho hE => ⟨_, ⟨w.heap.size, 0, 0, by decide⟩, _, w.drawn, ?_, rfl, BR.fresh (c := z.cells) rfl ht (fun i v hv => ?_) (by simp) true (0, 0) (Or.inl rfl) hok, .ptr (Env.set_self _ _ _)⟩⟩⟩
    · simp only [execOp]
      exact isV (by simp only [Instr.alloc, Sem.run_bind, run_zro hi hz, Result.andThen_ok, newVar, run_newRow, Sem.run_pure])
    · have h1 := (cellsOf_ok (E := E) (.flat hf)).get hv
      obtain ⟨v', h2, h3⟩ := h1
      exact ⟨v', by simpa using h2, h3.mono (Env.le_set hE)⟩
  case box t x =>
    simp only [execK, opFn_eq, opFn'] at hq
    obtain ⟨xv, hq, hx⟩ := opd_ok hq
    replace hq := newCells_ok hq
    obtain ⟨tr, ht, hok, hq⟩ := hq
    refine ⟨_, _, hq, ⟨rfl, fun E ρ w ho hE => ⟨_, ⟨w.heap.size, 0, 0, by decide⟩, _, w.drawn, ?_, rfl, BR.fresh (c := (ρ x).cells) rfl ht (fun i v hv => ?_) (by simp) true (0, 0) (Or.inl rfl) hok, .ptr (Env.set_self _ _ _)⟩⟩⟩
    · simp only [execOp]
      exact isV (by simp only [Instr.box, Sem.run_bind, Result.andThen_ok, newVar, run_newRow, Sem.run_pure])
    · have h1 := (cellsOf_ok (hx E _ (ho x (by simp [Op.operands])))).get hv
      obtain ⟨v', h2, h3⟩ := h1
      exact ⟨v', by simpa using h2, h3.mono (Env.le_set hE)⟩
  case buildSlice t n ps =>
    simp only [execK, opFn_eq, opFn'] at hq
    obtain ⟨vs, hq, hvs⟩ := opds_ok hq
    unfold buildSliceK at hq
    replace hq := und_ok hB hq
    obtain ⟨ds, hu, hq⟩ := hq
    split at hq
    case h_2 => exact absurd hq no_ok
    rename_i elem
    replace hq := info_ok hB hq
    obtain ⟨e, he, hq⟩ := hq
    replace hq := zeroOf_ok hB hq
    obtain ⟨i, z, hi, hz, hf, hq⟩ := hq
    rw [he] at hi; cases hi
    split at hq
    case h_2 => exact absurd hq no_ok
    rename_i hsm hzs
    rw [Bool.and_eq_true] at hsm
    have hn1 : n ≤ 1048576 := Nat.le_of_ble_eq_true hsm.2
    have hsm : n * e.size ≤ 1048576 := Nat.le_of_ble_eq_true hsm.1
    have hzs : (cellsOf z).length = e.size := Nat.eq_of_beq_eq_true hzs
    replace hq := putCells_ok hq
    obtain ⟨t1, hq, hok1, ht1⟩ := hq
    replace hq := buildPut_ok hq
    obtain ⟨t2, hq, hk2, ht2⟩ := hq
    rw [fN_eq] at hq
    replace hq := newBlk_ok hq
    refine ⟨_, _, hq, ⟨rfl, fun E ρ w ho hE => ?_⟩⟩
    have hle := Env.le_set (e := ⟨w.heap.size, 0, 0, by decide⟩) hE
    let cells0 : Array Value := (Array.range (n * e.size)).map (z.cells[· % z.cells.size]!)
    have hcr : CR E undef t1 cells0 := noughts hf hzs ht1
    have h1 := hvs E ρ (fun x hx => ho x (by simpa [Op.operands] using hx))
    have h2 := PR.zip (is := ps.toList.map (·.1)) h1
    have h3 : (ps.map fun (i, x) => (i, ρ x)).toList = (ps.toList.map (·.1)).zip ((ps.toList.map (·.2)).map ρ) := by
      simp only [Array.toList_map, List.map_map, List.zip_map']
      rfl
    obtain ⟨cells', h4, h5, h6⟩ := ht2 E cells0 _ (by simp [cells0]) hcr (h3 ▸ h2)
    refine ⟨.slice (some ⟨w.heap.size, 0, none⟩) n n, ⟨w.heap.size, 0, 0, by decide⟩, .cells cells' elem, w.drawn, ?_, rfl, ?_, ?_⟩
    · simp only [execOp]
      refine isV ?_
      have hbig : ¬ (n * e.size > 2 ^ 24) := by omega
      have h4' : Instr.fill (fun i => some (i * e.size, e.size)) cells0 (ps.map fun (i, x) => (i, ρ x)).toList = some cells' := h4
      simp only [Instr.buildSlice, Sem.run_bind, run_underlying hu, Result.andThen_ok, run_siz he, if_neg hbig, Sem.run_pure]
      by_cases h0 : n * e.size = 0
      · have hc0 : ∀ a : Array Value, (Array.range (n * e.size)).map (a[· % a.size]!) = cells0 := fun a => by simp [cells0, h0]
        rw [if_pos h0]
        simp only [Sem.run_bind, Sem.run_pure, Result.andThen_ok]
        rw [hc0, h4']
        simp only [Sem.run_bind, run_newRow, Result.andThen_ok, Sem.run_pure]
      · rw [if_neg h0]
        simp only [Sem.run_bind, Sem.run_pure, Result.andThen_ok, run_zro he hz]
        rw [show (Array.range (n * e.size)).map (z.cells[· % z.cells.size]!) = cells0 from rfl, h4']
        simp only [Sem.run_bind, run_newRow, Result.andThen_ok, Sem.run_pure]
    · refine ⟨cells', (0, 0), rfl, fun i hi => ?_, by simp, fun _ => Or.inl rfl, fun _ => rfl, hk2 _ _ (okB_new hok1 (by rw [(repCells_get (cellsOf z) e.size hzs n []).1]; simp) ht1)⟩
      have hi' : i < cells'.size := by rw [h5]; exact hi
      exact ⟨cells'[i], by simp [hi'], (h6 i _ (by simp [hi'])).mono hle⟩
    · have := VR.sl (E := E.set h.next ⟨w.heap.size, 0, 0, by decide⟩) (k := h.next) (o := 0) (l := n) (c := n) (c' := n) (Env.set_self _ _ _) (Or.inl ⟨by omega, rfl⟩) (Nat.le_refl _)
      exact this
  case makeSlice t l cp =>
    simp only [execK, opFn_eq, opFn'] at hq
    obtain ⟨lv, hq, hl⟩ := opd_ok hq
    obtain ⟨cv, hq, hc⟩ := opd_ok hq
    unfold makeSliceK at hq
    replace hq := und_ok hB hq
    obtain ⟨ds, hu, hq⟩ := hq
    split at hq
    case h_2 => exact absurd hq no_ok
    rename_i elem
    replace hq := info_ok hB hq
    obtain ⟨e, he, hq⟩ := hq
    replace hq := zeroOf_ok hB hq
    obtain ⟨i, z, hi, hz, hf, hq⟩ := hq
    rw [he] at hi; cases hi
    obtain ⟨k1, ln, el, hq2⟩ := asN_ok hq
    subst el
    obtain ⟨k2, cn, ec, hq3⟩ := asN_ok hq2
    subst ec
    clear hq hq2
    split at hq3
    case h_2 => exact absurd hq3 no_ok
    rename_i hsm hzs
    simp only [Bool.and_eq_true] at hsm
    obtain ⟨⟨⟨h1, h2⟩, h3⟩, h4⟩ := hsm
    have h1 : ln ≤ cn := Nat.le_of_ble_eq_true h1
    have h2 : cn ≤ 1073741824 := Nat.le_of_ble_eq_true h2
    have h3 : cn * e.size ≤ 1073741824 := Nat.le_of_ble_eq_true h3
    have h4 : e.bytes ≤ 4096 := Nat.le_of_ble_eq_true h4
    have hzs : (cellsOf z).length = e.size := Nat.eq_of_beq_eq_true hzs
    have hrun : ∀ (ρ : Operand → Value) (w : World), ρ l = .int k1 (Int.ofNat ln) → ρ cp = .int k2 (Int.ofNat cn) →
        (Instr.makeSlice t (ρ l) (ρ cp)).run P w = .ok (.slice (some ⟨w.heap.size, 0, none⟩) ln cn) { w with heap := w.heap.push (.cells (madeCells z.cells (cn * e.size)) elem) } := fun ρ w e1 e2 => by
      have hbytes : e.bytes * cn ≤ 4096 * 1073741824 := Nat.mul_le_mul h4 h2
      have hb' : (e.bytes : Int) * (cn : Int) ≤ 281474976710656 := by
        have h : ((e.bytes * cn : Nat) : Int) ≤ 281474976710656 := by omega
        rwa [Int.natCast_mul] at h
      rw [e1, e2]
      exact run_make w t elem e z hu he hz k1 k2 (Int.ofNat ln) (Int.ofNat cn) (Int.natCast_nonneg _) (Int.ofNat_le.2 h1) hb' (by show (cn : Int) ≤ _; omega)
    have fin : ∀ {blk : Blk}, mutB blk = true → (∀ E b, BR E blk ⟨b, 0, 0, by decide⟩ (some (.cells (madeCells z.cells (cn * e.size)) elem (0, 0)))) →
        Laid P ⟨dst, .makeSlice t l cp, ty, pos, after, guard⟩ tm h.next (.slice (some ⟨h.next, 0, none⟩) ln cn) blk := fun hmu hbr => ⟨hmu, fun E ρ w ho hE => by
      refine ⟨.slice (some ⟨w.heap.size, 0, none⟩) ln cn, ⟨w.heap.size, 0, 0, by decide⟩, _, w.drawn, ?_, rfl, hbr _ _, ?_⟩
      · exact isV (hrun ρ w ((hl E _ (ho l (by simp [Op.operands]))).inv_int) ((hc E _ (ho cp (by simp [Op.operands]))).inv_int))
      · have := VR.sl (E := E.set h.next ⟨w.heap.size, 0, 0, by decide⟩) (k := h.next) (o := 0) (l := ln) (c := cn) (c' := cn) (Env.set_self _ _ _) (Or.inl ⟨by omega, rfl⟩) h1
        exact this⟩
    split at hq3
    · rename_i d hd
      unfold newRowOf at hq3
      replace hq3 := newBlk_ok hq3
      refine ⟨_, _, hq3, fin rfl fun E b => ?_⟩
      have hs1 : e.size = 1 := by rw [← hzs, hd]; rfl
      have hzl : z.cells.toList = cellsOf z := by cases z <;> rfl
      have hdf : isFlat d = true := flat_cells hf d (by rw [hd]; simp)
      refine ⟨_, (0, 0), rfl, fun i hi => ⟨d, ?_, .flat hdf⟩, by simp, fun _ => Or.inl rfl, fun _ => rfl, fun i _ => flat_cellOk hf d (by rw [hd]; simp)⟩
      have hz1 : z.cells = #[d] := Array.ext' (by rw [hzl, hd])
      simp [madeCells, hs1, hz1, hi, Nat.mod_one]
    · replace hq3 := putCells_ok hq3
      obtain ⟨tr, hq3, hokr, htr⟩ := hq3
      rw [fN_eq] at hq3
      replace hq3 := newBlk_ok hq3
      refine ⟨_, _, hq3, fin rfl fun E b => ?_⟩
      have hcr : CR E undef tr (madeCells z.cells (cn * e.size)) := noughts hf hzs htr
      refine ⟨_, (0, 0), rfl, fun i hi => ?_, by simp, fun _ => Or.inl rfl, fun _ => rfl, okB_new hokr (by rw [(repCells_get (cellsOf z) e.size hzs cn []).1]; simp) htr⟩
      have hi' : i < (madeCells z.cells (cn * e.size)).size := by rw [size_madeCells]; exact hi
      exact ⟨(madeCells z.cells (cn * e.size))[i], by simp [hi'], hcr i _ (by simp [hi'])⟩
  case makeMap t rv =>
    cases rv with
    | some x => simp only [execK, opFn_eq, opFn'] at hq; exact absurd hq no_ok
    | none =>
      simp only [execK, opFn_eq, opFn'] at hq
      replace hq := newBlk_ok hq
      refine ⟨_, _, hq, ⟨rfl, fun E ρ w ho hE => ⟨_, ⟨w.heap.size, 0, 0, by decide⟩, _, w.drawn, ?_, rfl, ⟨[], rfl, trivial⟩, .map (Env.set_self _ _ _)⟩⟩⟩
      simp only [execOp]
      exact isV (by simp [Instr.makeMap, newObj, Sem.run])
  case convert s d x =>
    obtain ⟨ds, dd, hs, hd, hs1, hd1⟩ := hk
    simp only [execK, opFn_eq, opFn'] at hq
    obtain ⟨xv, hq, hx⟩ := opd_ok hq
    unfold convK at hq
    replace hq := und_ok hB hq
    obtain ⟨ds', hs', hq⟩ := hq
    rw [hs] at hs'; cases hs'
    replace hq := und_ok hB hq
    obtain ⟨dd', hd', hq⟩ := hq
    rw [hd] at hd'; cases hd'
    split at hq
    · simp [isSliceD] at hd1
    · simp [isSliceD] at hd1
    · simp [isSliceD] at hs1
    · rename_i e l
      replace hq := und_ok hB hq
      obtain ⟨de, he, hq⟩ := hq
      split at hq
      case h_2 => exact absurd hq no_ok
      split at hq
      case h_2 => exact absurd hq no_ok
      rename_i hll
      have hll : l.length ≤ 1099511627776 := Nat.le_of_ble_eq_true hll
      rw [fL_eq] at hq
      replace hq := putCells_ok hq
      obtain ⟨tr, hq, hokc, htr⟩ := hq
      rw [fN_eq] at hq
      replace hq := newBlk_ok hq
      refine ⟨_, _, hq, ⟨rfl, fun E ρ w ho hE => ?_⟩⟩
      have e1 := (hx E _ (ho x (by simp [Op.operands]))).inv_str
      let q : Question := .appendCap l.length 0 e
      let cap : Nat := q.cut (w.tape w.drawn q)
      have hcap : l.length ≤ cap := Nat.le_add_right _ _
      have hcM : cap ≤ 9223372036854775807 := grownCap_le_maxLen w l.length 0 e (by unfold maxLen; omega)
      let cells : Array Value := (l.toArray.map fun b => Value.int .u8 b.toNat) ++ Array.replicate (cap - l.length) (.int .u8 0)
      have hsz : cells.size = cap := by simp [cells]; omega
      refine ⟨.slice (some ⟨w.heap.size, 0, none⟩) l.length cap, ⟨w.heap.size, 0, cap, hcM⟩, .cells cells e (cap, cap + 1), w.drawn + 1, ?_, rfl, ?_, ?_⟩
      · simp only [execOp, e1]
        refine isV ?_
        have hc : (convert s d (.string ⟨⟨l⟩⟩)).run P w = (Conv.stringToBytes e ⟨⟨l⟩⟩).run P w := by
          simp only [convert, Sem.run_bind, run_underlying hs, run_underlying hd, Result.andThen_ok, run_underlying he]
        rw [hc]
        have hq' : (choose q).run P w = .ok cap { w with drawn := w.drawn + 1 } := rfl
        have hsz0 : (ByteArray.mk ⟨l⟩).size = l.length := rfl
        simp only [Conv.stringToBytes, Sem.run_bind, hsz0]
        rw [show (choose (.appendCap l.length 0 e)).run P w = .ok cap { w with drawn := w.drawn + 1 } from rfl]
        simp only [Result.andThen_ok, run_newRow, Sem.run_bind]
        have hm : (markStringish ⟨w.heap.size, 0, none⟩).run P { w with drawn := w.drawn + 1, heap := w.heap.push (.cells cells e) } = .ok () { w with drawn := w.drawn + 1, heap := w.heap.push (.cells cells e (cap, cap + 1)) } := by
          have hsh : World.shape? { w with drawn := w.drawn + 1, heap := w.heap.push (.cells cells e) } w.heap.size = some (e, cap) := by
            simp [World.shape?, hsz]
          simp only [markStringish, Sem.run_bind, shape, Sem.run, hsh, Result.andThen_ok, freeze]
          congr 1
          unfold World.freeze
          rw [if_neg (by decide)]
          congr 1
          apply Array.ext (by simp)
          intro i h1 h2
          simp at h1
          rw [Array.getElem_modify]
          by_cases hi : w.heap.size = i
          · subst hi; simp
          · have : i < w.heap.size := by omega
            simp [hi, Array.getElem_push, this]
        have hcells : (ByteArray.mk ⟨l⟩).data.map (fun b => Value.int .u8 b.toNat) ++ Array.replicate (cap - l.length) (.int .u8 0) = cells := rfl
        rw [hcells, hm]
        simp only [Result.andThen_ok, Sem.run_pure]
      · refine BR.fresh (c := cells) (by simp) htr (fun i v hv => ?_) (by simp [hsz]) false (cap, cap + 1) (Or.inr ⟨by rw [hsz], rfl⟩) hokc
        rw [List.getElem?_map] at hv
        cases hl : l[i]? with
        | none => rw [hl] at hv; cases hv
        | some b =>
          rw [hl] at hv
          cases hv
          have hi : i < l.length := (List.getElem?_eq_some_iff.1 hl).1
          refine ⟨.int .u8 b.toNat, ?_, .flat rfl⟩
          have hb := (List.getElem?_eq_some_iff.1 hl).2
          simp only [cells]
          rw [Array.getElem?_append_left (by simpa using hi)]
          simp [hl]
      · exact VR.sl (E := E.set h.next ⟨w.heap.size, 0, cap, hcM⟩) (k := h.next) (o := 0) (l := l.length) (c := TOP) (c' := cap) (Env.set_self _ _ _) (Or.inr ⟨by decide, rfl⟩) hcap
    · simp [isSliceD] at hs1
    · exact absurd hq no_ok
  all_goals exact hk.elim
end
end Go.Ev
