/-
  Whole arrays in a walk: a row of cells by a function, and the laws by which an operation on a whole array goes in one step.
-/
import Derived.WalkKit
import Derived.Great.Walk
import Derived.Deep.WholeRow
import Derived.Deep.QuietTactic
import Derived.Deep.MidRow
import Derived.Still
namespace Go.Proofs.Ytmcpobmmogeiiaa
open Go.RowKit

theorem quiet_add {P : Program} {f : FuncId} {args : Array Value} {w : World} {a n : Nat} {v : Value}
    (h : Calls P f args (w.drewN (a + n)) fun e w' => e = .returned v ∧ ∃ m, w' = (w.drewN (a + n)).drewN m) :
    Calls P f args (w.drewN (a + n)) fun e w'' => e = .returned v ∧ ∃ m, w'' = w.drewN (a + m) :=
  h.mono fun _ _ ⟨he, m, hm⟩ => ⟨he, n + m, by rw [hm, World.drewN_drewN, Nat.add_assoc]⟩
theorem quiet_left {P : Program} {f : FuncId} {args : Array Value} {w : World} {n : Nat} {v : Value}
    (h : Calls P f args (w.drewN n) fun e w' => e = .returned v ∧ w.drewN n = w') : Calls P f args (w.drewN n) fun e w'' => e = .returned v ∧ ∃ m, w'' = w.drewN m :=
  h.mono fun _ _ ⟨he, hm⟩ => ⟨he, n, hm.symm⟩
theorem quiet_add_left {P : Program} {f : FuncId} {args : Array Value} {w : World} {a n : Nat} {v : Value}
    (h : Calls P f args (w.drewN (a + n)) fun e w' => e = .returned v ∧ w.drewN (a + n) = w') :
    Calls P f args (w.drewN (a + n)) fun e w'' => e = .returned v ∧ ∃ m, w'' = w.drewN (a + m) :=
  h.mono fun _ _ ⟨he, hm⟩ => ⟨he, n, hm.symm⟩

def rowN (n : Nat) (f : Nat → Value) : Array Value := ((List.range n).map f).toArray
theorem rowN_size (n : Nat) (f : Nat → Value) : (rowN n f).size = n := by simp [rowN]
theorem rowN_get (n : Nat) (f : Nat → Value) (i : Nat) (h : i < n) : (rowN n f)[i]? = some (f i) := by simp [rowN, h]
theorem rowN_ext {n : Nat} {f g : Nat → Value} (h : ∀ i, i < n → f i = g i) : rowN n f = rowN n g := by
  unfold rowN; congr 1; exact List.map_congr_left fun i hi => h i (by simpa using hi)
theorem rowN_set (n : Nat) (f : Nat → Value) (i : Nat) (v : Value) : (rowN n f).setIfInBounds i v = rowN n (fun j => if j = i then v else f j) := by
  apply Array.ext_getElem?
  intro j
  by_cases hj : j < n
  · rw [rowN_get _ _ _ hj, Array.getElem?_setIfInBounds, rowN_get _ _ _ hj]
    by_cases e : i = j
    · subst e; simp [rowN_size, hj]
    · have e' : ¬ j = i := fun h => e h.symm
      simp [e, e']
  · have h1 : (rowN n fun j => if j = i then v else f j)[j]? = none := Array.getElem?_eq_none (by rw [rowN_size]; omega)
    have h2 : ((rowN n f).setIfInBounds i v)[j]? = none := Array.getElem?_eq_none (by rw [Array.size_setIfInBounds, rowN_size]; omega)
    rw [h1, h2]
theorem rowN_all (n : Nat) (f : Nat → Value) (h : ∀ i, (f i).oneCell' = true) : (rowN n f).all (·.oneCell') = true := by
  rw [Array.all_eq_true_iff_forall_mem]
  intro v hv
  simp only [rowN, List.mem_toArray, List.mem_map] at hv
  obtain ⟨i, _, rfl⟩ := hv
  exact h i

section
variable {P : Program} {ops : Array Oper} {rest : List Oper} {o : Oper} {a : Act} {w : World} {Q : Exit → Act → World → Prop}

/-- 'new(T)' of whatever type, its zero value's cells said by the caller. -/
theorem wpList_alloc_row (hg : o.guard = none) (t : TypeId) (ho : o.op = .alloc t) (cells : Array Value) (hz : ((P.info? t).bind (·.zero)).map (·.cells) = some cells)
    (h : wpList P ops Q rest (a.put o.dst (.pointer (some ⟨w.heap.size, 0, none⟩))) (w.alloc (.cells cells t))) : wpList P ops Q (o :: rest) a w := by
  refine Great.wpList_allocTo hg _ rfl _ (.cells cells t) ?_ h
  cases hi : P.info? t with
  | none => simp [hi] at hz
  | some i =>
    cases hzz : i.zero with
    | none => simp [hi, hzz] at hz
    | some z =>
      have hc : z.cells = cells := by simpa [hi, hzz] using hz
      subst hc
      unfold execOp
      simp [ho, Instr.alloc, zeroValue, typeInfo, hi, hzz, newVar, newRow, go_sem]


/-- A whole array into the block that was made last. -/
theorem wpList_store_last (hgd : o.guard = none) (ty : TypeId) (x y : Operand) (ho : o.op = .store ty x y) (hd : o.dst = none)
    (cells old : Array Value) (t : TypeId) (hx : a.eval x = .pointer (some ⟨w.heap.size, 0, none⟩)) (hy : a.eval y = .agg cells) (hi : (P.info? ty).map (·.size) = some cells.size)
    (hold : old.size = cells.size) (h1 : cells.all (·.oneCell') = true)
    (h : wpList P ops Q rest a (w.alloc (.cells cells t))) : wpList P ops Q (o :: rest) a (w.alloc (.cells old t)) := by
  refine wpList_store_rowTo hgd ty x y ho hd w.heap.size cells hx hy t old (heap_alloc_last w _) hi hold h1 ?_
  rw [World.setRow_alloc_new]; exact h

/-- A load of a whole array out of the middle of a block, in a region that draws its order and only reads so far. -/
theorem wpStill_load_mid {Q : Act → Prop} (hgd : o.guard = none) (ty : TypeId) (x : Operand) (ho : o.op = .load ty x)
    (b off : Nat) (hx : a.eval x = .pointer (some ⟨b, off, none⟩)) (cs : List Value) (d : TypeDesc) (hc : w.rangeAt b off cs)
    (hu : P.underlying ty = some d) (hd : d.isRow = true) (hi : (P.info? ty).map (·.size) = some cs.length)
    (h : wpStill P ops w Q rest (a.put o.dst (.agg cs.toArray))) : wpStill P ops w Q (o :: rest) a := by
  refine wpStill_step fun K hK => ?_
  rw [if_pos (by simp [Region.wanted, hgd])]
  unfold Oper.still execOp
  simp only [ho, hx, Instr.loadAt, Instr.sureAddr, Sem.run_bind, Sem.run_pure, Result.andThen_ok, run_loadVar_mid w b off ty cs d hc hu hd hi]
  exact ⟨rfl, hK _ h⟩

/-- A whole array of cells as a function's result, out of the block at g. -/
theorem bodyPost_row {fn : Func} {R : Ending → World → Prop} {tmps : Array Value} {w : World} {p : Tmp} {ty : TypeId} (hf : fn.results = #[.cell p ty])
    (g : Nat) (t : TypeId) (cs : Array Value) (d : TypeDesc) (hp : tmps.getD p undef = .pointer (some ⟨g, 0, none⟩)) (hg : w.heap[g]? = some (.cells cs t (0, 0)))
    (hu : P.underlying ty = some d) (hdd : (match d with | .struct _ | .array _ _ => true | _ => false) = true) (hi : (P.info? ty).map (·.size) = some cs.size)
    (hR : R (.returned (.agg cs)) w) : bodyPost P fn R .ret { tmps, defers := [] } w :=
  bodyPost_ret (results_cell_row hf tmps w g t cs (0, 0) d hp hg hu hdd hi) rfl hR
end
end Go.Proofs.Ytmcpobmmogeiiaa
