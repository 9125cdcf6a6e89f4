/-
  From a run of the evaluator to what the call does.
-/
import Derived.Test.YtopkigockpiggaaGreatEvRule
set_option linter.unusedVariables false
set_option linter.unusedSimpArgs false
namespace Go.Ev
open Go.RowKit
section
variable {P : Program} {B : Tab}
/-- what is looked up is what the program says. -/
structure AllOK (P : Program) (B : Tab) : Prop where
  mixed : P.follows .mixedOrders = true
  tab : TabOK P B
  ins : InsOK P B
  memo : MemoOK P B
  tell : TellOK P B
  rule : RuleOK P B
/-- are they alike? (numbers, texts, truth values.) -/
noncomputable def sameJ (x y : Value) : Bool := plainV y && eqS x y
theorem sameJ_ok : JOK sameJ := fun x y h => by
  simp only [sameJ, Bool.and_eq_true] at h
  exact eqS_plain h.1 h.2
/-- a call, run. -/
noncomputable def callRun (B : Tab) (n : Nat) (f : FuncId) (l : List Value) : An Value := enterK B (ev B n Value sameJ) f l ⟨.nil, 0⟩ fun v _ => .ok v
theorem WR.begin (w : World) : WR ⟨w, fun b => b < w.heap.size, fun _ => False, fun _ h => h.elim, fun _ => False⟩ (fun _ => none) .nil w :=
  ⟨fun k B h => (by cases h), fun k j B C e f h => (by cases h), rfl, rfl, rfl, fun b hb => ⟨hb, rfl⟩, Nat.le_refl _⟩
theorem WR.below {w w' : World} {G : Ctx} {E : Env} {t : T Blk} (h : WR G E t w') (hw : G.w0 = w) (hf : ∀ b, b < w.heap.size → G.fr b) : Below w.heap.size w w' := by
  subst hw
  exact ⟨h.os, h.tape, h.output, h.size, fun k hk => (h.keep k (hf k hk)).2⟩
theorem call_run (A : AllOK P B) {n : Nat} {f : FuncId} {l : List Value} {v : Value} (hq : callRun B n f l = .ok v) {l' : List Value} (hl : LR (fun _ => none) l l') (w : World) (m : Nat) (ro : Option Nat) :
    (∀ X w, (callFunc f X).run P w = .ok (.enter f X) w) ∧ CallsIn (Fw ro) m P f ⟨l'⟩ w fun e w' => ∃ E v', e = .returned v' ∧ VR E v v' ∧ Below w.heap.size w w' := by
  refine enter_ok A.tab (ev_sound A.mixed A.tab A.ins A.memo A.tell A.rule n) sameJ_ok (r := v) hq (WR.begin w) ⟨fun _ _ => rfl, fun k hk => hk.elim⟩ hl ?_
  intro u h' E' v' w' hu hle hf hw hv
  cases hu
  exact ⟨E', v', rfl, hv, hw.below rfl (fun b hb => hb)⟩
/-- .. whose value is a truth value, a number, a text. -/
theorem call_plain (A : AllOK P B) {n : Nat} {f : FuncId} {l : List Value} {v : Value} (hq : callRun B n f l = .ok v) (hv : plainV v = true) {l' : List Value} (hl : LR (fun _ => none) l l') (w : World) :
    Calls P f ⟨l'⟩ w fun e w' => e = .returned v ∧ Below w.heap.size w w' := by
  have h := (call_run A hq hl w 0 none).2
  have h2 := callsIn_wide.1 h
  refine h2.mono ?_
  rintro e w' ⟨E, v', rfl, h1, h2⟩
  exact ⟨congrArg Ending.returned (h1.plain_inv hv), h2⟩
theorem tell_run (A : AllOK P B) {n : Nat} {f : FuncId} {l : List Value} {v : Value} (hq : callRun B n f l = .ok v) (hv : plainV v = true) (hl : ∀ x ∈ l, plainV x = true) :
    isFlat v = true ∧ (∀ X w, (callFunc f X).run P w = .ok (.enter f X) w) ∧
    ∀ (w : World) m ro, CallsIn (Fw ro) m P f ⟨l⟩ w fun e w' => e = .returned v ∧ w'.os = w.os ∧ w'.tape = w.tape ∧ w'.output = w.output ∧ w.heap.size ≤ w'.heap.size ∧ ∀ j, j < w.heap.size → w'.heap[j]? = w.heap[j]? := by
  have hlr : LR (fun _ => none) l l := LR.flats _ _ (fun x hx => by have := hl x hx; cases x <;> first | rfl | (simp [plainV] at this))
  refine ⟨by cases v <;> first | rfl | (simp [plainV] at hv), (call_run A hq hlr default 0 none).1, fun w m ro => ?_⟩
  refine CallsIn.mono (call_run A hq hlr w m ro).2 ?_
  rintro e w' ⟨E, v', rfl, h1, h2⟩
  exact ⟨congrArg Ending.returned (h1.plain_inv hv), h2.os, h2.tape, h2.output, h2.size, h2.block⟩
noncomputable def bytesV (b : List Nat) : List Value := b.map fun n => Value.int .u8 (.ofNat n)
/-- a call over a row of bytes, run. -/
noncomputable def memoRun (B : Tab) (n : Nat) (f : FuncId) (el : TypeId) (b : List Nat) : An Value :=
  putCells (bytesV b) 0 .nil fun tr => enterK B (ev B n Value sameJ) f [.slice (some ⟨0, 0, none⟩) b.length TOP] ⟨.node .nil (some (.cells b.length el 0 false false undef tr)) .nil, 1⟩ fun v _ => .ok v
theorem memo_run (A : AllOK P B) {n : Nat} {f : FuncId} {b : List Nat} {vs : List Value} (hq : ∀ el, memoRun B n f el b = .ok (.agg ⟨vs⟩)) (hp : ∀ x ∈ vs, plainV x = true) :
    isFlat (.agg ⟨vs⟩) = true ∧ (∀ X w, (callFunc f X).run P w = .ok (.enter f X) w) ∧
    ∀ (w : World) (bk o n cap : Nat) (c : Array Value) (el : TypeId) (fr : Nat × Nat), w.heap[bk]? = some (.cells c el fr) → b.length = n + 1 → n + 1 ≤ cap → cap ≤ 9223372036854775807 →
      (∀ (i x : Nat), b[i]? = some x → c[o + i]? = some (.int .u8 (.ofNat x))) → ∀ m ro, CallsIn (Fw ro) m P f #[.slice (some ⟨bk, o, none⟩) (n + 1) cap] w fun e w' =>
        e = .returned (.agg ⟨vs⟩) ∧ w'.os = w.os ∧ w'.tape = w.tape ∧ w'.output = w.output ∧ w.heap.size ≤ w'.heap.size ∧ ∀ j, j < w.heap.size → w'.heap[j]? = w.heap[j]? := by
  have hv : isFlat (.agg ⟨vs⟩) = true := by
    simp only [isFlat, List.all_eq_true]
    intro x hx
    have := hp x hx
    cases x <;> first | rfl | (simp [plainV] at this)
  have hcf : ∀ X w, (callFunc f X).run P w = .ok (.enter f X) w := by
    have h := hq 0
    unfold memoRun at h
    obtain ⟨tr, h, _⟩ := putCells_ok h
    intro X w
    unfold enterK at h
    split at h
    case h_2 => exact absurd h no_ok
    rename_i fd hfd
    obtain ⟨hfn, hnm⟩ := A.tab.fn f fd hfd
    split at h
    case h_2 => exact absurd h no_ok
    rename_i bd hbd
    have hnm' : ¬ fd.name = "runtime.NumGoroutine" := by simpa using hnm
    simp [callFunc, hfn, hnm', hbd]
  refine ⟨hv, hcf, ?_⟩
  intro w bk o n' cap c el fr hbk hbl hcap hcapM hc m ro
  have h := hq el
  unfold memoRun at h
  obtain ⟨tr, h, hok, htr⟩ := putCells_ok h
  let en : Ent := ⟨bk, o, cap, hcapM⟩
  let E0 : Env := fun k => if k = 0 then some en else none
  let G : Ctx := ⟨w, fun b => b < w.heap.size, fun b => b = bk, fun b hb => by subst hb; exact (Array.getElem?_eq_some_iff.1 hbk).1, fun _ => False⟩
  have hE : E0 0 = some en := rfl
  have hbv : (bytesV b).length = b.length := by simp [bytesV]
  have hw : WR G E0 (.node .nil (some (.cells b.length el 0 false false undef tr)) .nil) w := by
    have h0 : ∀ k C, (T.node .nil (some (Blk.cells b.length el 0 false false undef tr)) .nil).find k = some C → k = 0 ∧ C = .cells b.length el 0 false false undef tr := by
      intro k C hk
      cases k with
      | zero => rw [T.find_zero] at hk; cases hk; exact ⟨rfl, rfl⟩
      | succ k => rw [T.find_succ] at hk; split at hk <;> cases hk
    refine ⟨fun k C hk => ?_, fun k j C D e f hk hj he hf hef => ?_, rfl, rfl, rfl, fun b hb => ⟨hb, rfl⟩, Nat.le_refl _⟩
    · obtain ⟨rfl, rfl⟩ := h0 k C hk
      refine ⟨en, rfl, ⟨c, fr, hbk, fun i hi => ?_, ?_, fun x => (by cases x), fun x => (by cases x), okB_put (t := .nil) hok htr (fun i hi hn => absurd ⟨Nat.zero_le _, by omega⟩ hn)⟩, fun x => (by cases x), fun _ => rfl⟩
      · have hx := hc i b[i] (List.getElem?_eq_getElem hi)
        refine ⟨_, hx, ?_⟩
        rw [htr, if_pos (by omega), Nat.sub_zero, List.getD_eq_getElem?_getD]
        have : (bytesV b)[i]? = some (.int .u8 (.ofNat b[i])) := by simp [bytesV, hi]
        rw [this]
        exact .flat rfl
      · have hx := hc 0 b[0] (List.getElem?_eq_getElem (by omega))
        have := (Array.getElem?_eq_some_iff.1 hx).1
        show o + cap * 0 ≤ c.size
        omega
    · obtain ⟨rfl, _⟩ := h0 k C hk
      obtain ⟨rfl, _⟩ := h0 j D hj
      rfl
  have hfresh : Fresh G E0 1 := ⟨fun k hk => by show (if k = 0 then some en else none) = none; rw [if_neg (by omega)], fun k hk => hk.elim⟩
  have hl : LR E0 [.slice (some ⟨0, 0, none⟩) b.length TOP] [.slice (some ⟨bk, o, none⟩) (n' + 1) cap] := by
    refine .cons ?_ (LR.nil _)
    rw [hbl]
    exact VR.sl (k := 0) (o := 0) hE (Or.inr ⟨by decide, rfl⟩) hcap
  have := (enter_ok A.tab (ev_sound A.mixed A.tab A.ins A.memo A.tell A.rule n) sameJ_ok (r := Value.agg ⟨vs⟩) h hw hfresh hl (m := m) (ro := ro) (Rr := fun e w' => e = .returned (.agg ⟨vs⟩) ∧ w'.os = w.os ∧ w'.tape = w.tape ∧ w'.output = w.output ∧ w.heap.size ≤ w'.heap.size ∧ ∀ j, j < w.heap.size → w'.heap[j]? = w.heap[j]?) (by
    intro u h' E' v' w' hu hle hf hw hv'
    cases hu
    have hb := hw.below (w := w) rfl (fun b hb => hb)
    refine ⟨congrArg Ending.returned ?_, hb.os, hb.tape, hb.output, hb.size, hb.block⟩
    obtain ⟨l', h1, rfl⟩ := hv'.inv_agg
    rw [h1.plain_inv hp])).2
  exact this
theorem memoFind_mem {f : FuncId} {b : List Nat} {vs : List Value} : ∀ {m : List (FuncId × List Nat × List Value)}, memoFind f (b.map fun n => Value.int .u8 (.ofNat n)) m = some vs → (f, b, vs) ∈ m
  | [], h => by cases h
  | (g, d, u) :: m, h => by
    unfold memoFind at h
    split at h
    · rename_i hb
      rw [Bool.and_eq_true] at hb
      have h1 := eqB_eq hb.2
      cases h
      have := Nat.eq_of_beq_eq_true hb.1
      subst this
      have h2 : b = d := by
        have hinj : Function.Injective (fun n : Nat => Value.int .u8 (.ofNat n)) := fun x y h => by injection h with _ h; exact Int.ofNat.inj h
        exact (List.map_inj_right (fun x y h => hinj h)).1 h1
      subst h2
      exact List.mem_cons_self
    · exact List.mem_cons_of_mem _ (memoFind_mem h)
/-- tries, looked through. -/
noncomputable def T.All {α : Type} : (Nat → α → Prop) → T α → Prop
  | _, .nil => True
  | p, .node l v r => (match v with | some x => p 0 x | none => True) ∧ T.All (fun k => p (2 * k + 1)) l ∧ T.All (fun k => p (2 * k + 2)) r
  | _, .shift _ _ => False
noncomputable def T.allB {α : Type} (p : α → Bool) : T α → Bool
  | .nil => true
  | .node l v r => (match v with | some x => p x | none => true) && (T.allB p l && T.allB p r)
  | .shift _ t => T.allB p t
theorem T.allB_find {α : Type} {p : α → Bool} : ∀ {t : T α} {k : Nat} {x : α}, T.allB p t = true → t.find k = some x → p x = true
  | .nil, k, x, _, h => by cases h
  | .node l v r, k, x, ha, h => by
    simp only [T.allB, Bool.and_eq_true] at ha
    obtain ⟨h1, h2, h3⟩ := ha
    cases k with
    | zero =>
      rw [T.find_zero] at h
      subst h
      exact h1
    | succ k =>
      rw [T.find_succ] at h
      split at h
      · exact T.allB_find h2 h
      · exact T.allB_find h3 h
  | .shift n t, k, x, ha, h => T.allB_find (t := t) ha h
theorem infoOf {t : TypeId} {i : TypeInfo} (h : P.types[t]? = some i) : P.info? t = some i := by
  unfold Tables.info?
  rw [if_pos (Array.getElem?_eq_some_iff.1 h).1]
  exact h
theorem T.All.find {α : Type} : ∀ {t : T α} {p : Nat → α → Prop} {k : Nat} {x : α}, T.All p t → t.find k = some x → p k x
  | .nil, p, k, x, _, h => by cases h
  | .node l v r, p, k, x, ha, h => by
    obtain ⟨h1, h2, h3⟩ := ha
    cases k with
    | zero =>
      rw [T.find_zero] at h
      subst h
      exact h1
    | succ k =>
      rw [T.find_succ] at h
      split at h
      · have := T.All.find h2 h
        have e : 2 * (k / 2) + 1 = k + 1 := by omega
        rw [e] at this
        exact this
      · have := T.All.find h3 h
        have e : 2 * (k / 2) + 2 = k + 1 := by omega
        rw [e] at this
        exact this
  | .shift n t, p, k, x, ha, h => ha.elim
end
end Go.Ev
