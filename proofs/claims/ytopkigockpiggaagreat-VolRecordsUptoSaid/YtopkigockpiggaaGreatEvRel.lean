/-
  What an evaluator's state says of a world.
-/
import Derived.Test.YtopkigockpiggaaGreatEvDef
import Derived.Below
import Derived.Laws.IdiomCopy
import Derived.WalkKit
set_option linter.unusedVariables false
set_option linter.unusedSimpArgs false
namespace Go.Ev
/-- where a name's block lies: the block, the place of its first cell, how many elements may lie there. -/
structure Ent where
  b : Nat
  o : Nat
  cap : Nat
  hcap : cap ≤ 9223372036854775807 := by first | decide | assumption | omega
abbrev Env := Nat → Option Ent
noncomputable def Env.le (E E' : Env) : Prop := ∀ k e, E k = some e → E' k = some e
theorem Env.le.refl (E : Env) : E.le E := fun _ _ h => h
theorem Env.le.trans {E E' E'' : Env} (h : E.le E') (g : E'.le E'') : E.le E'' := fun k e x => g k e (h k e x)
noncomputable def capR (cap c c' : Nat) : Prop := (c < 4611686018427387904 ∧ c' = c) ∨ (4611686018427387904 ≤ c ∧ c' + TOP = cap + c)
noncomputable def FR (E : Env) (f g : Fn) : Prop :=
  match f with
  | .yield l => ∃ e, E l = some e ∧ g = .yield e.b
  | f => g = f
inductive VR (E : Env) : Value → Value → Prop where
  | flat {v : Value} (h : isFlat v = true) : VR E v v
  | ptr {k o : Nat} {e : Ent} (h : E k = some e) : VR E (.pointer (some ⟨k, o, none⟩)) (.pointer (some ⟨e.b, e.o + o, none⟩))
  | sl {k o l c c' : Nat} {e : Ent} (h : E k = some e) (hc : capR e.cap c c') (hl : l ≤ c') : VR E (.slice (some ⟨k, o, none⟩) l c) (.slice (some ⟨e.b, e.o + o, none⟩) l c')
  | vague {a : Option Addr} {c : Nat} : VR E vague (.slice a 0 c)
  | map {k : Nat} {e : Ent} (h : E k = some e) : VR E (.map (some k)) (.map (some e.b))
  /-- a value of which nothing is known. -/
  | any {v' : Value} (h : v'.oneCell' = true) (hb : ∀ b, v' ≠ .bool b) : VR E (.chan (some 0)) v'
  | func {f g : Fn} {a a' c c' : List Value} (h : FR E f g) (ha : a.length = a'.length) (hav : ∀ (i : Nat) (v v' : Value), a[i]? = some v → a'[i]? = some v' → VR E v v')
      (hc : c.length = c'.length) (hcv : ∀ (i : Nat) (v v' : Value), c[i]? = some v → c'[i]? = some v' → VR E v v') : VR E (.func f ⟨a⟩ ⟨c⟩) (.func g ⟨a'⟩ ⟨c'⟩)
  | iface {t : TypeId} {v v' : Value} (h : VR E v v') : VR E (.iface t v) (.iface t v')
  | agg {a a' : List Value} (ha : a.length = a'.length) (hav : ∀ (i : Nat) (v v' : Value), a[i]? = some v → a'[i]? = some v' → VR E v v') : VR E (.agg ⟨a⟩) (.agg ⟨a'⟩)
  | tuple {a a' : List Value} (ha : a.length = a'.length) (hav : ∀ (i : Nat) (v v' : Value), a[i]? = some v → a'[i]? = some v' → VR E v v') : VR E (.tuple ⟨a⟩) (.tuple ⟨a'⟩)
/-- lists of values. -/
noncomputable def LR (E : Env) (a a' : List Value) : Prop := a.length = a'.length ∧ ∀ (i : Nat) (v v' : Value), a[i]? = some v → a'[i]? = some v' → VR E v v'
theorem FR.mono {E E' : Env} (h : E.le E') {f g : Fn} (r : FR E f g) : FR E' f g := by
  cases f <;> simp only [FR] at r ⊢ <;> first | exact r | (obtain ⟨e, x, y⟩ := r; exact ⟨e, h _ _ x, y⟩)
theorem VR.mono {E E' : Env} (h : E.le E') {v v' : Value} (r : VR E v v') : VR E' v v' := by
  induction r with
  | flat h => exact .flat h
  | ptr x => exact .ptr (h _ _ x)
  | sl x y z => exact .sl (h _ _ x) y z
  | vague => exact .vague
  | map x => exact .map (h _ _ x)
  | any x y => exact .any x y
  | func x ha _ hc _ iha ihc => exact .func (x.mono h) ha iha hc ihc
  | iface _ ih => exact .iface ih
  | agg ha _ ih => exact .agg ha ih
  | tuple ha _ ih => exact .tuple ha ih
theorem LR.mono {E E' : Env} (h : E.le E') {a a' : List Value} (r : LR E a a') : LR E' a a' := ⟨r.1, fun i v v' x y => (r.2 i v v' x y).mono h⟩
theorem LR.nil (E : Env) : LR E [] [] := ⟨rfl, fun i v v' h => by simp at h⟩
theorem LR.cons {E : Env} {v v' : Value} {a a' : List Value} (h : VR E v v') (r : LR E a a') : LR E (v :: a) (v' :: a') :=
  ⟨by simp [r.1], fun i u u' x y => by
    cases i with
    | zero => simp at x y; subst x y; exact h
    | succ i => simp at x y; exact r.2 i u u' x y⟩
theorem LR.uncons {E : Env} {v : Value} {a a' : List Value} (r : LR E (v :: a) a') : ∃ v' b, a' = v' :: b ∧ VR E v v' ∧ LR E a b := by
  cases a' with
  | nil => simp [LR] at r
  | cons v' b => exact ⟨v', b, rfl, r.2 0 v v' rfl rfl, by simpa using r.1, fun i u u' x y => r.2 (i + 1) u u' (by simpa using x) (by simpa using y)⟩
theorem LR.unnil {E : Env} {a' : List Value} (r : LR E [] a') : a' = [] := by
  cases a' with
  | nil => rfl
  | cons v' b => simp [LR] at r
theorem LR.append {E : Env} : ∀ {a a' b b' : List Value}, LR E a a' → LR E b b' → LR E (a ++ b) (a' ++ b')
  | [], a', b, b', h, g => by rw [h.unnil]; exact g
  | v :: a, a', b, b', h, g => by obtain ⟨v', c, rfl, hv, hr⟩ := h.uncons; exact .cons hv (LR.append hr g)
theorem LR.take {E : Env} {a a' : List Value} (h : LR E a a') (n : Nat) : LR E (a.take n) (a'.take n) :=
  ⟨by simp [h.1], fun i v v' x y => by
    rw [List.getElem?_take] at x y
    split at x
    · rename_i hi; rw [if_pos hi] at y; exact h.2 i v v' x y
    · cases x⟩
theorem LR.drop {E : Env} {a a' : List Value} (h : LR E a a') (n : Nat) : LR E (a.drop n) (a'.drop n) :=
  ⟨by simp [h.1], fun i v v' x y => by rw [List.getElem?_drop] at x y; exact h.2 _ v v' x y⟩
theorem LR.get {E : Env} {a a' : List Value} (h : LR E a a') {i : Nat} {v : Value} (hv : a[i]? = some v) : ∃ v', a'[i]? = some v' ∧ VR E v v' := by
  have hi : i < a.length := (List.getElem?_eq_some_iff.1 hv).1
  have hi' : i < a'.length := h.1 ▸ hi
  exact ⟨a'[i], List.getElem?_eq_getElem hi', h.2 i v _ hv (List.getElem?_eq_getElem hi')⟩
theorem LR.flats (E : Env) (a : List Value) (h : ∀ v ∈ a, isFlat v = true) : LR E a a :=
  ⟨rfl, fun i v v' x y => by rw [x] at y; cases y; exact .flat (h v (List.mem_of_getElem? x))⟩
theorem flat_agg {l : List Value} (h : isFlat (.agg ⟨l⟩) = true) : ∀ v ∈ l, isFlat v = true := by
  intro v hv
  simp only [isFlat, List.all_eq_true] at h
  have := h v hv
  revert this
  cases v with
  | pointer a => cases a <;> simp [isFlat]
  | slice a => cases a <;> simp [isFlat]
  | map a => cases a <;> simp [isFlat]
  | _ => simp [isFlat]
/-! what a value is, of what is known of it -/
theorem VR.inv_bool {E : Env} {b : Bool} {v' : Value} (h : VR E (.bool b) v') : v' = .bool b := by cases h; rfl
theorem VR.inv_int {E : Env} {k : IntKind} {n : Int} {v' : Value} (h : VR E (.int k n) v') : v' = .int k n := by cases h; rfl
theorem VR.inv_str {E : Env} {s : ByteArray} {v' : Value} (h : VR E (.string s) v') : v' = .string s := by cases h; rfl
theorem VR.inv_pnil {E : Env} {v' : Value} (h : VR E (.pointer none) v') : v' = .pointer none := by cases h; rfl
theorem VR.inv_ptr {E : Env} {k o : Nat} {s : Option Nat} {v' : Value} (h : VR E (.pointer (some ⟨k, o, s⟩)) v') : ∃ e, E k = some e ∧ s = none ∧ v' = .pointer (some ⟨e.b, e.o + o, none⟩) := by
  cases h with
  | flat h => simp [isFlat] at h
  | ptr h => exact ⟨_, h, rfl, rfl⟩
theorem VR.inv_slnil {E : Env} {l c : Nat} {v' : Value} (h : VR E (.slice none l c) v') : v' = .slice none l c := by cases h; rfl
theorem VR.inv_sl {E : Env} {k o l c : Nat} {v' : Value} (h : VR E (.slice (some ⟨k, o, none⟩) l c) v') : ∃ e c', E k = some e ∧ capR e.cap c c' ∧ l ≤ c' ∧ v' = .slice (some ⟨e.b, e.o + o, none⟩) l c' := by
  cases h with
  | flat h => simp [isFlat] at h
  | sl h hc hl => exact ⟨_, _, h, hc, hl, rfl⟩
theorem VR.inv_vague {E : Env} {k o s l c : Nat} {v' : Value} (h : VR E (.slice (some ⟨k, o, some s⟩) l c) v') : l = 0 ∧ ∃ a c', v' = .slice a 0 c' := by
  generalize hx : Value.slice (some ⟨k, o, some s⟩) l c = x at h
  cases h with
  | flat h => subst hx; simp [isFlat] at h
  | vague => unfold Ev.vague at hx; injection hx with _ h2 _; exact ⟨h2, _, _, rfl⟩
  | _ => simp at hx
theorem VR.inv_mapnil {E : Env} {v' : Value} (h : VR E (.map none) v') : v' = .map none := by cases h; rfl
theorem VR.inv_map {E : Env} {k : Nat} {v' : Value} (h : VR E (.map (some k)) v') : ∃ e, E k = some e ∧ v' = .map (some e.b) := by
  cases h with
  | flat h => simp [isFlat] at h
  | map h => exact ⟨_, h, rfl⟩
theorem VR.inv_nilFunc {E : Env} {v' : Value} (h : VR E .nilFunc v') : v' = .nilFunc := by cases h; rfl
theorem VR.inv_nilIface {E : Env} {v' : Value} (h : VR E .nilIface v') : v' = .nilIface := by cases h; rfl
theorem VR.inv_func {E : Env} {f : Fn} {a c : List Value} {v' : Value} (h : VR E (.func f ⟨a⟩ ⟨c⟩) v') : ∃ g a' c', FR E f g ∧ LR E a a' ∧ LR E c c' ∧ v' = .func g ⟨a'⟩ ⟨c'⟩ := by
  cases h with
  | flat h =>
    cases f <;> simp [isFlat, Array.isEmpty] at h
    obtain ⟨rfl, rfl⟩ := h
    exact ⟨_, [], [], rfl, LR.nil E, LR.nil E, rfl⟩
  | func h ha hav hc hcv => exact ⟨_, _, _, h, ⟨ha, hav⟩, ⟨hc, hcv⟩, rfl⟩
theorem VR.inv_iface {E : Env} {t : TypeId} {v v' : Value} (h : VR E (.iface t v) v') : ∃ u, VR E v u ∧ v' = .iface t u := by
  cases h with
  | flat h => simp [isFlat] at h
  | iface h => exact ⟨_, h, rfl⟩
theorem VR.inv_agg {E : Env} {l : List Value} {v' : Value} (h : VR E (.agg ⟨l⟩) v') : ∃ l', LR E l l' ∧ v' = .agg ⟨l'⟩ := by
  cases h with
  | flat h => exact ⟨l, LR.flats E l (flat_agg h), rfl⟩
  | agg ha hav => exact ⟨_, ⟨ha, hav⟩, rfl⟩
theorem VR.inv_tuple {E : Env} {l : List Value} {v' : Value} (h : VR E (.tuple ⟨l⟩) v') : ∃ l', LR E l l' ∧ v' = .tuple ⟨l'⟩ := by
  cases h with
  | flat h => simp [isFlat] at h
  | tuple ha hav => exact ⟨_, ⟨ha, hav⟩, rfl⟩
theorem VR.undef (E : Env) : VR E Go.undef Go.undef := .tuple (a := []) (a' := []) rfl (fun i v v' h => by simp at h)
noncomputable def tmGet (tm : T Value) (t : Nat) : Value := match tm.find t with | some v => v | none => Go.undef
theorem tmGet_put (tm : T Value) (d : Nat) (v : Value) (t : Nat) : tmGet (tm.put d (some v)) t = if t = d then v else tmGet tm t := by
  unfold tmGet; rw [T.find_put]; by_cases h : t = d <;> simp [h]
/-- the temporaries. -/
structure TR (E : Env) (tm : T Value) (ntm : Nat) (a : Array Value) : Prop where
  size : a.size = ntm
  val : ∀ t v', a[t]? = some v' → VR E (tmGet tm t) v'
  out : ∀ t, ntm ≤ t → tmGet tm t = Go.undef
theorem TR.mono {E E' : Env} (h : E.le E') {tm : T Value} {n : Nat} {a : Array Value} (r : TR E tm n a) : TR E' tm n a := ⟨r.size, fun t v' x => (r.val t v' x).mono h, r.out⟩
theorem TR.put {E : Env} {tm : T Value} {n : Nat} {a : Array Value} (r : TR E tm n a) (d : Nat) (hd : d < n) {v v' : Value} (h : VR E v v') : TR E (tm.put d (some v)) n (a.setIfInBounds d v') :=
  ⟨by simp [r.size], fun t u hu => by
    rw [tmGet_put]
    rw [Array.getElem?_setIfInBounds] at hu
    split at hu
    · rename_i e; subst e
      split at hu
      · cases hu; rw [if_pos rfl]; exact h
      · cases hu
    · rename_i e; rw [if_neg (fun x => e x.symm)]; exact r.val t u hu,
   fun t ht => by rw [tmGet_put, if_neg (by omega)]; exact r.out t ht⟩
theorem TR.eval {E : Env} {tm : T Value} {n : Nat} {a : Array Value} (r : TR E tm n a) (t : Nat) : VR E (tmGet tm t) (a.getD t Go.undef) := by
  rw [Array.getD_eq_getD_getElem?]
  cases h : a[t]? with
  | some v => exact r.val t v h
  | none =>
    rw [Array.getElem?_eq_none_iff] at h
    rw [r.out t (by rw [← r.size]; exact h)]
    exact VR.undef E
/-- no cell of a block's is a struct. -/
noncomputable def okB (n : Nat) (d : Value) (t : T Value) : Prop := ∀ i, i < n → cellOk (blkGet d t i) = true
/-- a map's entries. -/
noncomputable def ER (E : Env) : List MapEntry → List MapEntry → Prop
  | [], [] => True
  | a :: x, b :: y => (VR E a.key b.key ∧ VR E a.val b.val ∧ a.born = b.born) ∧ ER E x y
  | _, _ => False
theorem ER.mono {E E' : Env} (h : E.le E') : ∀ {x y : List MapEntry}, ER E x y → ER E' x y
  | [], [], _ => trivial
  | [], _ :: _, r => r.elim
  | _ :: _, [], r => r.elim
  | _ :: _, _ :: _, r => ⟨⟨r.1.1.mono h, r.1.2.1.mono h, r.1.2.2⟩, ER.mono h r.2⟩
theorem ER.length {E : Env} : ∀ {x y : List MapEntry}, ER E x y → x.length = y.length
  | [], [], _ => rfl
  | [], _ :: _, r => r.elim
  | _ :: _, [], r => r.elim
  | _ :: _, _ :: _, r => congrArg (· + 1) (ER.length r.2)
/-- a block. -/
noncomputable def BR (E : Env) (B : Blk) (e : Ent) (o : Option Obj) : Prop :=
  match B with
  | .cells n elem esz mu pl d t => ∃ c fr, o = some (.cells c elem fr) ∧ (∀ i, i < n → ∃ v', c[e.o + i]? = some v' ∧ VR E (blkGet d t i) v') ∧ e.o + e.cap * esz ≤ c.size ∧
      (mu = true → fr = (0, 0) ∨ fr = (c.size, c.size + 1)) ∧ (pl = true → fr = (0, 0)) ∧ okB n d t
  | .loop st p _ ntm tm ps as bd df => ∃ fn tms ed, o = some (.loop { state := st, pending := p, fn, tmps := tms, params := ps.toArray, assign := as, body := bd, defers := ed.b }) ∧ TR E tm ntm tms ∧ E df = some ed
  | .deferred opened => o = some (.deferred (if opened then some [] else none))
  | .map es k => ∃ es', o = some (.map ⟨es'⟩ k) ∧ ER E es es'
  | .iter m since seen st => e.o = 0 ∧ ∃ mb, o = some (.mapIter mb since ⟨seen⟩ st) ∧ (match m with | none => mb = none | some k => ∃ em, E k = some em ∧ mb = some em.b)
theorem BR.mono {E E' : Env} (h : E.le E') {B : Blk} {e : Ent} {o : Option Obj} (r : BR E B e o) : BR E' B e o := by
  cases B with
  | cells n elem esz ti pl d t =>
    obtain ⟨c, fr, h1, h2, h3⟩ := r
    exact ⟨c, fr, h1, fun i hi => let ⟨v', x, y⟩ := h2 i hi; ⟨v', x, y.mono h⟩, h3⟩
  | loop st p fn ntm tm ps as bd df =>
    obtain ⟨fn, tms, ed, h1, h2, h3⟩ := r
    exact ⟨fn, tms, ed, h1, h2.mono h, h _ _ h3⟩
  | deferred o => exact r
  | map es k => obtain ⟨es', h1, h2⟩ := r; exact ⟨es', h1, h2.mono h⟩
  | iter m since seen st =>
    obtain ⟨h0, mb, h1, h2⟩ := r
    refine ⟨h0, mb, h1, ?_⟩
    cases m with
    | none => exact h2
    | some k => obtain ⟨em, h3, h4⟩ := h2; exact ⟨em, h _ _ h3, h4⟩
/-- what must stay as it was. -/
structure Ctx where
  w0 : World
  /-- blocks that stay. -/
  fr : Nat → Prop
  /-- of these: blocks that may be read. -/
  ro : Nat → Prop
  sub : ∀ b, ro b → fr b
  /-- names that are not to be given. -/
  no : Nat → Prop
noncomputable def mutB : Blk → Bool | .cells _ _ _ mu _ _ _ => mu | _ => true
structure WR (G : Ctx) (E : Env) (t : T Blk) (w : World) : Prop where
  blk : ∀ k B, t.find k = some B → ∃ e, E k = some e ∧ BR E B e w.heap[e.b]? ∧ (mutB B = true → ¬ G.fr e.b) ∧ (mutB B = false → G.ro e.b)
  inj : ∀ k j B C e f, t.find k = some B → t.find j = some C → E k = some e → E j = some f → e.b = f.b → k = j
  os : w.os = G.w0.os
  tape : w.tape = G.w0.tape
  output : w.output = G.w0.output
  keep : ∀ b, G.fr b → b < G.w0.heap.size ∧ w.heap[b]? = G.w0.heap[b]?
  size : G.w0.heap.size ≤ w.heap.size
noncomputable def Fresh (G : Ctx) (E : Env) (next : Nat) : Prop := (∀ k, next ≤ k → E k = none) ∧ ∀ k, G.no k → k < next ∧ E k = none
theorem WR.lt {G : Ctx} {E : Env} {t : T Blk} {w : World} (r : WR G E t w) {k : Nat} {B : Blk} {e : Ent} (h : t.find k = some B) (he : E k = some e) : e.b < w.heap.size := by
  obtain ⟨f, hf, hb, _⟩ := r.blk k B h
  rw [he] at hf; cases hf
  have : ∃ o, w.heap[e.b]? = some o := by
    cases B with
    | cells => obtain ⟨c, fr, h1, _⟩ := hb; exact ⟨_, h1⟩
    | loop => obtain ⟨fn, tms, ed, h1, _⟩ := hb; exact ⟨_, h1⟩
    | deferred => exact ⟨_, hb⟩
    | map => obtain ⟨es', h1, _⟩ := hb; exact ⟨_, h1⟩
    | iter => obtain ⟨_, mb, h1, _⟩ := hb; exact ⟨_, h1⟩
  obtain ⟨o, ho⟩ := this
  exact (Array.getElem?_eq_some_iff.1 ho).1
/-- fewer names. -/
theorem WR.sub {G : Ctx} {E : Env} {t t' : T Blk} {w : World} (r : WR G E t w) (h : ∀ k B, t'.find k = some B → t.find k = some B) : WR G E t' w :=
  ⟨fun k B x => r.blk k B (h k B x), fun k j B C e f x y => r.inj k j B C e f (h k B x) (h j C y), r.os, r.tape, r.output, r.keep, r.size⟩
/-- a draw. -/
theorem WR.drawn {G : Ctx} {E : Env} {t : T Blk} {w : World} (r : WR G E t w) (n : Nat) : WR G E t { w with drawn := n } :=
  ⟨r.blk, r.inj, r.os, r.tape, r.output, r.keep, r.size⟩
noncomputable def Env.set (E : Env) (k : Nat) (e : Ent) : Env := fun j => if j = k then some e else E j
theorem Env.le_set {E : Env} {k : Nat} {e : Ent} (h : E k = none) : E.le (E.set k e) := fun j f hf => by
  unfold Env.set; split
  · rename_i x; subst x; rw [h] at hf; cases hf
  · exact hf
theorem Env.set_self (E : Env) (k : Nat) (e : Ent) : E.set k e k = some e := by simp [Env.set]
theorem Env.set_other (E : Env) {k j : Nat} (e : Ent) (h : j ≠ k) : E.set k e j = E j := by simp [Env.set, h]
theorem Fresh.at {G : Ctx} {E : Env} {n : Nat} (h : Fresh G E n) : E n = none := h.1 n (Nat.le_refl _)
theorem Fresh.next {G : Ctx} {E : Env} {n : Nat} (h : Fresh G E n) (e : Ent) : Fresh G (E.set n e) (n + 1) :=
  ⟨fun j hj => by rw [Env.set_other _ _ (by omega)]; exact h.1 j (by omega), fun j hj => by obtain ⟨a, b⟩ := h.2 j hj; exact ⟨by omega, by rw [Env.set_other _ _ (by omega)]; exact b⟩⟩
theorem Fresh.mono {G : Ctx} {E : Env} {n m : Nat} (h : Fresh G E n) (hm : n ≤ m) : Fresh G E m := ⟨fun j hj => h.1 j (by omega), fun j hj => ⟨Nat.lt_of_lt_of_le (h.2 j hj).1 hm, (h.2 j hj).2⟩⟩
/-- a new block. -/
theorem WR.new {G : Ctx} {E : Env} {t : T Blk} {w : World} (r : WR G E t w) (k : Nat) (hk : E k = none) (B : Blk) (hm : mutB B = true) (e : Ent) (o : Obj) (he : e.b = w.heap.size)
    (hb : BR (E.set k e) B e (some o)) : WR G (E.set k e) (t.put k (some B)) { w with heap := w.heap.push o } := by
  have hle := Env.le_set (e := e) hk
  refine ⟨?_, ?_, r.os, r.tape, r.output, ?_, ?_⟩
  · intro j C hj
    rw [T.find_put] at hj
    split at hj
    · rename_i x; subst x; cases hj
      exact ⟨e, Env.set_self _ _ _, by rw [he]; simpa using hb, fun _ hf => by have := (r.keep _ hf).1; have := r.size; omega, fun x => by rw [hm] at x; cases x⟩
    · obtain ⟨f, hf, hB, hn⟩ := r.blk j C hj
      refine ⟨f, hle _ _ hf, ?_, hn⟩
      have hlt := r.lt hj hf
      have : (w.heap.push o)[f.b]? = w.heap[f.b]? := by rw [Array.getElem?_push]; simp [Nat.ne_of_lt hlt]
      show BR _ _ _ (w.heap.push o)[f.b]?
      rw [this]; exact hB.mono hle
  · intro j i C D f g hj hi hf hg hfg
    rw [T.find_put] at hj hi
    have old : ∀ (j : Nat) (C : Blk) (f : Ent), t.find j = some C → (E.set k e) j = some f → f.b < w.heap.size := fun j C f h1 h2 => by
      obtain ⟨f', hf', _⟩ := r.blk j C h1
      have := hle _ _ hf'; rw [h2] at this; cases this
      exact r.lt h1 hf'
    split at hj
    · rename_i x; subst x
      rw [Env.set_self] at hf; cases hf
      split at hi
      · rename_i y; exact y.symm
      · have := old i D g hi hg; omega
    · rename_i x
      split at hi
      · rename_i y; subst y
        rw [Env.set_self] at hg; cases hg
        have := old j C f hj hf; omega
      · rename_i y
        rw [Env.set_other _ _ x] at hf
        rw [Env.set_other _ _ y] at hg
        exact r.inj j i C D f g hj hi hf hg hfg
  · intro b hb'
    refine ⟨(r.keep b hb').1, ?_⟩
    have : b < w.heap.size := Nat.lt_of_lt_of_le (r.keep b hb').1 r.size
    have h2 : (w.heap.push o)[b]? = w.heap[b]? := by rw [Array.getElem?_push]; simp [Nat.ne_of_lt this]
    exact h2.trans (r.keep b hb').2
  · have := r.size; simp; omega
/-- a block is written. -/
theorem WR.set {G : Ctx} {E : Env} {t : T Blk} {w w' : World} (r : WR G E t w) {k : Nat} {B : Blk} {e : Ent} (hB : t.find k = some B) (he : E k = some e) (hm : mutB B = true) (C : Blk) (hmC : mutB C = true)
    (hs : w'.heap.size = w.heap.size) (ho : ∀ j, j ≠ e.b → w'.heap[j]? = w.heap[j]?) (hb : BR E C e w'.heap[e.b]?)
    (h1 : w'.os = w.os) (h2 : w'.tape = w.tape) (h3 : w'.output = w.output) : WR G E (t.put k (some C)) w' := by
  have hn : ¬ G.fr e.b := by obtain ⟨f, hf, _, hn, _⟩ := r.blk k B hB; rw [he] at hf; cases hf; exact hn hm
  refine ⟨?_, ?_, h1.trans r.os, h2.trans r.tape, h3.trans r.output, ?_, hs ▸ r.size⟩
  · intro j D hj
    rw [T.find_put] at hj
    split at hj
    · rename_i x; subst x; cases hj; exact ⟨e, he, hb, fun _ => hn, fun x => by rw [hmC] at x; cases x⟩
    · rename_i x
      obtain ⟨f, hf, hD, hnf⟩ := r.blk j D hj
      exact ⟨f, hf, by rw [ho _ (fun y => x (r.inj j k D B f e hj hB hf he y))]; exact hD, hnf⟩
  · intro j i D F f g hj hi hf hg hfg
    have tr : ∀ (j : Nat) (D : Blk), (t.put k (some C)).find j = some D → ∃ D', t.find j = some D' := fun j D h => by
      rw [T.find_put] at h; split at h
      · rename_i x; subst x; exact ⟨_, hB⟩
      · exact ⟨_, h⟩
    obtain ⟨D', hj⟩ := tr j D hj
    obtain ⟨F', hi⟩ := tr i F hi
    exact r.inj j i D' F' f g hj hi hf hg hfg
  · intro b hb'
    refine ⟨(r.keep b hb').1, ?_⟩
    rw [ho b (fun x => hn (x ▸ hb'))]
    exact (r.keep b hb').2
/-- a name goes. -/
theorem WR.kill {G : Ctx} {E : Env} {t : T Blk} {w : World} (r : WR G E t w) (k : Nat) : WR G E (t.put k none) w :=
  r.sub fun j B h => by rw [T.find_put] at h; split at h; cases h; exact h
/-- a block's name is another one from now on. -/
theorem WR.rename {G : Ctx} {E : Env} {t : T Blk} {w w' : World} (r : WR G E t w) {k j : Nat} {B : Blk} {e : Ent} (hB : t.find k = some B) (he : E k = some e) (hm : mutB B = true) (hj : E j = none) (C : Blk) (hmC : mutB C = true) (f : Ent) (hf : f.b = e.b)
    (hs : w'.heap.size = w.heap.size) (ho : ∀ j, j ≠ e.b → w'.heap[j]? = w.heap[j]?) (hb : BR (E.set j f) C f w'.heap[e.b]?)
    (h1 : w'.os = w.os) (h2 : w'.tape = w.tape) (h3 : w'.output = w.output) : WR G (E.set j f) ((t.put j (some C)).put k none) w' := by
  have hn : ¬ G.fr e.b := by obtain ⟨f, hf, _, hn, _⟩ := r.blk k B hB; rw [he] at hf; cases hf; exact hn hm
  have hle := Env.le_set (e := f) hj
  have hjk : k ≠ j := fun x => by subst x; rw [he] at hj; cases hj
  refine ⟨?_, ?_, h1.trans r.os, h2.trans r.tape, h3.trans r.output, ?_, hs ▸ r.size⟩
  · intro i D hi
    rw [T.find_put] at hi
    split at hi
    · cases hi
    · rename_i x
      rw [T.find_put] at hi
      split at hi
      · rename_i y; subst y; cases hi
        exact ⟨f, Env.set_self _ _ _, by rw [hf]; exact hb, fun _ => by rw [hf]; exact hn, fun x => by rw [hmC] at x; cases x⟩
      · rename_i y
        obtain ⟨g, hg, hD, hng⟩ := r.blk i D hi
        exact ⟨g, hle _ _ hg, by rw [ho _ (fun z => x (r.inj i k D B g e hi hB hg he z))]; exact hD.mono hle, hng⟩
  · intro a b D F g l ha hb' hg hl hgl
    have tr : ∀ (i : Nat) (D : Blk) (g : Ent), ((t.put j (some C)).put k none).find i = some D → (E.set j f) i = some g → (i = j ∧ g = f) ∨ (i ≠ j ∧ i ≠ k ∧ t.find i = some D ∧ E i = some g) := fun i D g h hg => by
      rw [T.find_put] at h; split at h
      · cases h
      · rename_i x
        rw [T.find_put] at h; split at h
        · rename_i y; subst y; rw [Env.set_self] at hg; cases hg; exact Or.inl ⟨rfl, rfl⟩
        · rename_i y; rw [Env.set_other _ _ y] at hg; exact Or.inr ⟨y, x, h, hg⟩
    rcases tr a D g ha hg with ⟨rfl, rfl⟩ | ⟨a1, a2, a3, a4⟩ <;> rcases tr b F l hb' hl with ⟨rfl, rfl⟩ | ⟨b1, b2, b3, b4⟩
    · rfl
    · exact absurd (r.inj b k F B l e b3 hB b4 he (by rw [← hgl, hf])) b2
    · exact absurd (r.inj a k D B g e a3 hB a4 he (by rw [hgl, hf])) a2
    · exact r.inj a b D F g l a3 b3 a4 b4 hgl
  · intro b hb'
    refine ⟨(r.keep b hb').1, ?_⟩
    rw [ho b (fun x => hn (x ▸ hb'))]
    exact (r.keep b hb').2
end Go.Ev
