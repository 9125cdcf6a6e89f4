/-
  THE EVALUATOR TELLS THE TRUTH.
-/
import Derived.Test.YtopkigockpiggaaGreatEvDraw
set_option linter.unusedVariables false
set_option linter.unusedSimpArgs false
namespace Go.Ev
section
variable {R : Type} {P : Program} {B : Tab} {r : R}
/-- the rule for slices.Insert. -/
noncomputable def InsOK (P : Program) (B : Tab) : Prop :=
  ∀ (R : Type) (r : R) f fd sT iT vT, B.ins.contains f = true → B.fn.find f = some fd → fd.params.toList = [sT, iT, vT] → ∀ s i v h (c : Value → Hp → An R), insertK B sT s i v h c = .ok r →
    ∃ u h', c u h' = .ok r ∧ (∀ X w, (callFunc f X).run P w = .ok (.enter f X) w) ∧ ∀ G E w s' i' v', WR G E h.t w → Fresh G E h.next → VR E s s' → VR E i i' → VR E v v' → ∀ m ro,
      CallsIn (Fw ro) m P f #[s', i', v'] w fun e w' => ∃ E' u', e = .returned u' ∧ E.le E' ∧ Fresh G E' h'.next ∧ WR G E' h'.t w' ∧ VR E' u u'
/-- the rule for functions of bytes whose values are known. -/
noncomputable def MemoOK (P : Program) (B : Tab) : Prop :=
  ∀ f (b : List Nat) vs, B.ins.contains f = true → memoFind f (b.map fun n => Value.int .u8 (.ofNat n)) B.memo = some vs → isFlat (.agg ⟨vs⟩) = true ∧ (∀ X w, (callFunc f X).run P w = .ok (.enter f X) w) ∧
    ∀ (w : World) (bk o n cap : Nat) (c : Array Value) (el : TypeId) (fr : Nat × Nat), w.heap[bk]? = some (.cells c el fr) → b.length = n + 1 → n + 1 ≤ cap → cap ≤ 9223372036854775807 →
      (∀ (i x : Nat), b[i]? = some x → c[o + i]? = some (.int .u8 (.ofNat x))) → ∀ m ro, CallsIn (Fw ro) m P f #[.slice (some ⟨bk, o, none⟩) (n + 1) cap] w fun e w' =>
        e = .returned (.agg ⟨vs⟩) ∧ w'.os = w.os ∧ w'.tape = w.tape ∧ w'.output = w.output ∧ w.heap.size ≤ w'.heap.size ∧ ∀ j, j < w.heap.size → w'.heap[j]? = w.heap[j]?
/-- the rule for functions whose values are known. -/
noncomputable def TellOK (P : Program) (B : Tab) : Prop :=
  ∀ f g, B.ins.contains f = true → (f, g) ∈ B.tell → ∀ l v, g l = some v → (∀ x ∈ l, plainV x = true) ∧ isFlat v = true ∧ (∀ X w, (callFunc f X).run P w = .ok (.enter f X) w) ∧
    ∀ (w : World) m ro, CallsIn (Fw ro) m P f ⟨l⟩ w fun e w' => e = .returned v ∧ w'.os = w.os ∧ w'.tape = w.tape ∧ w'.output = w.output ∧ w.heap.size ≤ w'.heap.size ∧ ∀ j, j < w.heap.size → w'.heap[j]? = w.heap[j]?
/-- the rule for calls whose work is known. -/
noncomputable def RuleOK (P : Program) (B : Tab) : Prop :=
  ∀ q ∈ B.rules, B.ins.contains q.f = true → (∀ X w, (callFunc q.f X).run P w = .ok (.enter q.f X) w) ∧ ∀ x h t1, ruleOk q x h = true → (∀ k, t1.find k = ((q.l1.reverse.lookup k).or (if q.l0.any (fun p => p.1 == k) then none else h.t.find k))) →
    ∀ G E w l', WR G E h.t w → Fresh G E h.next → LR E x l' → ∀ m ro,
      CallsIn (Fw ro) m P q.f ⟨l'⟩ w fun e w' => ∃ E' u', e = .returned u' ∧ E.le E' ∧ Fresh G E' q.n1 ∧ WR G E' t1 w' ∧ VR E' q.v1 u'
theorem dropK_ok : ∀ {l : List (Nat × Blk)} {t : T Blk} {c : T Blk → An R}, dropK l t c = .ok r → ∃ t', c t' = .ok r ∧ ∀ k, t'.find k = if l.any (fun p => p.1 == k) then none else t.find k
  | [], t, c, h => ⟨t, h, fun k => by simp⟩
  | (j, b) :: l, t, c, h => by
    unfold dropK at h
    rw [T.putK_eq] at h
    obtain ⟨t', h1, h2⟩ := dropK_ok h
    refine ⟨t', h1, fun k => ?_⟩
    rw [h2, T.find_put, List.any_cons]
    by_cases hk : k = j
    · subst hk; simp
    · have : (j == k) = false := by simp; omega
      rw [if_neg hk, this, Bool.false_or]
theorem addsK_ok : ∀ {l : List (Nat × Blk)} {t : T Blk} {c : T Blk → An R}, addsK l t c = .ok r → ∃ t', c t' = .ok r ∧ ∀ k, t'.find k = (l.reverse.lookup k).or (t.find k)
  | [], t, c, h => ⟨t, h, fun k => by simp⟩
  | (j, b) :: l, t, c, h => by
    unfold addsK at h
    rw [T.putK_eq] at h
    obtain ⟨t', h1, h2⟩ := addsK_ok h
    refine ⟨t', h1, fun k => ?_⟩
    rw [h2, T.find_put, List.reverse_cons, List.lookup_append]
    cases l.reverse.lookup k with
    | some x => rfl
    | none =>
      by_cases hk : k = j
      · subst hk; simp [List.lookup]
      · have : (k == j) = false := by simp; omega
        simp [List.lookup, this, hk]
theorem ruleFind_ok {f : FuncId} {x : List Value} {h : Hp} {q : Rule} : ∀ {l : List Rule}, ruleFind f x h l = some q → q ∈ l ∧ q.f = f ∧ ruleOk q x h = true
  | [], hq => by cases hq
  | p :: l, hq => by
    unfold ruleFind at hq
    have go : ruleFind f x h l = some q → q ∈ p :: l ∧ q.f = f ∧ ruleOk q x h = true := fun hq => by
      obtain ⟨a, b, c⟩ := ruleFind_ok hq
      exact ⟨List.mem_cons_of_mem _ a, b, c⟩
    split at hq
    · rename_i hf
      split at hq
      · rename_i ho
        cases hq
        exact ⟨List.mem_cons_self, (Nat.eq_of_beq_eq_true hf).symm, ho⟩
      · exact go hq
    · exact go hq
theorem WR.later {G : Ctx} {E : Env} {t : T Blk} {w w' : World} (r : WR G E t w) (h1 : w'.os = w.os) (h2 : w'.tape = w.tape) (h3 : w'.output = w.output) (h4 : w.heap.size ≤ w'.heap.size) (h5 : ∀ j, j < w.heap.size → w'.heap[j]? = w.heap[j]?) : WR G E t w' :=
  ⟨fun k B hk => by
    obtain ⟨e, a, b, c⟩ := r.blk k B hk
    exact ⟨e, a, by rw [h5 _ (r.lt hk a)]; exact b, c⟩, r.inj, h1.trans r.os, h2.trans r.tape, h3.trans r.output, fun b hb => by
    obtain ⟨x, y⟩ := r.keep b hb
    exact ⟨x, (h5 b (Nat.lt_of_lt_of_le x r.size)).trans y⟩, Nat.le_trans r.size h4⟩
theorem eqB_eq : ∀ {l : List Value} {d : List Nat}, eqB l d = true → l = d.map fun n => Value.int .u8 (.ofNat n)
  | [], [], _ => rfl
  | [], _ :: _, h => by cases h
  | v :: l, [], h => by
    unfold eqB at h
    split at h
    · rename_i e1 _; cases e1
    · rename_i e1 e2; cases e2
    · cases h
  | v :: l, m :: d, h => by
    unfold eqB at h
    split at h
    · rename_i e1 e2; cases e1
    · rename_i e1 e2
      cases e1; cases e2
      rw [Bool.and_eq_true] at h
      rw [eqB_eq h.2, Nat.eq_of_beq_eq_true h.1]; rfl
    · cases h
theorem memoFind_ints {f : FuncId} {l : List Value} {vs : List Value} : ∀ {m : List (FuncId × List Nat × List Value)}, memoFind f l m = some vs → ∃ d : List Nat, l = d.map fun n => Value.int .u8 (.ofNat n)
  | [], h => by cases h
  | (g, d, v) :: m, h => by
    unfold memoFind at h
    split at h
    · rename_i hb
      rw [Bool.and_eq_true] at hb
      exact ⟨d, eqB_eq hb.2⟩
    · exact memoFind_ints h
theorem eqS_plain {a b : Value} (hb : plainV b = true) (h : eqS a b = true) : a = b := eqS_eq h
theorem eqPs_eq : ∀ {l d : List Value}, eqPs l d = true → l = d ∧ ∀ v ∈ d, plainV v = true
  | [], [], _ => ⟨rfl, fun v hv => by cases hv⟩
  | [], _ :: _, h => by cases h
  | _ :: _, [], h => by cases h
  | a :: l, b :: d, h => by
    simp only [eqPs, Bool.and_eq_true] at h
    obtain ⟨h1, h2⟩ := eqPs_eq h.2.2
    rw [eqS_plain h.1 h.2.1, h1]
    refine ⟨rfl, fun v hv => ?_⟩
    rcases List.mem_cons.1 hv with rfl | hv
    · exact h.1
    · exact h2 v hv
theorem tellFind_mem {f : FuncId} {l : List Value} {v : Value} : ∀ {m : List (FuncId × (List Value → Option Value))}, tellFind f l m = some v → ∃ g, (f, g) ∈ m ∧ g l = some v
  | [], h => by cases h
  | (g, d) :: m, h => by
    unfold tellFind at h
    split at h
    · rename_i hb
      have := Nat.eq_of_beq_eq_true hb
      subst this
      split at h
      · rename_i hd
        cases h
        exact ⟨d, List.mem_cons_self, hd⟩
      · obtain ⟨g', h1, h2⟩ := tellFind_mem h
        exact ⟨g', List.mem_cons_of_mem _ h1, h2⟩
    · obtain ⟨g', h1, h2⟩ := tellFind_mem h
      exact ⟨g', List.mem_cons_of_mem _ h1, h2⟩
theorem forceK_eq (v : Value) (c : Value → An R) : forceK v c = c v := by
  unfold forceK
  split
  · exact fN_eq _ _
  · rfl
theorem told_ok {l d : List Value} {v u : Value} (h : told d v l = some u) : l = d ∧ u = v ∧ ∀ x ∈ d, plainV x = true := by
  unfold told at h
  split at h
  · rename_i he
    obtain ⟨h1, h2⟩ := eqPs_eq he
    cases h
    exact ⟨h1, rfl, h2⟩
  · cases h
theorem VR.plain_inv {E : Env} {v v' : Value} (h : VR E v v') (hp : plainV v = true) : v' = v := by
  cases h <;> first | rfl | (simp [plainV] at hp; done) | exact Bool.noConfusion hp
theorem LR.plain_inv {E : Env} : ∀ {l l' : List Value}, LR E l l' → (∀ x ∈ l, plainV x = true) → l' = l
  | [], l', h, _ => h.unnil
  | x :: l, l', h, hp => by
    obtain ⟨v', b, rfl, h1, h2⟩ := h.uncons
    rw [h1.plain_inv (hp x List.mem_cons_self), LR.plain_inv h2 (fun y hy => hp y (List.mem_cons_of_mem _ hy))]
theorem tell_ok (hT : TellOK P B) {f : FuncId} {l : List Value} {h : Hp} {c : Value → Hp → An R} (hins : B.ins.contains f = true) (hq : tellK B f l h c = .ok r) :
    ∃ u, c u h = .ok r ∧ (∀ X w, (callFunc f X).run P w = .ok (.enter f X) w) ∧ ∀ G E w l', WR G E h.t w → LR E l l' → ∀ m ro, CallsIn (Fw ro) m P f ⟨l'⟩ w fun e w' => ∃ u', e = .returned u' ∧ WR G E h.t w' ∧ VR E u u' := by
  unfold tellK at hq
  split at hq
  case h_2 => exact absurd hq no_ok
  rename_i v hv
  rw [forceK_eq] at hq
  obtain ⟨g, h1, hg⟩ := tellFind_mem hv
  obtain ⟨h2, hf, hcf, hrun⟩ := hT f g hins h1 l v hg
  refine ⟨v, hq, hcf, fun G E w l' hw hl m ro => ?_⟩
  rw [hl.plain_inv h2]
  refine CallsIn.mono (hrun w m ro) ?_
  rintro e' w' ⟨rfl, a1, a2, a3, a4, a5⟩
  exact ⟨_, rfl, hw.later a1 a2 a3 a4 a5, .flat hf⟩
theorem tellR_ok (hT : TellOK P B) (hU : RuleOK P B) {f : FuncId} {l : List Value} {h : Hp} {c : Value → Hp → An R} (hins : B.ins.contains f = true) (hq : tellR B f l h c = .ok r) :
    ∃ u h1, c u h1 = .ok r ∧ (∀ X w, (callFunc f X).run P w = .ok (.enter f X) w) ∧ ∀ G E w l', WR G E h.t w → Fresh G E h.next → LR E l l' → ∀ m ro, CallsIn (Fw ro) m P f ⟨l'⟩ w fun e w' => ∃ E' u', e = .returned u' ∧ E.le E' ∧ Fresh G E' h1.next ∧ WR G E' h1.t w' ∧ VR E' u u' := by
  unfold tellR at hq
  split at hq
  · rename_i q hf
    obtain ⟨q1, rfl, q3⟩ := ruleFind_ok hf
    obtain ⟨hcf, hr⟩ := hU q q1 hins
    obtain ⟨t1, hq, ht1⟩ := dropK_ok hq
    obtain ⟨t2, hq, ht2⟩ := addsK_ok hq
    refine ⟨_, _, hq, hcf, fun G E w l' hw hfr hl m ro => ?_⟩
    exact hr _ h t2 q3 (fun k => by rw [ht2, ht1]) G E w l' hw hfr hl m ro
  · obtain ⟨u, hq, hcf, hr⟩ := tell_ok hT hins hq
    refine ⟨u, h, hq, hcf, fun G E w l' hw hfr hl m ro => ?_⟩
    refine CallsIn.mono (hr G E w l' hw hl m ro) ?_
    rintro e w' ⟨u', rfl, a1, a2⟩
    exact ⟨E, u', rfl, Env.le.refl E, hfr, a1, a2⟩
theorem memo_ok (hM : MemoOK P B) (hT : TellOK P B) (hU : RuleOK P B) {f : FuncId} {x : Value} {h : Hp} {c : Value → Hp → An R} (hins : B.ins.contains f = true) (hq : memoK B f x h c = .ok r) :
    ∃ u h1, c u h1 = .ok r ∧ (∀ X w, (callFunc f X).run P w = .ok (.enter f X) w) ∧ ∀ G E w x', WR G E h.t w → Fresh G E h.next → VR E x x' → ∀ m ro, CallsIn (Fw ro) m P f #[x'] w fun e w' => ∃ E' u', e = .returned u' ∧ E.le E' ∧ Fresh G E' h1.next ∧ WR G E' h1.t w' ∧ VR E' u u' := by
  unfold memoK at hq
  split at hq
  case h_2 x hx =>
    obtain ⟨u, h1, hq, hcf, hr⟩ := tellR_ok hT hU hins hq
    refine ⟨u, h1, hq, hcf, fun G E w x' hw hfr hx m ro => ?_⟩
    exact hr G E w [x'] hw hfr (.cons hx (LR.nil E)) m ro
  rename_i k off n cap
  split at hq
  case h_2 => exact absurd hq no_ok
  rename_i hcT
  have hcT : cap ≤ TOP := Nat.le_of_ble_eq_true hcT
  obtain ⟨l, hq, hll, hcl, _⟩ := firstK_cells (P := P) hq
  split at hq
  case h_2 => exact absurd hq no_ok
  rename_i vs hvs
  obtain ⟨b, hb⟩ := memoFind_ints hvs
  rw [hb] at hvs
  obtain ⟨hfl, hcf, hrun⟩ := hM f b vs hins hvs
  refine ⟨_, h, hq, hcf, fun G E w x' hw hfr hx m ro => ?_⟩
  obtain ⟨e, c', hen, hcr, hlc, rfl⟩ := hx.inv_sl
  rcases hcl with h0 | ⟨mm, el, ez, ti, pl, d, tr, hk, hmm, hget⟩
  · cases h0
  obtain ⟨e2, he2, hbr, _⟩ := hw.blk k _ hk
  rw [hen] at he2; cases he2
  obtain ⟨cs, fr, g1, g2, g3, g4, g5⟩ := hbr
  have hbl : b.length = n + 1 := by rw [hb, List.length_map] at hll; omega
  refine CallsIn.mono (hrun w e.b (e.o + off) n c' cs el fr g1 hbl hlc (by have := e.hcap; have e3 : TOP = 9223372036854775808 := rfl; rcases hcr with ⟨_, _⟩ | ⟨_, _⟩ <;> omega) (fun i x hx => ?_) m ro) ?_
  · have hi : i < n + 1 := by rw [← hbl]; exact (List.getElem?_eq_some_iff.1 hx).1
    have h1 := hget i (by omega)
    obtain ⟨v', h2, h3⟩ := g2 (off + i) (by omega)
    have h4 : l[i]? = some (.int .u8 (.ofNat x)) := by rw [hb, List.getElem?_map, hx]; rfl
    rw [h1] at h4
    injection h4 with h4
    rw [h4] at h3
    rw [h3.inv_int] at h2
    rw [Nat.add_assoc]
    exact h2
  · rintro e' w' ⟨rfl, a1, a2, a3, a4, a5⟩
    exact ⟨E, _, rfl, Env.le.refl E, hfr, hw.later a1 a2 a3 a4 a5, .flat hfl⟩
theorem FR.func_inv {E : Env} {f : FuncId} {g : Fn} (h : FR E (.func f) g) : g = .func f := h
theorem setParams_ok : ∀ {ps : List Tmp} {vs : List Value} {t : T Value} {n : Nat} {c : T Value → An R}, setParams ps vs t n c = .ok r →
    ∃ t', c t' = .ok r ∧ ps.length = vs.length ∧ ∀ E (a : Array Value) vs', TR E t n a → LR E vs vs' → TR E t' n ((ps.zip vs').foldl (fun tmps (p, v) => tmps.setIfInBounds p v) a)
  | [], [], t, n, c, h => ⟨t, h, rfl, fun E a vs' ht hl => by simpa using ht⟩
  | [], _ :: _, t, n, c, h => absurd h no_ok
  | _ :: _, [], t, n, c, h => absurd h no_ok
  | p :: ps, v :: vs, t, n, c, h => by
    unfold setParams at h
    rw [putTm_eq] at h
    unfold putTm' at h
    simp only at h
    split at h
    case h_2 => exact absurd h no_ok
    rename_i hd
    have hd : p < n := Nat.le_of_ble_eq_true hd
    rw [T.putK_eq] at h
    obtain ⟨t', h1, h2, h3⟩ := setParams_ok h
    refine ⟨t', h1, by simp [h2], fun E a vs' ht hl => ?_⟩
    obtain ⟨v', b, rfl, hv, hb⟩ := hl.uncons
    simp only [List.zip_cons_cons, List.foldl_cons]
    exact h3 E _ b (ht.put p hd hv) hb
theorem enter_ok (hB : TabOK P B) {n : Nat} (ih : Sound P B n) {J : R → R → Bool} (hJ : JOK J) {f : FuncId} {vs : List Value} {h : Hp} {c : Value → Hp → An R} (hq : enterK B (ev B n R J) f vs h c = .ok r)
    {G : Ctx} {E : Env} {w : World} {vs' : List Value} {m : Nat} {ro : Option Nat} {Rr : Ending → World → Prop} (hw : WR G E h.t w) (hf : Fresh G E h.next) (hl : LR E vs vs')
    (hR : ∀ v h' E' v' w', c v h' = .ok r → E.le E' → Fresh G E' h'.next → WR G E' h'.t w' → VR E' v v' → Rr (.returned v') w') :
    (∀ X w, (callFunc f X).run P w = .ok (.enter f X) w) ∧ CallsIn (Fw ro) m P f ⟨vs'⟩ w Rr := by
  unfold enterK at hq
  split at hq
  case h_2 => exact absurd hq no_ok
  rename_i fd hfd
  obtain ⟨hfn, hnm⟩ := hB.fn f fd hfd
  split at hq
  case h_2 => exact absurd hq no_ok
  rename_i b hb
  split at hq
  case h_2 => exact absurd hq no_ok
  rename_i hle
  have hle := Nat.le_of_ble_eq_true hle
  obtain ⟨t0, hq, ht0⟩ := initTm_ok hq
  refine ⟨fun X w => ?_, ?_⟩
  · have hnm' : ¬ fd.name = "runtime.NumGoroutine" := by simpa using hnm
    simp [callFunc, hfn, hnm', hb]
  · show CallsIn (Fw none) m P f ⟨vs'⟩ w Rr
    refine callsIn_of_wp_marks hfn hb trivial ?_ rfl
    refine ih R J hJ r b _ _ hq G E _ w none m _ ⟨TR.init hl hle ht0, hw, hf, trivial, trivial⟩ ?_
    have fin : ∀ (e : Exit) (st' : St) E' (a' : Act) w', (popK st'.defers st'.hp fun h => resultK B fd.results.toList st'.tm h fun l => tupleK l fun v => c v h) = .ok r → E.le E' → SR G E' st' a' w' none →
        LeavesInM (Fw none) m P fd a'.tmps Rr a'.defers .returning w' := by
      intro e st' E' a' w' hq hle' hs
      obtain ⟨h', hq, hnx, hpop⟩ := popK_ok (P := P) (fn := fd) (tmps := a'.tmps) (m := m) hq
      obtain ⟨l, hq, hres⟩ := resultK_ok hB hq
      obtain ⟨v, hq, htup⟩ := tupleK_ok hq
      refine hpop G E' w' a'.defers Rr hs.hp hs.defers (fun w2 hw2 => ?_)
      obtain ⟨l', h1, h2⟩ := hres G E' _ a'.tmps w2 hs.tm hw2
      refine ⟨_, ?_, hR v h' E' _ w2 hq hle' (hnx ▸ hs.fresh) hw2 (htup E' l' h1)⟩
      unfold results
      rw [Array.mapM_eq_mapM_toList]
      simp only [Sem.run_bind, Sem.run_map]
      exact congrArg (fun x : Result (List Value) => (x.andThen (fun a w' => Result.ok a.toArray w')).andThen (fun a w' => Sem.run P (pure (if h : a.size = 1 then a[0] else Value.tuple a)) w')) h2
    intro e st' E' a' w' hk hle' hs _ _
    cases e with
    | normal => exact fin .normal st' E' a' w' hk hle' hs
    | ret => exact fin .ret st' E' a' w' hk hle' hs
    | _ => exact absurd hk no_ok
theorem loop_at {G : Ctx} {E : Env} {t : T Blk} {w : World} (hw : WR G E t w) {l : Nat} {el : Ent} (hel : E l = some el) {s : LoopState} {p : Option Code} {fn : FuncId} {ntm : Nat} {tm : T Value} {ps : List Tmp} {as bd : Code} {df : Nat}
    (hk : t.find l = some (.loop s p fn ntm tm ps as bd df)) :
    ∃ fn' tms ed, w.heap[el.b]? = some (.loop { state := s, pending := p, fn := fn', tmps := tms, params := ps.toArray, assign := as, body := bd, defers := ed.b }) ∧ TR E tm ntm tms ∧ E df = some ed := by
  obtain ⟨f, hf, hb, _⟩ := hw.blk l _ hk
  rw [hel] at hf; cases hf
  exact hb
/-- the loop's record is turned. -/
theorem loop_put {G : Ctx} {E : Env} {t : T Blk} {w : World} (hw : WR G E t w) {l : Nat} {el : Ent} (hel : E l = some el) {B0 : Blk} (hk : t.find l = some B0) (hm0 : mutB B0 = true) {s : LoopState} {p : Option Code} {fn : FuncId} {ntm : Nat} {tm : T Value} {ps : List Tmp} {as bd : Code} {df : Nat}
    {fn' : FuncId} {tms : Array Value} {ed : Ent} (ht : TR E tm ntm tms) (hd : E df = some ed) :
    WR G E (t.put l (some (.loop s p fn ntm tm ps as bd df))) (w.putObj el.b (.loop { state := s, pending := p, fn := fn', tmps := tms, params := ps.toArray, assign := as, body := bd, defers := ed.b })) := by
  have hlt := hw.lt hk hel
  exact hw.set hk hel hm0 _ rfl World.putObj_size (fun j hj => World.putObj_heap_other hj) ⟨fn', tms, ed, World.putObj_heap_same hlt, ht, hd⟩ rfl rfl rfl
theorem round_ok (hB : TabOK P B) {n : Nat} (ih : Sound P B n) {J : R → R → Bool} (hJ : JOK J) {l : Nat} {args : List Value} {h : Hp} {c : Value → Hp → An R} (hq : roundK (ev B n R J) l args h c = .ok r)
    {G : Ctx} {E : Env} {w : World} {args' : List Value} {m : Nat} {ro : Option Nat} {Rr : Ending → World → Prop} {el : Ent} (hel : E l = some el) (hw : WR G E h.t w) (hf : Fresh G E h.next) (hl : LR E args args')
    (hR : ∀ v h' E' v' w', c v h' = .ok r → E.le E' → Fresh G E' h'.next → WR G E' h'.t w' → VR E' v v' → Rr (.returned v') w') :
    ∃ f tms as bd, (Instr.yield el.b ⟨args'⟩).run P w = .ok (.round el.b f tms as bd) w ∧ RoundIn (Fw ro) m P el.b f tms as bd w Rr := by
  unfold roundK at hq
  split at hq
  case h_2 => exact absurd hq no_ok
  rename_i p fn ntm tm ps as bd df hk
  obtain ⟨tm0, hq, hlen, hset⟩ := setParams_ok hq
  obtain ⟨fn', tms, ed, hob, htr, hed⟩ := loop_at hw hel hk
  have hy := run_yield (P := P) (args := ⟨args'⟩) hob (by simp [← hl.1, hlen])
  refine ⟨_, _, _, _, hy, roundIn_of_wpIn trivial ?_⟩
  have htm : TR E tm0 ntm ((ps.toArray.zip ⟨args'⟩).foldl (fun tmps (t, a) => tmps.setIfInBounds t a) tms) := by
    have := hset E tms args' htr hl
    rw [← Array.foldl_toList, Array.toList_zip]
    exact this
  refine ih R J hJ r as _ _ hq G E _ w (some el.b) m _ ⟨htm, hw, hf, trivial, ⟨el, hel, rfl⟩⟩ ?_
  intro e st1 E1 a1 w1 hk1 hle1 hs1 hn1 hr1
  cases e with
  | normal =>
    simp only at hk1
    split at hk1
    case h_2 => exact absurd hk1 no_ok
    rename_i p1 fn1 ntm1 tm1 ps1 as1 bd1 df1 hkk1
    rw [T.putK_eq] at hk1
    have hel1 := hle1 _ _ hel
    obtain ⟨fn1', tms1, ed1, hob1, htr1, hed1⟩ := loop_at hs1.hp hel1 hkk1
    refine ⟨_, run_beginRound hob1 rfl, ?_⟩
    have hw1 := loop_put hs1.hp hel1 hkk1 rfl (s := .busy) (p := p1) (fn := fn1) (ps := ps1) (as := as1) (bd := bd1) (fn' := fn1') htr1 hed1
    refine ih R J hJ r bd _ _ hk1 G E1 a1 _ (some el.b) m _ ⟨hs1.tm, hw1, hs1.fresh, hs1.defers, hs1.round⟩ ?_
    intro e2 st2 E2 a2 w2 hk2 hle2 hs2 hn2 hr2
    simp only at hk2
    split at hk2
    case h_2 => exact absurd hk2 no_ok
    rename_i s2 p2 fn2 ntm2 tm2 ps2 as2 bd2 df2 hkk2
    have hel2 := hle2 _ _ hel1
    obtain ⟨fn2', tms2, ed2, hob2, htr2, hed2⟩ := loop_at hs2.hp hel2 hkk2
    have fin : ∀ {s : LoopState} {jump : Option Code} {b : Bool}, finK l fn2 ntm2 tm2 ps2 as2 bd2 df2 st2.hp s jump b c = .ok r → s = (if jump.isNone then .ready else .done) → b = jump.isNone →
        ∃ v w', (Instr.endRound el.b jump).run P w2 = .ok v w' ∧ Rr (.returned v) w' := by
      intro s jump b hq hs hb
      unfold finK at hq
      rw [T.putK_eq] at hq
      refine ⟨_, _, run_endRound jump hob2, ?_⟩
      have hw2 := loop_put hs2.hp hel2 hkk2 rfl (s := s) (p := jump) (fn := fn2) (ps := ps2) (as := as2) (bd := bd2) (fn' := fn2') htr2 hed2
      rw [← hs, ← hb]
      exact hR _ _ E2 _ _ hq (hle1.trans hle2) hs2.fresh hw2 (.flat rfl)
    cases e2 with
    | normal => exact fin hk2 rfl rfl
    | ret => exact fin hk2 rfl rfl
    | exit id => exact fin hk2 rfl rfl
    | _ => exact absurd hk2 no_ok
  | _ => exact absurd hk1 no_ok
theorem callF_ok (hB : TabOK P B) (hI : InsOK P B) (hM : MemoOK P B) (hT : TellOK P B) (hU : RuleOK P B) {n : Nat} (ih : Sound P B n) {J : R → R → Bool} (hJ : JOK J) {f : FuncId} {first args cap : List Value} {h : Hp} {c : Value → Hp → An R}
    (hq : (match B.ins.contains f, first, args, cap with
    | true, [], [s, i, v], [] => (match B.fn.find f with
      | some fd => (match fd.params.toList with | [sT, _, _] => insertK B sT s i v h c | _ => no 101)
      | none => no 102)
    | true, [], [x], [] => memoK B f x h c
    | true, [], [], [] => tellK B f [] h c
    | true, [], [x, y], [] => tellR B f [x, y] h c
    | _, _, _, _ => enterK B (ev B n R J) f (first ++ (args ++ cap)) h c) = .ok r)
    {G : Ctx} {E : Env} {w : World} {first' args' cap' : List Value} {m : Nat} {ro : Option Nat} {Rr : Ending → World → Prop} (hw : WR G E h.t w) (hf : Fresh G E h.next) (hfi : LR E first first') (har : LR E args args') (hca : LR E cap cap')
    (hR : ∀ v h' E' v' w', c v h' = .ok r → E.le E' → Fresh G E' h'.next → WR G E' h'.t w' → VR E' v v' → Rr (.returned v') w') :
    (∀ X w, (callFunc f X).run P w = .ok (.enter f X) w) ∧ CallsIn (Fw ro) m P f ⟨first' ++ (args' ++ cap')⟩ w Rr := by
  have viaEnter : enterK B (ev B n R J) f (first ++ (args ++ cap)) h c = .ok r → (∀ X w, (callFunc f X).run P w = .ok (.enter f X) w) ∧ CallsIn (Fw ro) m P f ⟨first' ++ (args' ++ cap')⟩ w Rr := fun hq =>
    enter_ok hB ih hJ hq hw hf (hfi.append (har.append hca)) hR
  split at hq
  · rename_i s i v hins
    split at hq
    case h_2 => exact absurd hq no_ok
    rename_i fd hfd
    split at hq
    case h_2 => exact absurd hq no_ok
    rename_i sT iT vT hp
    obtain ⟨u, h', hq, hcf, hr⟩ := hI R r f fd sT iT vT hins hfd hp s i v h c hq
    refine ⟨hcf, ?_⟩
    rw [hfi.unnil, hca.unnil]
    obtain ⟨s', x1, rfl, hs, hx1⟩ := har.uncons
    obtain ⟨i', x2, rfl, hi, hx2⟩ := hx1.uncons
    obtain ⟨v', x3, rfl, hv, hx3⟩ := hx2.uncons
    rw [hx3.unnil]
    refine CallsIn.mono (hr G E w s' i' v' hw hf hs hi hv m ro) ?_
    rintro e w' ⟨E', u', rfl, a1, a2, a3, a4⟩
    exact hR u h' E' u' w' hq a1 a2 a3 a4
  · rename_i x hins
    obtain ⟨u, h1, hq, hcf, hr⟩ := memo_ok hM hT hU hins hq
    refine ⟨hcf, ?_⟩
    rw [hfi.unnil, hca.unnil]
    obtain ⟨x', x1, rfl, hx, hx1⟩ := har.uncons
    rw [hx1.unnil]
    refine CallsIn.mono (hr G E w x' hw hf hx m ro) ?_
    rintro e w' ⟨E', u', rfl, a1, a2, a3, a4⟩
    exact hR u h1 E' u' w' hq a1 a2 a3 a4
  · rename_i hins
    obtain ⟨u, hq, hcf, hr⟩ := tell_ok hT hins hq
    refine ⟨hcf, ?_⟩
    rw [hfi.unnil, hca.unnil]
    refine CallsIn.mono (hr G E w _ hw (har.append (LR.nil E)) m ro) ?_
    rintro e w' ⟨u', rfl, a3, a4⟩
    exact hR u h E u' w' hq (Env.le.refl E) hf a3 a4
  · rename_i x y hins
    obtain ⟨u, h1, hq, hcf, hr⟩ := tellR_ok hT hU hins hq
    refine ⟨hcf, ?_⟩
    rw [hfi.unnil, hca.unnil]
    refine CallsIn.mono (hr G E w _ hw hf (har.append (LR.nil E)) m ro) ?_
    rintro e w' ⟨E', u', rfl, a1, a2, a3, a4⟩
    exact hR u h1 E' u' w' hq a1 a2 a3 a4
  · exact viaEnter hq
theorem call_ok (hB : TabOK P B) (hI : InsOK P B) (hM : MemoOK P B) (hT : TellOK P B) (hU : RuleOK P B) {n : Nat} (ih : Sound P B n) {J : R → R → Bool} (hJ : JOK J) : CallOK P (callK B (ev B n R J)) r := by
  intro fn first args cap h c hq G E w fn' first' args' cap' m ro Rr hw hf hfr hfi har hca hR
  unfold callK at hq
  split at hq
  · rename_i f
    obtain rfl := hfr.func_inv
    split at hq
    · rename_i hext
      obtain ⟨v, h', hq, hr⟩ := cloneK_ok hB hext hq
      obtain ⟨E', v', w', a1, a2, a3, a4, a5⟩ := hr G E w _ hw hf (hfi.append (har.append hca))
      exact Or.inr (Or.inr ⟨f, v', w', rfl, a3, hR v h' E' v' w' hq a1 a2 a4 a5⟩)
    · exact Or.inl ⟨f, rfl, callF_ok hB hI hM hT hU ih hJ hq hw hf hfi har hca hR⟩
  · rename_i l
    obtain ⟨el, hel, rfl⟩ := hfr
    split at hq
    case h_2 => exact absurd hq no_ok
    obtain ⟨f, tms, as, bd, h1, h2⟩ := round_ok hB ih hJ hq (m := m) (ro := ro) hel hw hf har hR
    exact Or.inr (Or.inl ⟨el.b, f, tms, as, bd, rfl, hfi.unnil, h1, h2⟩)
  · exact absurd hq no_ok
theorem behind_ok {n : Nat} (ih : Sound P B n) {J : R → R → Bool} (hJ : JOK J) {st : St} {l : Nat} {defers : List Nat} {K : Exit → St → An R} {h : Hp} (hq : behindK (ev B n R J) st l defers K h = .ok r)
    {G : Ctx} {E0 E : Env} {a : Act} {w : World} {ro : Option Nat} {m : Nat} {Q : Exit → Act → World → Prop} {el : Ent} (hle : E0.le E) (hel : E l = some el) (hw : WR G E h.t w) (hf : Fresh G E h.next)
    (htm : TR E st.tm st.ntm a.tmps) (hd : DR E defers a.defers) (hro : RoR E st.round ro) (hQ : Then P G E0 st ro Q K r) :
    ∃ jump w₄, (Instr.endLoop el.b).run P w = .ok jump w₄ ∧ (match jump with
       | none => Q .normal a w₄
       | some c => c.wpIn (Fw ro) m P Q a w₄) := by
  unfold behindK at hq
  split at hq
  case h_2 => exact absurd hq no_ok
  rename_i s p fn2 ntm2 tm2 ps2 as2 bd2 df2 hk
  obtain ⟨fn', tms, ed, hob, htr, hed⟩ := loop_at hw hel hk
  have hb : s ≠ .busy := fun e => by subst e; exact absurd hq no_ok
  have hq : (h.t.putK (some (.loop .exhausted p fn2 ntm2 tm2 ps2 as2 bd2 df2)) l fun t => match p with
      | none => K .normal { st with hp := ⟨t, h.next⟩, defers := defers }
      | some cd => ev B n R J cd { st with hp := ⟨t, h.next⟩, defers := defers } K) = .ok r := by
    split at hq
    · exact absurd hq no_ok
    · exact hq
  rw [T.putK_eq] at hq
  refine ⟨_, _, run_endLoop hob hb, ?_⟩
  have hw2 := loop_put hw hel hk rfl (s := .exhausted) (p := p) (fn := fn2) (ps := ps2) (as := as2) (bd := bd2) (fn' := fn') htr hed
  have hs : SR G E { st with hp := ⟨h.t.put l (some (.loop .exhausted p fn2 ntm2 tm2 ps2 as2 bd2 df2)), h.next⟩, defers := defers } a (w.putObj el.b (.loop { state := .exhausted, pending := p, fn := fn', tmps := tms, params := ps2.toArray, assign := as2, body := bd2, defers := ed.b })) ro :=
    ⟨htm, hw2, hf, hd, hro⟩
  cases p with
  | none => exact hQ .normal _ E a _ hq hle hs rfl rfl
  | some cd => exact ih R J hJ r cd _ K hq G E a _ ro m Q hs (fun e st' E' a' w' x1 x2 x3 x4 x5 => hQ e st' E' a' w' x1 (hle.trans x2) x3 x4 x5)
theorem range_ok (hB : TabOK P B) (hI : InsOK P B) (hM : MemoOK P B) (hT : TellOK P B) (hU : RuleOK P B) {n : Nat} (ih : Sound P B n) {J : R → R → Bool} (hJ : JOK J) {g : Operand} {ps : Array Tmp} {as bd : Code} {st : St} {K : Exit → St → An R} (hq : rangeK B (ev B n R J) st g ps.toList as bd K = .ok r)
    {G : Ctx} {E : Env} {a : Act} {w : World} {ro : Option Nat} {m : Nat} {Q : Exit → Act → World → Prop} (hs : SR G E st a w ro) (hQ : Then P G E st ro Q K r) : (Code.rangeFunc g ps as bd).wpIn (Fw ro) m P Q a w := by
  unfold rangeK at hq
  obtain ⟨gv, hq, hgv⟩ := opd_ok hq
  split at hq
  case h_2 => exact absurd hq no_ok
  rename_i fn first cap
  obtain ⟨first⟩ := first
  obtain ⟨cap⟩ := cap
  have hg := hgv E _ (Ops.of hs.tm (.move g) g (by simp [Op.operands]))
  obtain ⟨gf, first', cap', hfr, hfi, hca, e1⟩ := hg.inv_func
  -- once the record lies
  have go : ∀ {df : Nat} {defers : List Nat} {h : Hp} {E1 : Env} {w1 : World} {ed : Ent} {mark : List Deferred}, rangeGo B (ev B n R J) st fn first cap ps.toList as bd K df defers h = .ok r → E.le E1 → WR G E1 h.t w1 → Fresh G E1 h.next → E1 df = some ed →
      DR E1 defers (mark ++ a.defers) → ∀ fnn, (Instr.enterLoop fnn a.tmps ps as bd ro).run P w = .ok (w1.heap.size, mark) { w1 with heap := w1.heap.push (.loop { state := .ready, pending := none, fn := fnn, tmps := a.tmps, params := ps, assign := as, body := bd, defers := ed.b }) } →
      ∃ (l : Nat) (mark : List Deferred) (w₁ : World) (d : Deferred) (w₁' : World) (f : FuncId) (args : Array Value) (w₂ : World),
      (Instr.enterLoop fnn a.tmps ps as bd (Fw ro).round).run P w = .ok (l, mark) w₁ ∧
      (resolve a.eval (rangeCall g l) 0).run P w₁ = .ok d w₁' ∧
      (∀ f', Target.leads P w₁' d.target d.args = some f' → (Fw ro).fn f') ∧
      (invoke d.target d.args).run P w₁' = .ok (.enter f args) w₂ ∧
      ((Fw ro).depth.isSome = true → 1 ≤ m) ∧
      CallsIn (Fw ro) (m - 1) P f args w₂ (rangePost (Fw ro) m P l Q { a with defers := mark ++ a.defers }) := by
    intro df defers h E1 w1 ed mark hq hle hw1 hf1 hed hdr fnn hel
    have key : ∃ f, fn = .func f := by
      cases fn with
      | func f => exact ⟨f, rfl⟩
      | _ => simp only [rangeGo] at hq; exact absurd hq no_ok
    obtain ⟨f, hfn⟩ := key
    rw [hfn] at hq hfr
    simp only [rangeGo] at hq
    obtain rfl := hfr.func_inv
    split at hq
    · exact absurd hq no_ok
    rename_i hext
    replace hq := newBlk_ok hq
    have hq2 := hq
    clear hq
    unfold callK at hq2
    simp only [hext] at hq2
    have hEn : E1 h.next = none := hf1.at
    let el : Ent := ⟨w1.heap.size, 0, 0, by decide⟩
    have hle2 := Env.le_set (e := el) hEn
    have hw2 := hw1.new h.next hEn (.loop .ready none st.fn st.ntm st.tm ps.toList as bd df) rfl el (.loop { state := .ready, pending := none, fn := fnn, tmps := a.tmps, params := ps, assign := as, body := bd, defers := ed.b }) rfl
      ⟨fnn, a.tmps, ed, by simp, (hs.tm.mono hle).mono hle2, hle2 _ _ hed⟩
    have hf2 : Fresh G (E1.set h.next el) (h.next + 1) := hf1.next el
    have hlel : (E1.set h.next el) h.next = some el := Env.set_self _ _ _
    have hfy : FR (E1.set h.next el) (.yield h.next) (.yield w1.heap.size) := ⟨el, hlel, rfl⟩
    have hyv : VR (E1.set h.next el) (.func (.yield h.next) ⟨[]⟩ ⟨[]⟩) (.func (.yield w1.heap.size) ⟨[]⟩ ⟨[]⟩) := VR.func hfy rfl (fun i v v' x => by simp at x) rfl (fun i v v' x => by simp at x)
    have hyl : LR (E1.set h.next el) [.func (.yield h.next) ⟨[]⟩ ⟨[]⟩] [.func (.yield w1.heap.size) ⟨[]⟩ ⟨[]⟩] := .cons hyv (LR.nil _)
    have hcall := callF_ok hB hI hM hT hU ih hJ hq2 (m := m - 1) (ro := ro) (Rr := rangePost (Fw ro) m P w1.heap.size Q { a with defers := mark ++ a.defers }) hw2 hf2 (hfi.mono (hle.trans hle2)) hyl (hca.mono (hle.trans hle2)) (fun v h' E' v' w' x1 x2 x3 x4 x5 => by
        have hle3 := hle.trans (hle2.trans x2)
        exact behind_ok ih hJ x1 (a := { a with defers := mark ++ a.defers }) hle3 (x2 _ _ hlel) x4 x3 (hs.tm.mono hle3) ((hdr.mono hle2).mono x2) (hs.round.mono hle3) hQ)
    obtain ⟨hcf, hcall⟩ := hcall
    · have hres : ∀ W : World, (resolve a.eval (rangeCall g w1.heap.size) 0).run P W = .ok { target := .fn (.func f) ⟨cap'⟩, args := ⟨first' ++ [.func (.yield w1.heap.size) ⟨[]⟩ ⟨[]⟩]⟩ } W := fun W => by
        simp only [resolve, e1, Deferred.ofValue, Sem.run_pure]
        congr 2
        apply Array.ext'
        simp [Act.eval]
      have hinv : ∀ W : World, (invoke (.fn (.func f) ⟨cap'⟩) ⟨first' ++ [.func (.yield w1.heap.size) ⟨[]⟩ ⟨[]⟩]⟩).run P W = .ok (.enter f ⟨first' ++ ([.func (.yield w1.heap.size) ⟨[]⟩ ⟨[]⟩] ++ cap')⟩) W := fun W => by
        simp only [invoke]
        rw [hcf]
        congr 2
        apply Array.ext'
        simp
      exact ⟨w1.heap.size, mark, { w1 with heap := w1.heap.push (.loop { state := .ready, pending := none, fn := fnn, tmps := a.tmps, params := ps, assign := as, body := bd, defers := ed.b }) },
        { target := .fn (.func f) ⟨cap'⟩, args := ⟨first' ++ [.func (.yield w1.heap.size) ⟨[]⟩ ⟨[]⟩]⟩ }, { w1 with heap := w1.heap.push (.loop { state := .ready, pending := none, fn := fnn, tmps := a.tmps, params := ps, assign := as, body := bd, defers := ed.b }) },
        f, ⟨first' ++ ([.func (.yield w1.heap.size) ⟨[]⟩ ⟨[]⟩] ++ cap')⟩, { w1 with heap := w1.heap.push (.loop { state := .ready, pending := none, fn := fnn, tmps := a.tmps, params := ps, assign := as, body := bd, defers := ed.b }) },
        hel, hres _, fun _ _ => trivial, hinv _, fun hh => (by cases hh), by exact hcall⟩
  refine wpIn_rangeFunc fun fnn _ => ?_
  split at hq
  · rename_i hr0
    have hro : ro = none := by
      have := hs.round
      rw [hr0] at this
      cases ro with
      | none => rfl
      | some b => exact this.elim
    subst hro
    replace hq := newBlk_ok hq
    have hEn : E st.hp.next = none := hs.fresh.at
    let ed : Ent := ⟨w.heap.size, 0, 0, by decide⟩
    have hle := Env.le_set (e := ed) hEn
    have hw1 := hs.hp.new st.hp.next hEn (.deferred true) rfl ed (.deferred (some [])) rfl rfl
    have hf1 : Fresh G (E.set st.hp.next ed) (st.hp.next + 1) := hs.fresh.next ed
    refine go (E1 := E.set st.hp.next ed) (w1 := { w with heap := w.heap.push (.deferred (some [])) }) (ed := ed) (mark := [{ target := .collected w.heap.size, args := #[] }]) hq hle hw1 hf1 (Env.set_self _ _ _) ⟨⟨ed, Env.set_self _ _ _, rfl⟩, hs.defers.mono hle⟩ fnn ?_
    have := run_enterLoop_outer (P := P) (w := w) fnn a.tmps ps as bd
    have e2 : ({ w with heap := w.heap.push (.deferred (some [])) } : World).heap.size = w.heap.size + 1 := by simp
    rw [e2]
    exact this
  · rename_i l hr0
    split at hq
    case h_2 => exact absurd hq no_ok
    rename_i s0 p0 fn0 ntm0 tm0 ps0 as0 bd0 df hk
    have hro := hs.round
    rw [hr0] at hro
    cases ro with
    | none => exact hro.elim
    | some b =>
      obtain ⟨el, hel, rfl⟩ := hro
      obtain ⟨fn', tms, ed, hob, htr, hed⟩ := loop_at hs.hp hel hk
      refine go (E1 := E) (w1 := w) (ed := ed) (mark := []) hq (Env.le.refl E) hs.hp hs.fresh hed hs.defers fnn ?_
      exact run_enterLoop_inner hob fnn a.tmps ps as bd
theorem least {p : Nat → Prop} (h : ∃ k, p k) : ∃ k, p k ∧ ∀ j, p j → k ≤ j := by
  obtain ⟨k, hk⟩ := h
  induction k using Nat.strongRecOn with
  | _ k ih =>
    by_cases h2 : ∃ j, j < k ∧ p j
    · obtain ⟨j, hj, hp⟩ := h2; exact ih j hj hp
    · exact ⟨k, hk, fun j hj => Nat.le_of_not_lt fun hlt => h2 ⟨j, hlt, hj⟩⟩
theorem ev_sound (hm : P.follows .mixedOrders = true) (hB : TabOK P B) (hI : InsOK P B) (hM : MemoOK P B) (hT : TellOK P B) (hU : RuleOK P B) : ∀ n, Sound P B n := by
  intro n
  induction n using Nat.strongRecOn with
  | _ n IH =>
    cases n with
    | zero => intro R J hJ r cd st K hq; exact absurd hq no_ok
    | succ n =>
      have ih := IH n (Nat.lt_succ_self n)
      intro R J hJ r cd st K hq G E a w ro m Q hs hQ
      cases cd with
      | skip => exact wpIn_skip (hQ .normal st E a w hq (Env.le.refl E) hs rfl rfl)
      | ret => exact wpIn_ret (hQ .ret st E a w hq (Env.le.refl E) hs rfl rfl)
      | exit id => exact wpIn_exit (hQ (.exit id) st E a w hq (Env.le.refl E) hs rfl rfl)
      | seq x y =>
        simp only [ev_succ, evFn_eq, evFn'] at hq
        refine wpIn_seq (ih R J hJ r x st _ hq G E a w ro m _ hs ?_)
        intro e st' E' a' w' hk hle hs' hn hr
        cases e with
        | normal => exact ih R J hJ r y st' K hk G E' a' w' ro m Q hs' (fun e st2 E2 a2 w2 x1 x2 x3 x4 x5 => hQ e st2 E2 a2 w2 x1 (hle.trans x2) x3 (x4.trans hn) (x5.trans hr))
        | _ => exact hQ _ st' E' a' w' hk hle hs' hn hr
      | cond c x y =>
        simp only [ev_succ, evFn_eq, evFn'] at hq
        obtain ⟨cv, hq, hc⟩ := opd_ok hq
        have hce := hc E _ (Ops.of hs.tm (.move c) c (by simp [Op.operands]))
        unfold boolK at hq
        split at hq
        · exact wpIn_cond_true hce.inv_bool (ih R J hJ r x st K hq G E a w ro m Q hs hQ)
        · exact wpIn_cond_false hce.inv_bool (ih R J hJ r y st K hq G E a w ro m Q hs hQ)
        · exact absurd hq no_ok
      | block id x =>
        simp only [ev_succ, evFn_eq, evFn'] at hq
        refine wpIn_block (ih R J hJ r x st _ hq G E a w ro m _ hs ?_)
        intro e st' E' a' w' hk hle hs' hn hr
        cases e with
        | exit j =>
          simp only at hk
          by_cases hj : j = id
          · subst hj
            rw [Nat.beq_refl] at hk
            simp only [Exit.inBlock, if_true]
            exact hQ .normal st' E' a' w' hk hle hs' hn hr
          · have : Nat.beq j id = false := by cases hh : Nat.beq j id with | true => exact absurd (Nat.eq_of_beq_eq_true hh) hj | false => rfl
            rw [this] at hk
            simp only [Exit.inBlock, hj, if_false]
            exact hQ (.exit j) st' E' a' w' hk hle hs' hn hr
        | _ => exact hQ _ st' E' a' w' hk hle hs' hn hr
      | loop x =>
        classical
        let Jl : Nat → Act → World → Prop := fun k a w => k ≤ n + 1 ∧ ∃ st' E', ev B k R J (.loop x) st' K = .ok r ∧ E.le E' ∧ SR G E' st' a w ro ∧ st'.ntm = st.ntm ∧ st'.round = st.round
        refine wpIn_loop (fun a w => ∃ k, Jl k a w) (fun a w => if hh : ∃ k, Jl k a w then Classical.choose (least hh) else 0) ⟨n + 1, Nat.le_refl _, st, E, hq, Env.le.refl E, hs, rfl, rfl⟩ ?_
        intro a1 w1 hh
        obtain ⟨⟨hle1, st1, E1, hq1, hE1, hs1, hn1, hr1⟩, _⟩ := Classical.choose_spec (least hh)
        rw [dif_pos hh]
        generalize hk0 : Classical.choose (least hh) = k0 at hle1 hq1
        cases k0 with
        | zero => exact absurd hq1 no_ok
        | succ k =>
          simp only [ev_succ, evFn_eq, evFn'] at hq1
          refine IH k (by omega) R J hJ r x st1 _ hq1 G E1 a1 w1 ro m _ hs1 ?_
          intro e st' E' a' w' hk hle hs' hn hr
          cases e with
          | normal =>
            have hJl : Jl k a' w' := ⟨by omega, st', E', hk, hE1.trans hle, hs', hn.trans hn1, hr.trans hr1⟩
            refine ⟨⟨k, hJl⟩, ?_⟩
            rw [dif_pos ⟨k, hJl⟩]
            exact Nat.lt_succ_of_le ((Classical.choose_spec (least ⟨k, hJl⟩)).2 k hJl)
          | _ => exact hQ _ st' E' a' w' hk (hE1.trans hle) hs' (hn.trans hn1) (hr.trans hr1)
      | region id ops draw =>
        obtain ⟨tm0, hp0, ntm0, fn0, round0, defers0⟩ := st
        simp only [ev_succ, evFn_eq, evFn'] at hq
        have hc := call_ok hB hI hM hT hU ih hJ (R := R) (r := r)
        cases draw with
        | false =>
          simp only at hq
          refine wpIn_region ?_
          rw [show List.range ops.size = List.range' 0 ops.toList.length by simp [List.range_eq_range']]
          refine ops_wp hB hJ hc ops.toList 0 tm0 hp0 _ (fun j hj => by simp) hq E a w hs.tm hs.hp hs.fresh ?_
          intro tm' h' E' a' w' hk hle ht hw hf hd
          exact hQ .normal _ E' a' w' hk hle ⟨ht, hw, hf, by rw [hd]; exact hs.defers.mono hle, hs.round.mono hle⟩ rfl rfl
        | true =>
          simp only at hq
          refine draw_wp hm hB (fun r1 => call_ok hB hI hM hT hU ih (J := never) (fun _ _ h => by cases h) (R := Value × Hp) (r := r1)) hq hs.tm hs.hp hs.fresh ?_
          intro tm' h' E' a' w' hk hle ht hw hf hd
          exact hQ .normal _ E' a' w' hk hle ⟨ht, hw, hf, by rw [hd]; exact hs.defers.mono hle, hs.round.mono hle⟩ rfl rfl
      | rangeFunc g ps as bd =>
        simp only [ev_succ, evFn_eq, evFn'] at hq
        exact range_ok hB hI hM hT hU ih hJ hq hs hQ
      | scope x => exact absurd hq no_ok
      | label l => exact absurd hq no_ok
      | goto l => exact absurd hq no_ok
      | refuse s => exact absurd hq no_ok
end
end Go.Ev
