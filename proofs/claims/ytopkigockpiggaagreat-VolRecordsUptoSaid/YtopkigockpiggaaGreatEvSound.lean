/-
  The evaluator tells the truth.
-/
import Derived.Test.YtopkigockpiggaaGreatEvMain
import Derived.RangeFuncIn
import Derived.RangeFuncLeaves
import Derived.RangeFuncRecord
import Derived.RangeFuncNested
set_option linter.unusedVariables false
set_option linter.unusedSimpArgs false
namespace Go.Ev
section
variable {R : Type} {P : Program} {B : Tab} {r : R}
/-- the marks. -/
noncomputable def DR (E : Env) : List Nat → List Deferred → Prop
  | [], [] => True
  | d :: r, x :: s => (∃ e, E d = some e ∧ x = { target := .collected e.b, args := #[] }) ∧ DR E r s
  | _, _ => False
theorem DR.mono {E E' : Env} (h : E.le E') : ∀ {l : List Nat} {m : List Deferred}, DR E l m → DR E' l m
  | [], [], _ => trivial
  | d :: r, x :: s, ⟨⟨e, h1, h2⟩, h3⟩ => ⟨⟨e, h _ _ h1, h2⟩, DR.mono h h3⟩
  | [], _ :: _, h => h.elim
  | _ :: _, [], h => h.elim
noncomputable def RoR (E : Env) : Option Nat → Option Nat → Prop
  | none, none => True
  | some l, some b => ∃ e, E l = some e ∧ b = e.b
  | _, _ => False
theorem RoR.mono {E E' : Env} (h : E.le E') {x y : Option Nat} (r : RoR E x y) : RoR E' x y := by
  cases x <;> cases y <;> first | trivial | exact r.elim | (obtain ⟨e, h1, h2⟩ := r; exact ⟨e, h _ _ h1, h2⟩)
structure SR (G : Ctx) (E : Env) (st : St) (a : Act) (w : World) (ro : Option Nat) : Prop where
  tm : TR E st.tm st.ntm a.tmps
  hp : WR G E st.hp.t w
  fresh : Fresh G E st.hp.next
  defers : DR E st.defers a.defers
  round : RoR E st.round ro
/-- what is asked of the rest. -/
noncomputable def Then (P : Program) (G : Ctx) (E : Env) (st : St) (ro : Option Nat) (Q : Exit → Act → World → Prop) (K : Exit → St → An R) (r : R) : Prop :=
  ∀ e st' E' a' w', K e st' = .ok r → E.le E' → SR G E' st' a' w' ro → st'.ntm = st.ntm → st'.round = st.round → Q e a' w'
noncomputable def Sound (P : Program) (B : Tab) (n : Nat) : Prop :=
  ∀ (R : Type) (J : R → R → Bool) (_ : JOK J) (r : R) cd st K, ev B n R J cd st K = .ok r → ∀ G E a w ro m (Q : Exit → Act → World → Prop), SR G E st a w ro → Then P G E st ro Q K r → cd.wpIn (Fw ro) m P Q a w
theorem resultK_ok (hB : TabOK P B) : ∀ {rs : List ResultVar} {tm : T Value} {h : Hp} {c : List Value → An R}, resultK B rs tm h c = .ok r →
    ∃ l, c l = .ok r ∧ ∀ G E n a w, TR E tm n a → WR G E h.t w → ∃ l', LR E l l' ∧ (rs.mapM (fun | .tmp t => pure (a.getD t Go.undef) | .cell x t => do loadVar t (← asAddr (a.getD x Go.undef))) : Sem (List Value)).run P w = .ok l' w
  | [], tm, h, c, hq => ⟨[], hq, fun G E n a w _ _ => ⟨[], LR.nil E, by simp⟩⟩
  | .tmp t :: rs, tm, h, c, hq => by
    unfold resultK at hq
    obtain ⟨v, hq, hv⟩ := opd_ok hq
    obtain ⟨l, hq, hl⟩ := resultK_ok hB hq
    refine ⟨v :: l, hq, fun G E n a w ht hw => ?_⟩
    obtain ⟨l', h1, h2⟩ := hl G E n a w ht hw
    exact ⟨_, .cons (hv E _ (ht.eval t)) h1, by simp only [List.mapM_cons, Sem.run_bind, Sem.run_pure, Result.andThen_ok, h2]⟩
  | .cell x t :: rs, tm, h, c, hq => by
    unfold resultK at hq
    obtain ⟨v, hq, hv⟩ := opd_ok hq
    obtain ⟨u, hq, hu⟩ := loadAt_ok hB hq
    obtain ⟨l, hq, hl⟩ := resultK_ok hB hq
    refine ⟨u :: l, hq, fun G E n a w ht hw => ?_⟩
    obtain ⟨l', h1, h2⟩ := hl G E n a w ht hw
    have hx := hv E _ (ht.eval x)
    obtain ⟨u', h3, h4⟩ := hu G E w _ hw hx
    refine ⟨_, .cons h4 h1, ?_⟩
    have h5 : (do loadVar t (← asAddr (a.getD x Go.undef)) : Sem Value).run P w = .ok u' w := by
      rw [← h3]
      generalize a.getD x Go.undef = y at hx h3
      cases y <;> try (simp [Instr.loadAt, Instr.sureAddr, stuck, Sem.run] at h3; done)
      rename_i p
      cases p with
      | none => simp [Instr.loadAt, Instr.sureAddr, stuck, Sem.run] at h3
      | some ad => simp [Instr.loadAt, Instr.sureAddr, asAddr]
    rw [List.mapM_cons]
    simp only [Sem.run_bind] at h5
    simp only [Sem.run_bind, h5, Result.andThen_ok, h2, Sem.run_pure]
theorem tupleK_ok {l : List Value} {c : Value → An R} (hq : tupleK l c = .ok r) : ∃ v, c v = .ok r ∧ ∀ E l', LR E l l' → VR E v (if h : (⟨l'⟩ : Array Value).size = 1 then (⟨l'⟩ : Array Value)[0] else .tuple ⟨l'⟩) := by
  unfold tupleK at hq
  split at hq
  · rename_i v
    refine ⟨v, hq, fun E l' h => ?_⟩
    obtain ⟨v', b, rfl, hv, hb⟩ := h.uncons
    rw [hb.unnil, dif_pos (by simp)]
    exact hv
  · rename_i hne
    refine ⟨_, hq, fun E l' h => ?_⟩
    rw [dif_neg]
    · exact .tuple h.1 h.2
    · intro h1
      have : l.length = 1 := by rw [h.1]; simpa using h1
      obtain ⟨v, hv⟩ := List.length_eq_one_iff.1 this
      exact hne v hv
theorem popK_ok {P : Program} {fn : Func} {tmps : Array Value} {m : Nat} : ∀ {ds : List Nat} {h : Hp} {c : Hp → An R}, popK ds h c = .ok r →
    ∃ h', c h' = .ok r ∧ h'.next = h.next ∧ ∀ G E w dl (Rr : Ending → World → Prop), WR G E h.t w → DR E ds dl → (∀ w', WR G E h'.t w' → ∃ v, (results fn tmps).run P w' = .ok v w' ∧ Rr (.returned v) w') → LeavesInM (Fw none) m P fn tmps Rr dl .returning w
  | [], h, c, hq => ⟨h, hq, rfl, fun G E w dl Rr hw hd hr => by
    cases dl with
    | nil => exact hr w hw
    | cons x y => exact hd.elim⟩
  | d :: ds, h, c, hq => by
    unfold popK at hq
    split at hq
    case h_2 => exact absurd hq no_ok
    rename_i hk
    rw [T.putK_eq] at hq
    obtain ⟨h', hq, hn, hr⟩ := popK_ok (P := P) (fn := fn) (tmps := tmps) (m := m) hq
    refine ⟨h', hq, hn, fun G E w dl Rr hw hd hrr => ?_⟩
    cases dl with
    | nil => exact hd.elim
    | cons x y =>
      obtain ⟨⟨e, he, rfl⟩, hd⟩ := hd
      obtain ⟨f, hf, hb, _⟩ := hw.blk d _ hk
      rw [he] at hf; cases hf
      have hb' : w.heap[e.b]? = some (.deferred (some [])) := hb
      refine ⟨by simp, Or.inl ⟨e.b, w.putObj e.b (.deferred none), rfl, run_takeDeferred hb', ?_⟩⟩
      refine hr G E _ y Rr (hw.set hk he rfl (.deferred false) rfl World.putObj_size (fun j hj => World.putObj_heap_other hj) ?_ rfl rfl rfl) hd hrr
      exact World.putObj_heap_same (Array.getElem?_eq_some_iff.1 hb').1
theorem initTm_ok : ∀ {vs : List Value} {i : Nat} {t : T Value} {c : T Value → An R}, initTm vs i t c = .ok r → ∃ t', c t' = .ok r ∧ ∀ j, tmGet t' j = if i ≤ j ∧ j < i + vs.length then vs.getD (j - i) Go.undef else tmGet t j
  | [], i, t, c, h => ⟨t, h, fun j => by rw [if_neg]; simp only [List.length_nil]; omega⟩
  | v :: vs, i, t, c, h => by
    unfold initTm at h
    rw [T.putK_eq] at h
    obtain ⟨t', h1, h2⟩ := initTm_ok h
    refine ⟨t', h1, fun j => ?_⟩
    rw [h2, tmGet_put]
    by_cases e : j = i
    · subst e
      rw [if_neg (by omega), if_pos rfl, if_pos (by simp)]
      simp
    · by_cases e2 : Nat.succ i ≤ j ∧ j < Nat.succ i + vs.length
      · rw [if_pos e2, if_pos (by simp; omega)]
        obtain ⟨k, rfl⟩ : ∃ k, j = i + 1 + k := ⟨j - (i + 1), by omega⟩
        rw [show i + 1 + k - Nat.succ i = k by omega, show i + 1 + k - i = k + 1 by omega]
        simp
      · rw [if_neg e2, if_neg e, if_neg (by simp; omega)]
theorem tmGet_full : ∀ (d j : Nat), tmGet (fullT d) j = Go.undef
  | 0, j => rfl
  | d + 1, 0 => rfl
  | d + 1, j + 1 => by
    have h1 := tmGet_full d (j / 2)
    show tmGet (T.node (fullT d) (some Go.undef) (fullT d)) (j + 1) = _
    unfold tmGet
    rw [T.find_succ, ite_self]
    exact h1
theorem TR.init {E : Env} {vs vs' : List Value} {t : T Value} {n d : Nat} (hl : LR E vs vs') (hn : vs.length ≤ n) (ht : ∀ j, tmGet t j = if 0 ≤ j ∧ j < 0 + vs.length then vs.getD (j - 0) Go.undef else tmGet (fullT d) j) :
    TR E t n (⟨vs'⟩ ++ Array.replicate (n - (⟨vs'⟩ : Array Value).size) Go.undef) := by
  have hsz : (⟨vs'⟩ : Array Value).size = vs.length := by rw [hl.1]; simp
  refine ⟨by simp [← hl.1]; omega, fun j v' hv => ?_, fun j hj => by rw [ht, if_neg (by omega), tmGet_full]⟩
  rw [ht]
  by_cases hj : j < vs.length
  · rw [if_pos (by omega), Nat.sub_zero, List.getD_eq_getElem?_getD, List.getElem?_eq_getElem hj]
    rw [Array.getElem?_append_left (by rw [hsz]; exact hj)] at hv
    exact hl.2 j _ _ (List.getElem?_eq_getElem hj) (by simpa using hv)
  · rw [if_neg (by omega), tmGet_full]
    rw [Array.getElem?_append_right (by rw [hsz]; omega)] at hv
    rw [Array.getElem?_replicate] at hv
    split at hv
    · cases hv; exact VR.undef E
    · cases hv
end
end Go.Ev
