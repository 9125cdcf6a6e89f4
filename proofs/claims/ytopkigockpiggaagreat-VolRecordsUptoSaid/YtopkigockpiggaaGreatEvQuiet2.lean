/-
  Comparing, arithmetic; strings; slices.
-/
import Derived.Test.YtopkigockpiggaaGreatEvQuiet
import Derived.ChangeKeysEq
import Derived.Laws.StructEq
import Derived.LaidEql
set_option linter.unusedVariables false
set_option linter.unusedSimpArgs false
namespace Go.Ev
section
variable {R : Type} {P : Program} {B : Tab} {r : R}
theorem sameInts_ok {kk : IntKind} : ∀ {l m : List Value} {b : Bool}, sameInts kk l m = some b →
    l.length = m.length ∧ ∃ f g : Nat → Int, (∀ i, i < l.length → l[i]? = some (.int kk (f i)) ∧ m[i]? = some (.int kk (g i))) ∧ b = ((List.range l.length).all fun i => f i == g i)
  | [], [], b, h => by
    simp only [sameInts, Option.some.injEq] at h; subst h
    exact ⟨rfl, fun _ => 0, fun _ => 0, fun i hi => by simp at hi, by simp⟩
  | [], _ :: _, b, h => by simp [sameInts] at h
  | v :: x, [], b, h => by cases v <;> simp [sameInts] at h
  | v :: x, u :: y, b, h => by
    have key : ∃ k a j c, v = .int k a ∧ u = .int j c := by
      cases v <;> cases u <;> first | exact ⟨_, _, _, _, rfl, rfl⟩ | simp [sameInts] at h
    obtain ⟨k, a, j, c, rfl, rfl⟩ := key
    simp only [sameInts] at h
    split at h
    case h_2 => cases h
    rename_i r' hr
    split at h
    case isFalse => cases h
    rename_i hk
    obtain ⟨rfl, rfl⟩ := hk
    simp only [Option.some.injEq] at h
    obtain ⟨h1, f, g, h2, h3⟩ := sameInts_ok hr
    refine ⟨by simp [h1], fun i => match i with | 0 => a | i + 1 => f i, fun i => match i with | 0 => c | i + 1 => g i, fun i hi => ?_, ?_⟩
    · cases i with
      | zero => exact ⟨rfl, rfl⟩
      | succ i => simpa using h2 i (by simpa using hi)
    · rw [← h, h3]
      simp [List.range_succ_eq_map, List.all_map, Function.comp_def]
theorem run_eqItems_ints (w : World) (d e : Nat) (kk : IntKind) (xs ys : Array Value) (f g : Nat → Int) (he : P.underlying e = some (.int kk)) : ∀ (is : List Nat)
    (_ : ∀ i ∈ is, xs[i]? = some (.int kk (f i))) (_ : ∀ i ∈ is, ys[i]? = some (.int kk (g i))),
    (Op.eqItems (d + 1) e 1 xs ys is).run P w = .ok (is.all fun i => f i == g i) w
  | [], _, _ => by simp [Op.eqItems]
  | i :: is, hx, hy => by
    have ih := run_eqItems_ints w d e kk xs ys f g he is (fun j hj => hx j (by simp [hj])) (fun j hj => hy j (by simp [hj]))
    have h1 : (part e xs i).run P w = .ok (.int kk (f i)) w := by simp [part, isAgg, run_underlying he, hx i (by simp)]
    have h2 : (part e ys i).run P w = .ok (.int kk (g i)) w := by simp [part, isAgg, run_underlying he, hy i (by simp)]
    simp only [Op.eqItems, Nat.mul_one, Sem.run_bind, h1, h2, Result.andThen_ok, run_equalIn_int w d e kk kk _ _ he]
    cases hb : (f i == g i)
    · simp [hb]
    · simp only [Bool.not_true, Bool.false_eq_true, if_false, ih, List.all_cons, hb, Bool.true_and]
theorem sameFldsG_ok (hB : TabOK P B) {nest : Field → Array Field → List Value → List Value → (Bool → An R) → An R} {D : Nat} {l m : List Value}
    (hnest : ∀ (f : Field) (gs : Array Field) (c : Bool → An R), P.underlying f.type = some (.struct gs) → nest f gs l m c = .ok r → ∃ b, c b = .ok r ∧ ∀ E w l' m', LR E l l' → LR E m m' →
      ∃ a' b', (part f.type ⟨l'⟩ f.offset).run P w = .ok a' w ∧ (part f.type ⟨m'⟩ f.offset).run P w = .ok b' w ∧ (Op.equalIn (D + 1) f.type a' b').run P w = .ok b w) : ∀ {fs : List Field} {c : Bool → An R}, sameFldsG B nest l m fs c = .ok r →
    ∃ b, c b = .ok r ∧ ∀ E w l' m', LR E l l' → LR E m m' → (Op.eqFields (D + 1) ⟨l'⟩ ⟨m'⟩ fs).run P w = .ok b w
  | [], c, h => ⟨true, h, fun E w l' m' _ _ => by simp [Op.eqFields]⟩
  | f :: fs, c, hq => by
    unfold sameFldsG at hq
    split at hq
    case h_1 => exact absurd hq no_ok
    rename_i hn
    have hn : f.name ≠ "_" := by simpa using hn
    replace hq := und_ok hB hq
    obtain ⟨ds, hu, hq⟩ := hq
    have hpart : ∀ (l : List Value) (v : Value) (w : World), isAggD ds = false → l[f.offset]? = some v → (part f.type ⟨l⟩ f.offset).run P w = .ok v w := fun l v w hd hv => by
      simp [part, run_agg hu, hd, hv]
    split at hq
    · rename_i kk
      split at hq
      case h_2 => exact absurd hq no_ok
      rename_i k a j b h1 h2
      split at hq
      case h_2 => exact absurd hq no_ok
      rename_i hk
      obtain ⟨rfl, rfl⟩ := of_decide_eq_true hk
      have e1 := fun w => run_equalIn_int (P := P) w D f.type j j a b hu
      split at hq
      · rename_i hab
        obtain ⟨b', h3, h4⟩ := sameFldsG_ok hB hnest hq
        refine ⟨b', h3, fun E w l' m' hl hm => ?_⟩
        obtain ⟨_, h1', e5⟩ := hl.get h1
        obtain ⟨_, h2', e6⟩ := hm.get h2
        replace h4 := h4 E w l' m' hl hm
        obtain rfl := e5.inv_int; obtain rfl := e6.inv_int
        simp only [Op.eqFields, hn, ne_eq, not_false_eq_true, if_true, Sem.run_bind, hpart _ _ w rfl h1', hpart _ _ w rfl h2', Result.andThen_ok, e1, hab, Bool.not_true, Bool.false_eq_true, if_false, h4]
      · rename_i hab
        refine ⟨false, hq, fun E w l' m' hl hm => ?_⟩
        obtain ⟨_, h1', e5⟩ := hl.get h1
        obtain ⟨_, h2', e6⟩ := hm.get h2
        obtain rfl := e5.inv_int; obtain rfl := e6.inv_int
        simp only [Op.eqFields, hn, ne_eq, not_false_eq_true, if_true, Sem.run_bind, hpart _ _ w rfl h1', hpart _ _ w rfl h2', Result.andThen_ok, e1, hab, Bool.not_false, Sem.run_pure]
    · split at hq
      case h_2 => exact absurd hq no_ok
      rename_i a b h1 h2
      have e1 := fun w => run_equalIn_string (P := P) w D f.type ⟨⟨a⟩⟩ ⟨⟨b⟩⟩ hu
      simp only [ByteArray.toList_eq] at e1
      split at hq
      · rename_i hab
        obtain ⟨b', h3, h4⟩ := sameFldsG_ok hB hnest hq
        refine ⟨b', h3, fun E w l' m' hl hm => ?_⟩
        obtain ⟨_, h1', e5⟩ := hl.get h1
        obtain ⟨_, h2', e6⟩ := hm.get h2
        replace h4 := h4 E w l' m' hl hm
        obtain rfl := e5.inv_str; obtain rfl := e6.inv_str
        simp only [Op.eqFields, hn, ne_eq, not_false_eq_true, if_true, Sem.run_bind, hpart _ _ w rfl h1', hpart _ _ w rfl h2', Result.andThen_ok, e1, hab, Bool.not_true, Bool.false_eq_true, if_false, h4]
      · rename_i hab
        refine ⟨false, hq, fun E w l' m' hl hm => ?_⟩
        obtain ⟨_, h1', e5⟩ := hl.get h1
        obtain ⟨_, h2', e6⟩ := hm.get h2
        obtain rfl := e5.inv_str; obtain rfl := e6.inv_str
        simp only [Op.eqFields, hn, ne_eq, not_false_eq_true, if_true, Sem.run_bind, hpart _ _ w rfl h1', hpart _ _ w rfl h2', Result.andThen_ok, e1, hab, Bool.not_false, Sem.run_pure]
    · split at hq
      case h_2 => exact absurd hq no_ok
      rename_i a b h1 h2
      have e1 := fun w => run_equalIn_bool' (P := P) w D f.type a b hu
      split at hq
      · rename_i hab
        obtain ⟨b', h3, h4⟩ := sameFldsG_ok hB hnest hq
        refine ⟨b', h3, fun E w l' m' hl hm => ?_⟩
        obtain ⟨_, h1', e5⟩ := hl.get h1
        obtain ⟨_, h2', e6⟩ := hm.get h2
        replace h4 := h4 E w l' m' hl hm
        obtain rfl := e5.inv_bool; obtain rfl := e6.inv_bool
        simp only [Op.eqFields, hn, ne_eq, not_false_eq_true, if_true, Sem.run_bind, hpart _ _ w rfl h1', hpart _ _ w rfl h2', Result.andThen_ok, e1, hab, Bool.not_true, Bool.false_eq_true, if_false, h4]
      · rename_i hab
        refine ⟨false, hq, fun E w l' m' hl hm => ?_⟩
        obtain ⟨_, h1', e5⟩ := hl.get h1
        obtain ⟨_, h2', e6⟩ := hm.get h2
        obtain rfl := e5.inv_bool; obtain rfl := e6.inv_bool
        simp only [Op.eqFields, hn, ne_eq, not_false_eq_true, if_true, Sem.run_bind, hpart _ _ w rfl h1', hpart _ _ w rfl h2', Result.andThen_ok, e1, hab, Bool.not_false, Sem.run_pure]
    · rename_i gs
      obtain ⟨b, hq, hb⟩ := hnest f gs _ hu hq
      split at hq
      · obtain ⟨b', h3, h4⟩ := sameFldsG_ok hB hnest hq
        refine ⟨b', h3, fun E w l' m' hl hm => ?_⟩
        obtain ⟨a1, a2, p1, p2, e1⟩ := hb E w l' m' hl hm
        replace h4 := h4 E w l' m' hl hm
        simp only [Op.eqFields, hn, ne_eq, not_false_eq_true, if_true, Sem.run_bind, p1, p2, Result.andThen_ok, e1, Bool.not_true, Bool.false_eq_true, if_false, h4]
      · refine ⟨false, hq, fun E w l' m' hl hm => ?_⟩
        obtain ⟨a1, a2, p1, p2, e1⟩ := hb E w l' m' hl hm
        simp only [Op.eqFields, hn, ne_eq, not_false_eq_true, if_true, Sem.run_bind, p1, p2, Result.andThen_ok, e1, Bool.not_false, Sem.run_pure]
    · exact absurd hq no_ok
/-- what is asked of a look at a struct in a struct. -/
noncomputable def NestOK (P : Program) (r : R) (D : Nat) (nest : Field → Array Field → List Value → List Value → (Bool → An R) → An R) : Prop :=
  ∀ (l m : List Value) (f : Field) (gs : Array Field) (c : Bool → An R), P.underlying f.type = some (.struct gs) → nest f gs l m c = .ok r → ∃ b, c b = .ok r ∧ ∀ E w l' m', LR E l l' → LR E m m' →
      ∃ a' b', (part f.type ⟨l'⟩ f.offset).run P w = .ok a' w ∧ (part f.type ⟨m'⟩ f.offset).run P w = .ok b' w ∧ (Op.equalIn (D + 1) f.type a' b').run P w = .ok b w
theorem sameNestG_ok (hB : TabOK P B) {nest : Field → Array Field → List Value → List Value → (Bool → An R) → An R} {D : Nat} (hn : NestOK P r D nest) : NestOK P r (D + 1) (sameNestG B nest) := by
  intro l m f gs c hu hq
  unfold sameNestG at hq
  split at hq
  case h_2 => exact absurd hq no_ok
  rename_i hpl
  obtain ⟨hst, _⟩ := hB.plain _ hpl
  obtain ⟨a, hq, ha⟩ := partK_ok hB hq
  obtain ⟨b, hq, hb⟩ := partK_ok hB hq
  split at hq
  case h_2 => exact absurd hq no_ok
  rename_i x y
  obtain ⟨bb, hq, hr⟩ := sameFldsG_ok (D := D) hB (fun f gs c hu hq => hn _ _ f gs c hu hq) hq
  refine ⟨bb, hq, fun E w l' m' hl hm => ?_⟩
  obtain ⟨a', h1, h2⟩ := ha E w l' hl
  obtain ⟨b', h3, h4⟩ := hb E w m' hm
  obtain ⟨x', h5, rfl⟩ := h2.inv_agg
  obtain ⟨y', h6, rfl⟩ := h4.inv_agg
  refine ⟨_, _, h1, h3, ?_⟩
  have hfs : P.fieldsOf f.type = gs := by simp [Program.fieldsOf, hu]
  rw [run_equalIn_struct w (D + 1) f.type _ _ (by rw [hfs]; exact hu) hst, hfs]
  exact hr E w x' y' h5 h6
theorem sameFlds_ok (hB : TabOK P B) {l m : List Value} {fs : List Field} {c : Bool → An R} (hq : sameFlds B l m fs c = .ok r) :
    ∃ b, c b = .ok r ∧ ∀ E w l' m', LR E l l' → LR E m m' → (Op.eqFields 9999 ⟨l'⟩ ⟨m'⟩ fs).run P w = .ok b w :=
  sameFldsG_ok (D := 9998) hB (fun f gs c hu hq => sameNestG_ok (D := 9997) hB (sameNestG_ok (D := 9996) hB (fun l m f gs c hu hq => absurd hq no_ok)) _ _ f gs c hu hq) hq
theorem strCmp_ok {op : BinOp} {x y : List UInt8} {c : Value → An R} (hq : strCmp op x y c = .ok r) :
    ∃ v, c v = .ok r ∧ isFlat v = true ∧ Op.stringOp op ⟨⟨x⟩⟩ ⟨⟨y⟩⟩ = .pure v := by
  unfold strCmp at hq
  split at hq <;> first | exact absurd hq no_ok | (obtain ⟨h1, h2⟩ := fV_ok hq; exact ⟨_, h1, h2, by simp only [Op.stringOp, ByteArray.toList_eq]; rfl⟩)
theorem run_sameAddr_far {w : World} {a b : Addr} {ca cb : Array Value} {ta tb : TypeId} (hbl : a.block ≠ b.block) (ha : w.heap[a.block]? = some (.cells ca ta (0, 0))) (hb : w.heap[b.block]? = some (.cells cb tb (0, 0))) :
    (sameAddr a b).run P w = .ok false w := run_sameAddr_other w (fun h => hbl (by rw [h])) ha hb
noncomputable def notNum : Value → Bool
  | .int _ _ | .float _ _ | .complex _ _ _ | .string _ => false
  | _ => true
theorem VR.notNum {E : Env} {x x' : Value} (h : VR E x x') (hc : ∀ a, x ≠ .chan (some a)) : Ev.notNum x = Ev.notNum x' := by cases h <;> first | rfl | exact absurd rfl (hc _)
theorem binOp_eql {t : TypeId} {x y : Value} (h : notNum x = true) : Go.binOp .eql t x y = (do pure (.bool (← Op.equal t x y)) : Sem Value) := by
  cases x <;> first | rfl | (simp [notNum] at h)
theorem binOp_neq {t : TypeId} {x y : Value} (h : notNum x = true) : Go.binOp .neq t x y = (do pure (.bool (!(← Op.equal t x y))) : Sem Value) := by
  cases x <;> first | rfl | (simp [notNum] at h)
theorem sameV_ok (hB : TabOK P B) {t : TypeId} {d : TypeDesc} (hu : P.underlying t = some d) {h : Hp} {x y : Value} {c : Bool → An R} (hq : sameV B d h x y c = .ok r) :
    ∃ b, c b = .ok r ∧ notNum x = true ∧ (∀ E, ¬ (VR E x .nilIface ∧ VR E y .nilIface)) ∧ ((∀ l, x ≠ .agg l) ∧ ∀ a, x ≠ .chan (some a)) ∧ ∀ G E w x' y', WR G E h.t w → VR E x x' → VR E y y' → (Op.equal t x' y').run P w = .ok b w := by
  unfold sameV at hq
  split at hq
  · split at hq
    case h_2 => exact absurd hq no_ok
    refine ⟨_, hq, rfl, fun E hh => (by cases hh.1), ⟨fun l hh => (by cases hh), fun a hh => (by cases hh)⟩, fun G E w x' y' hw hx hy => ?_⟩
    obtain rfl := hx.inv_bool; obtain rfl := hy.inv_bool
    exact run_equalIn_bool w 9999 t _ _ hu
  · rename_i e
    split at hq
    · split at hq
      case h_2 => exact absurd hq no_ok
      rename_i b
      refine ⟨_, hq, rfl, fun E hh => (by cases hh.1), ⟨fun l hh => (by cases hh), fun a hh => (by cases hh)⟩, fun G E w x' y' hw hx hy => ?_⟩
      obtain rfl := hx.inv_pnil
      have : ∃ b', y' = .pointer b' ∧ b'.isNone = b.isNone := by
        cases b with
        | none => exact ⟨none, hy.inv_pnil, rfl⟩
        | some a => obtain ⟨k, o, s⟩ := a; obtain ⟨e, _, _, rfl⟩ := hy.inv_ptr; exact ⟨_, rfl, rfl⟩
      obtain ⟨b', rfl, hb'⟩ := this
      show (Op.equalIn (9999 + 1) t _ _).run P w = _
      generalize 9999 = dd
      simp [Op.equalIn, run_underlying hu, hb']
    · rename_i k o
      split at hq
      · refine ⟨_, hq, rfl, fun E hh => (by cases hh.1), ⟨fun l hh => (by cases hh), fun a hh => (by cases hh)⟩, fun G E w x' y' hw hx hy => ?_⟩
        obtain ⟨e1, h1, _, rfl⟩ := hx.inv_ptr
        obtain rfl := hy.inv_pnil
        show (Op.equalIn (9999 + 1) t _ _).run P w = _
        generalize 9999 = dd
        simp [Op.equalIn, run_underlying hu]
      · rename_i j p
        replace hq := info_ok hB hq
        obtain ⟨i, hi, hq⟩ := hq
        split at hq
        case h_2 => exact absurd hq no_ok
        rename_i z hz
        split at hq
        case h_2 => exact absurd hq no_ok
        rename_i n1 el1 ez1 ti1 d1 t1 n2 el2 ez2 ti2 d2 t2 hk hj
        refine ⟨_, hq, rfl, fun E hh => (by cases hh.1), ⟨fun l hh => (by cases hh), fun a hh => (by cases hh)⟩, fun G E w x' y' hw hx hy => ?_⟩
        obtain ⟨e1, h1, _, rfl⟩ := hx.inv_ptr
        obtain ⟨e2, h2, _, rfl⟩ := hy.inv_ptr
        obtain ⟨f1, g1, b1, _⟩ := hw.blk _ _ hk
        rw [h1] at g1; cases g1
        obtain ⟨f2, g2, b2, _⟩ := hw.blk _ _ hj
        rw [h2] at g2; cases g2
        obtain ⟨c1, fr1, q1, _, _, _, p1⟩ := b1
        obtain ⟨c2, fr2, q2, _, _, _, p2⟩ := b2
        obtain rfl := p1.1 rfl
        obtain rfl := p2.1 rfl
        have key : (sameAddr ⟨e1.b, e1.o + o, none⟩ ⟨e2.b, e2.o + p, none⟩).run P w = .ok (Nat.beq k j && Nat.beq o p) w := by
          by_cases hkj : k = j
          · subst hkj
            rw [h1] at h2; cases h2
            by_cases hop : o = p
            · subst hop; simp [sameAddr]
            · have : Nat.beq o p = false := by cases hh : Nat.beq o p with | true => exact absurd (Nat.eq_of_beq_eq_true hh) hop | false => rfl
              rw [this, Bool.and_false]
              exact run_sameAddr_other w (fun h => hop (by injection h with _ h _; omega)) q1 q1
          · have hb : e1.b ≠ e2.b := fun hb => hkj (hw.inj _ _ _ _ _ _ hk hj h1 h2 hb)
            have : Nat.beq k j = false := by cases hh : Nat.beq k j with | true => exact absurd (Nat.eq_of_beq_eq_true hh) hkj | false => rfl
            rw [this, Bool.false_and]
            exact run_sameAddr_far hb q1 q2
        show (Op.equalIn (9999 + 1) t _ _).run P w = _
        generalize 9999 = dd
        simp only [Op.equalIn, Sem.run_bind, run_underlying hu, Result.andThen_ok, run_siz hi, hz, Nat.succ_ne_zero, ne_eq, not_false_eq_true, if_true, key]
      · exact absurd hq no_ok
    · exact absurd hq no_ok
  · split at hq
    · refine ⟨_, hq, rfl, fun E hh => (by cases hh.1), ⟨fun l hh => (by cases hh), fun a hh => (by cases hh)⟩, fun G E w x' y' hw hx hy => ?_⟩
      obtain rfl := hx.inv_slnil; obtain rfl := hy.inv_slnil
      show (Op.equalIn (9999 + 1) t _ _).run P w = _
      generalize 9999 = dd
      simp [Op.equalIn, run_underlying hu]
    · refine ⟨_, hq, rfl, fun E hh => (by cases hh.1), ⟨fun l hh => (by cases hh), fun a hh => (by cases hh)⟩, fun G E w x' y' hw hx hy => ?_⟩
      obtain rfl := hx.inv_slnil; obtain ⟨e, c', _, _, _, rfl⟩ := hy.inv_sl
      show (Op.equalIn (9999 + 1) t _ _).run P w = _
      generalize 9999 = dd
      simp [Op.equalIn, run_underlying hu]
    · refine ⟨_, hq, rfl, fun E hh => (by cases hh.1), ⟨fun l hh => (by cases hh), fun a hh => (by cases hh)⟩, fun G E w x' y' hw hx hy => ?_⟩
      obtain rfl := hy.inv_slnil; obtain ⟨e, c', _, _, _, rfl⟩ := hx.inv_sl
      show (Op.equalIn (9999 + 1) t _ _).run P w = _
      generalize 9999 = dd
      simp [Op.equalIn, run_underlying hu]
    · exact absurd hq no_ok
  · split at hq
    · rename_i b
      refine ⟨_, hq, rfl, fun E hh => (by cases hh.1), ⟨fun l hh => (by cases hh), fun a hh => (by cases hh)⟩, fun G E w x' y' hw hx hy => ?_⟩
      obtain rfl := hx.inv_mapnil
      have : ∃ b', y' = .map b' ∧ b'.isNone = b.isNone := by
        cases b with
        | none => exact ⟨none, hy.inv_mapnil, rfl⟩
        | some a => obtain ⟨e, _, rfl⟩ := hy.inv_map; exact ⟨_, rfl, rfl⟩
      obtain ⟨b', rfl, hb'⟩ := this
      show (Op.equalIn (9999 + 1) t _ _).run P w = _
      generalize 9999 = dd
      simp [Op.equalIn, run_underlying hu, hb']
    · refine ⟨_, hq, rfl, fun E hh => (by cases hh.1), ⟨fun l hh => (by cases hh), fun a hh => (by cases hh)⟩, fun G E w x' y' hw hx hy => ?_⟩
      obtain ⟨e, _, rfl⟩ := hx.inv_map
      obtain rfl := hy.inv_mapnil
      show (Op.equalIn (9999 + 1) t _ _).run P w = _
      generalize 9999 = dd
      simp [Op.equalIn, run_underlying hu]
    · exact absurd hq no_ok
  · split at hq
    · refine ⟨_, hq, rfl, fun E hh => (by cases hh.1), ⟨fun l hh => (by cases hh), fun a hh => (by cases hh)⟩, fun G E w x' y' hw hx hy => ?_⟩
      obtain rfl := hx.inv_nilFunc; obtain rfl := hy.inv_nilFunc
      show (Op.equalIn (9999 + 1) t _ _).run P w = _
      generalize 9999 = dd
      simp [Op.equalIn, run_underlying hu]
    · rename_i f a b
      refine ⟨_, hq, rfl, fun E hh => (by cases hh.1), ⟨fun l hh => (by cases hh), fun a hh => (by cases hh)⟩, fun G E w x' y' hw hx hy => ?_⟩
      obtain ⟨a⟩ := a; obtain ⟨b⟩ := b
      obtain rfl := hx.inv_nilFunc; obtain ⟨g, a', c', _, _, _, rfl⟩ := hy.inv_func
      show (Op.equalIn (9999 + 1) t _ _).run P w = _
      generalize 9999 = dd
      simp [Op.equalIn, run_underlying hu]
    · rename_i f a b
      refine ⟨_, hq, rfl, fun E hh => (by cases hh.1), ⟨fun l hh => (by cases hh), fun a hh => (by cases hh)⟩, fun G E w x' y' hw hx hy => ?_⟩
      obtain ⟨a⟩ := a; obtain ⟨b⟩ := b
      obtain rfl := hy.inv_nilFunc; obtain ⟨g, a', c', _, _, _, rfl⟩ := hx.inv_func
      show (Op.equalIn (9999 + 1) t _ _).run P w = _
      generalize 9999 = dd
      simp [Op.equalIn, run_underlying hu]
    · exact absurd hq no_ok
  · split at hq
    · refine ⟨_, hq, rfl, fun E hh => (by cases hh.2), ⟨fun l hh => (by cases hh), fun a hh => (by cases hh)⟩, fun G E w x' y' hw hx hy => ?_⟩
      obtain rfl := hx.inv_nilIface; obtain ⟨u, _, rfl⟩ := hy.inv_iface
      show (Op.equalIn (9999 + 1) t _ _).run P w = _
      generalize 9999 = dd
      simp [Op.equalIn, run_underlying hu]
    · refine ⟨_, hq, rfl, fun E hh => (by cases hh.1), ⟨fun l hh => (by cases hh), fun a hh => (by cases hh)⟩, fun G E w x' y' hw hx hy => ?_⟩
      obtain rfl := hy.inv_nilIface; obtain ⟨u, _, rfl⟩ := hx.inv_iface
      show (Op.equalIn (9999 + 1) t _ _).run P w = _
      generalize 9999 = dd
      simp [Op.equalIn, run_underlying hu]
    · exact absurd hq no_ok
  · exact absurd hq no_ok
end
end Go.Ev
