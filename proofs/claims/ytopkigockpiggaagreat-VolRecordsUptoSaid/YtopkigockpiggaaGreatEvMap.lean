/-
  Maps: looking up, writing, taking out, ranging over.
-/
import Derived.Test.YtopkigockpiggaaGreatEvAppend
import Derived.RangeFuncRecord
set_option linter.unusedVariables false
set_option linter.unusedSimpArgs false
namespace Go.Ev
section
variable {R : Type} {P : Program} {B : Tab} {r : R}
/-- a value that a key may be. -/
noncomputable def keyV : Value → Bool | .int _ _ | .string _ | .bool _ | .pointer (some ⟨_, _, none⟩) => true | _ => false
theorem VR.key_det {E : Env} {x a b : Value} (hk : keyV x = true) (ha : VR E x a) (hb : VR E x b) : a = b := by
  cases x <;> simp only [keyV, Bool.false_eq_true] at hk
  · rw [ha.inv_bool, hb.inv_bool]
  · rw [ha.inv_int, hb.inv_int]
  · rw [ha.inv_str, hb.inv_str]
  · rename_i p
    cases p with
    | none => simp at hk
    | some p =>
      obtain ⟨k, o, s⟩ := p
      obtain ⟨e, h1, _, rfl⟩ := ha.inv_ptr
      obtain ⟨f, h2, _, rfl⟩ := hb.inv_ptr
      rw [h1] at h2; cases h2; rfl
theorem VR.key_of {E : Env} {x a : Value} (hk : keyV x = true) (ha : VR E x a) : keyV a = true := by
  cases x <;> simp only [keyV, Bool.false_eq_true] at hk
  · rw [ha.inv_bool]; rfl
  · rw [ha.inv_int]; rfl
  · rw [ha.inv_str]; rfl
  · rename_i p
    cases p with
    | none => simp at hk
    | some p =>
      obtain ⟨k, o, s⟩ := p
      obtain ⟨e, h1, _, rfl⟩ := ha.inv_ptr
      rfl
theorem sameBits_self {x : Value} (hk : keyV x = true) (n : Nat) : Instr.sameBits n x x = true := by
  cases x <;> simp only [keyV, Bool.false_eq_true] at hk
  · simp [Instr.sameBits]
  · simp [Instr.sameBits]
  · simp [Instr.sameBits, beq_toListBytes]
  · simp [Instr.sameBits]
/-- two keys. -/
theorem sameKey_ok (hB : TabOK P B) {t : TypeId} {d : TypeDesc} (hu : P.underlying t = some d) {h : Hp} {x y : Value} {c : Bool → An R} (hq : sameKeyK B d h x y c = .ok r) :
    ∃ b, c b = .ok r ∧ (b = true → x = y) ∧ keyV x = true ∧ ∀ G E w x' y', WR G E h.t w → VR E x x' → VR E y y' →
      (Op.equal t x' y').run P w = .ok b w ∧ (Instr.sameNow d x' y' = some b ∨ ∃ e, d = .pointer e) := by
  unfold sameKeyK at hq
  split at hq
  · rename_i kk
    split at hq
    case h_2 => exact absurd hq no_ok
    rename_i k a j b
    split at hq
    case h_2 => exact absurd hq no_ok
    rename_i hk
    have hk : k = j := of_decide_eq_true hk
    subst hk
    have hc : c (a == b) = .ok r := by
      split at hq <;> rename_i h1 <;> rw [h1] <;> exact hq
    refine ⟨_, hc, fun h1 => by rw [eq_of_beq h1], rfl, fun G E w x' y' hw hx hy => ?_⟩
    obtain rfl := hx.inv_int; obtain rfl := hy.inv_int
    exact ⟨run_equalIn_int (P := P) w 9999 t k kk a b hu, Or.inl (by simp [Instr.sameNow])⟩
  · split at hq
    case h_2 => exact absurd hq no_ok
    rename_i a b
    have hc : c (a == b) = .ok r := by
      split at hq <;> rename_i h1 <;> rw [h1] <;> exact hq
    refine ⟨_, hc, fun h1 => by rw [eq_of_beq h1], rfl, fun G E w x' y' hw hx hy => ?_⟩
    obtain rfl := hx.inv_str; obtain rfl := hy.inv_str
    have e1 := run_equalIn_string (P := P) w 9999 t ⟨⟨a⟩⟩ ⟨⟨b⟩⟩ hu
    simp only [ByteArray.toList_eq] at e1
    refine ⟨e1, Or.inl ?_⟩
    simp only [Instr.sameNow, beq_toListBytes, ByteArray.toList_eq]
  · split at hq
    case h_2 => exact absurd hq no_ok
    rename_i a b
    have hc : c (a == b) = .ok r := by
      split at hq <;> rename_i h1 <;> rw [h1] <;> exact hq
    refine ⟨_, hc, fun h1 => by rw [eq_of_beq h1], rfl, fun G E w x' y' hw hx hy => ?_⟩
    obtain rfl := hx.inv_bool; obtain rfl := hy.inv_bool
    exact ⟨run_equalIn_bool w 9999 t a b hu, Or.inl rfl⟩
  · rename_i e
    split at hq
    case h_2 => exact absurd hq no_ok
    rename_i k o j p
    obtain ⟨b, hq, _, _, _, hrun⟩ := sameV_ok hB hu hq
    have key : c b = .ok r ∧ (b = true → k = j ∧ o = p) := by
      cases b with
      | false => exact ⟨hq, fun h => by cases h⟩
      | true =>
        simp only at hq
        split at hq
        case h_2 => exact absurd hq no_ok
        rename_i hb
        rw [Bool.and_eq_true] at hb
        exact ⟨hq, fun _ => ⟨Nat.eq_of_beq_eq_true hb.1, Nat.eq_of_beq_eq_true hb.2⟩⟩
    refine ⟨b, key.1, fun h1 => ?_, rfl, fun G E w x' y' hw hx hy => ⟨hrun G E w x' y' hw hx hy, Or.inr ⟨_, rfl⟩⟩⟩
    obtain ⟨rfl, rfl⟩ := key.2 h1
    rfl
  · exact absurd hq no_ok
/-- the keys that are not looked at must be of the kind, too. -/
noncomputable def FindsAt (E : Env) (es es' : List MapEntry) (i : Nat) (o : Option (Nat × MapEntry)) (o' : Option (Nat × Value)) : Prop :=
  match o with
  | none => o' = none
  | some (j, e) => ∃ e', o' = some (j, e'.val) ∧ i ≤ j ∧ es[j - i]? = some e ∧ es'[j - i]? = some e' ∧ VR E e.key e'.key ∧ VR E e.val e'.val ∧ e.born = e'.born
theorem findAsk_ok (hB : TabOK P B) {t : TypeId} {d : TypeDesc} (hu : P.underlying t = some d) {h : Hp} {x : Value} : ∀ {es : List MapEntry} {i : Nat} {c : Option (Nat × MapEntry) → An R}, findKK B d h x es i c = .ok r →
    ∃ o, c o = .ok r ∧ (∀ j e, o = some (j, e) → x = e.key ∧ keyV x = true) ∧ ∀ G E w x' es', WR G E h.t w → VR E x x' → ER E es es' →
      ∃ o', (Instr.findAsking t x' es' i).run P w = .ok o' w ∧ FindsAt E es es' i o o' ∧ ((Instr.findNow d x' es' i = some o' ∨ (es ≠ [] ∧ ∃ e, d = .pointer e)) )
  | [], i, c, hq => by
    refine ⟨none, hq, fun j e h => (by cases h), fun G E w x' es' hw hx he => ?_⟩
    cases es' with
    | cons b y => exact he.elim
    | nil => exact ⟨none, rfl, rfl, Or.inl rfl⟩
  | a :: es, i, c, hq => by
    unfold findKK at hq
    obtain ⟨b, hq, hb1, hkx, hb⟩ := sameKey_ok hB hu hq
    cases b with
    | true =>
      simp only at hq
      refine ⟨_, hq, fun j e h => (by cases h; exact ⟨hb1 rfl, hkx⟩), fun G E w x' es' hw hx he => ?_⟩
      cases es' with
      | nil => exact he.elim
      | cons b y =>
        obtain ⟨h1, h2⟩ := hb G E w x' b.key hw hx he.1.1
        refine ⟨some (i, b.val), ?_, ⟨b, rfl, Nat.le_refl _, by simp, by simp, he.1.1, he.1.2.1, he.1.2.2⟩, ?_⟩
        · simp only [Instr.findAsking, Sem.run_bind, h1, Result.andThen_ok, if_true, Sem.run_pure]
        · rcases h2 with h2 | h2
          · exact Or.inl (by simp only [Instr.findNow, h2])
          · exact Or.inr ⟨by simp, h2⟩
    | false =>
      simp only at hq
      obtain ⟨o, hq, ho, hr⟩ := findAsk_ok hB hu hq
      refine ⟨o, hq, ho, fun G E w x' es' hw hx he => ?_⟩
      cases es' with
      | nil => exact he.elim
      | cons b y =>
        obtain ⟨h1, h2⟩ := hb G E w x' b.key hw hx he.1.1
        obtain ⟨o', h3, h4, h5⟩ := hr G E w x' y hw hx he.2
        refine ⟨o', ?_, ?_, ?_⟩
        · simp only [Instr.findAsking, Sem.run_bind, h1, Result.andThen_ok, Bool.false_eq_true, if_false]
          exact h3
        · cases o with
          | none => exact h4
          | some p =>
            obtain ⟨j, e⟩ := p
            obtain ⟨e', a1, a2, a3, a4, a5⟩ := h4
            have e1 : j - i = (j - Nat.succ i) + 1 := by omega
            exact ⟨e', a1, by omega, by rw [e1, List.getElem?_cons_succ]; exact a3, by rw [e1, List.getElem?_cons_succ]; exact a4, a5⟩
        · rcases h2 with h2 | h2
          · rcases h5 with h5 | ⟨_, h5⟩
            · exact Or.inl (by simp only [Instr.findNow, h2]; exact h5)
            · exact Or.inr ⟨by simp, h5⟩
          · exact Or.inr ⟨by simp, h2⟩
/-- a key's entry. -/
theorem findKK_ok (hB : TabOK P B) {t : TypeId} {d : TypeDesc} (hu : P.underlying t = some d) {h : Hp} {x : Value} {es : List MapEntry} {c : Option (Nat × MapEntry) → An R} (hq : findKK B d h x es 0 c = .ok r) :
    ∃ o, c o = .ok r ∧ (∀ j e, o = some (j, e) → x = e.key ∧ keyV x = true) ∧ ∀ G E w x' es', WR G E h.t w → VR E x x' → ER E es es' →
      ∃ o', (Instr.findKey t x' es').run P w = .ok o' w ∧ FindsAt E es es' 0 o o' := by
  obtain ⟨o, hq, ho, hr⟩ := findAsk_ok hB hu hq
  refine ⟨o, hq, ho, fun G E w x' es' hw hx he => ?_⟩
  obtain ⟨o', h1, h2, h3⟩ := hr G E w x' es' hw hx he
  refine ⟨o', ?_, h2⟩
  simp only [Instr.findKey, Sem.run_bind, run_underlying hu, Result.andThen_ok]
  rcases h3 with h3 | ⟨hne, e, rfl⟩
  · rw [h3]; rfl
  · cases es' with
    | nil => cases es with
      | nil => exact absurd rfl hne
      | cons => exact he.elim
    | cons b y =>
      have : Instr.findNow (.pointer e) x' (b :: y) 0 = none := by simp [Instr.findNow, Instr.sameNow]
      rw [this]
      exact h1
theorem run_checkKey {t : TypeId} {d : TypeDesc} (hu : P.underlying t = some d) (hd : keyD d = true) (empty : Bool) (x : Value) (w : World) : (Instr.checkKey empty 10000 t x).run P w = .ok () w := by
  show (Instr.checkKey empty (9999 + 1) t x).run P w = _
  generalize 9999 = n
  simp only [Instr.checkKey, Sem.run_bind, run_underlying hu, Result.andThen_ok]
  cases d <;> simp only [keyD, Bool.false_eq_true] at hd <;> rfl
theorem mapD_ok (hB : TabOK P B) {t : TypeId} {c : TypeDesc → TypeId → An R} (hq : mapD B t c = .ok r) : ∃ key elem kd, P.underlying t = some (.map key elem) ∧ P.underlying key = some kd ∧ keyD kd = true ∧ c kd elem = .ok r := by
  unfold mapD at hq
  obtain ⟨ds, hu, hq⟩ := und_ok hB hq
  split at hq
  case h_2 => exact absurd hq no_ok
  obtain ⟨kd, hk, hq⟩ := und_ok hB hq
  split at hq
  case h_2 => exact absurd hq no_ok
  rename_i hd
  exact ⟨_, _, kd, hu, hk, hd, hq⟩
theorem mapB_ok {x : Value} {h : Hp} {c : Nat → List MapEntry → Nat → An R} (hq : mapB x h c = .ok r) : ∃ k es clock, x = .map (some k) ∧ h.t.find k = some (.map es clock) ∧ c k es clock = .ok r := by
  unfold mapB at hq
  split at hq
  case h_2 => exact absurd hq no_ok
  split at hq
  case h_2 => exact absurd hq no_ok
  rename_i k _ es clock hk
  exact ⟨k, es, clock, rfl, hk, hq⟩
/-- a map's block, in the world. -/
theorem map_at {G : Ctx} {E : Env} {t : T Blk} {w : World} (hw : WR G E t w) {k : Nat} {es : List MapEntry} {clock : Nat} (hk : t.find k = some (.map es clock)) {x' : Value} (hx : VR E (.map (some k)) x') :
    ∃ en es', E k = some en ∧ x' = .map (some en.b) ∧ w.heap[en.b]? = some (.map ⟨es'⟩ clock) ∧ ER E es es' := by
  obtain ⟨en, he, rfl⟩ := hx.inv_map
  obtain ⟨f, hf, hb, _⟩ := hw.blk k _ hk
  rw [he] at hf; cases hf
  obtain ⟨es', h1, h2⟩ := hb
  exact ⟨en, es', he, rfl, h1, h2⟩
noncomputable def noRow : Obj → Bool | .cells .. => false | _ => true
theorem run_getO {w : World} {b : Nat} {o : Obj} (h : w.heap[b]? = some o) (hn : noRow o = true := by rfl) : (getObj b).run P w = .ok o w := by
  cases o <;> first | (simp [noRow] at hn; done) | simp [getObj, Sem.run, h]
theorem run_setO {w : World} {b : Nat} {o : Obj} (h : w.heap[b]? = some o) (o' : Obj) (hn : noRow o = true := by rfl) : (setObj b o').run P w = .ok () (w.putObj b o') := by
  cases o <;> first | (simp [noRow] at hn; done) | simp [setObj, Sem.run, h, World.putObj]
/-- a map's block is written. -/
theorem map_put {G : Ctx} {E : Env} {t : T Blk} {w : World} (hw : WR G E t w) {k : Nat} {B0 : Blk} {en : Ent} (hk : t.find k = some B0) (hm : mutB B0 = true) (he : E k = some en) (C : Blk) (hmC : mutB C = true) (o : Obj) (hb : BR E C en (some o)) :
    WR G E (t.put k (some C)) (w.putObj en.b o) := by
  have hlt := hw.lt hk he
  exact hw.set hk he hm C hmC World.putObj_size (fun j hj => World.putObj_heap_other hj) (by rw [World.putObj_heap_same hlt]; exact hb) rfl rfl rfl
theorem ER.set {E : Env} : ∀ {x y : List MapEntry} {a b : MapEntry} (i : Nat), ER E x y → VR E a.key b.key → VR E a.val b.val → a.born = b.born → ER E (x.set i a) (y.set i b)
  | [], [], _, _, _, _, _, _, _ => trivial
  | [], _ :: _, _, _, _, r, _, _, _ => r.elim
  | _ :: _, [], _, _, _, r, _, _, _ => r.elim
  | _ :: _, _ :: _, _, _, 0, r, h1, h2, h3 => ⟨⟨h1, h2, h3⟩, r.2⟩
  | _ :: _, _ :: _, _, _, i + 1, r, h1, h2, h3 => ⟨r.1, ER.set i r.2 h1 h2 h3⟩
theorem ER.snoc {E : Env} : ∀ {x y : List MapEntry} {a b : MapEntry}, ER E x y → VR E a.key b.key → VR E a.val b.val → a.born = b.born → ER E (x ++ [a]) (y ++ [b])
  | [], [], _, _, _, h1, h2, h3 => ⟨⟨h1, h2, h3⟩, trivial⟩
  | [], _ :: _, _, _, r, _, _, _ => r.elim
  | _ :: _, [], _, _, r, _, _, _ => r.elim
  | _ :: _, _ :: _, _, _, r, h1, h2, h3 => ⟨r.1, ER.snoc r.2 h1 h2 h3⟩
theorem ER.erase {E : Env} : ∀ {x y : List MapEntry} (i : Nat), ER E x y → ER E (x.eraseIdx i) (y.eraseIdx i)
  | [], [], _, _ => trivial
  | [], _ :: _, _, r => r.elim
  | _ :: _, [], _, r => r.elim
  | _ :: _, _ :: _, 0, r => r.2
  | _ :: _, _ :: _, i + 1, r => ⟨r.1, ER.erase i r.2⟩
theorem modify_set {l : List MapEntry} {i : Nat} {e : MapEntry} (f : MapEntry → MapEntry) (h : l[i]? = some e) : (⟨l⟩ : Array MapEntry).modify i f = ⟨l.set i (f e)⟩ := by
  apply Array.ext'
  simp only [Array.toList_modify]
  apply List.ext_getElem?
  intro j
  rw [List.getElem?_modify, List.getElem?_set]
  by_cases hij : i = j
  · subst hij
    have hi : i < l.length := (List.getElem?_eq_some_iff.1 h).1
    have : l[i] = e := by rw [List.getElem?_eq_getElem hi] at h; exact Option.some.inj h
    simp [hi, this]
  · simp [hij]
theorem lookupK_ok (hB : TabOK P B) {t : TypeId} {x ix : Value} {ok : Bool} {h : Hp} {c : Value → An R} (hq : lookupK B t x ix ok h c = .ok r) :
    ∃ v, c v = .ok r ∧ ∀ G E w x' ix', WR G E h.t w → VR E x x' → VR E ix ix' → ∃ v', (Instr.lookup t x' ix' ok).run P w = .ok v' w ∧ VR E v v' := by
  unfold lookupK at hq
  obtain ⟨key, elem, kd, hu, hkd, hd, hq⟩ := mapD_ok hB hq
  have okr : ∀ {E : Env} {v v' : Value} {b : Bool}, VR E v v' → VR E (okV ok v b) (if ok then .tuple #[v', .bool b] else v') := fun {E v v' b} hv => by
    cases ok
    · exact hv
    · exact .tuple (a := [v, .bool b]) (a' := [v', .bool b]) rfl (LR.cons hv (.cons (.flat rfl) (LR.nil E))).2
  split at hq
  · obtain ⟨i, z, hi, hz, hf, hq⟩ := zeroOf_ok hB hq
    refine ⟨_, hq, fun G E w x' ix' hw hx hix => ?_⟩
    obtain rfl := hx.inv_mapnil
    refine ⟨_, ?_, okr (v' := z) (.flat hf)⟩
    simp only [Instr.lookup, Sem.run_bind, run_underlying hu, Result.andThen_ok, Sem.run_pure, run_checkKey hkd hd, Instr.findKey, run_underlying hkd, Instr.findNow, run_zro hi hz]
  · obtain ⟨k, es, clock, rfl, hk, hq⟩ := mapB_ok hq
    obtain ⟨o, hq, ho, hr⟩ := findKK_ok hB hkd hq
    cases o with
    | some p =>
      obtain ⟨j, e⟩ := p
      simp only at hq
      refine ⟨_, hq, fun G E w x' ix' hw hx hix => ?_⟩
      obtain ⟨en, es', he, rfl, hbk, her⟩ := map_at hw hk hx
      obtain ⟨o', h1, e', rfl, _, _, _, _, hv, _⟩ := hr G E w ix' es' hw hix her
      refine ⟨_, ?_, okr hv⟩
      simp only [Instr.lookup, Sem.run_bind, run_underlying hu, Result.andThen_ok, Sem.run_pure, run_getO hbk, run_checkKey hkd hd, h1]
    | none =>
      simp only at hq
      obtain ⟨i, z, hi, hz, hf, hq⟩ := zeroOf_ok hB hq
      refine ⟨_, hq, fun G E w x' ix' hw hx hix => ?_⟩
      obtain ⟨en, es', he, rfl, hbk, her⟩ := map_at hw hk hx
      obtain ⟨o', h1, rfl⟩ := hr G E w ix' es' hw hix her
      refine ⟨_, ?_, okr (v' := z) (.flat hf)⟩
      simp only [Instr.lookup, Sem.run_bind, run_underlying hu, Result.andThen_ok, Sem.run_pure, run_getO hbk, run_checkKey hkd hd, h1, run_zro hi hz]
theorem mapPutK_ok (hB : TabOK P B) {t : TypeId} {m k v : Value} {h : Hp} {c : Hp → An R} (hq : mapPutK B t m k v h c = .ok r) :
    ∃ h', c h' = .ok r ∧ h'.next = h.next ∧ ∀ G E w m' k' v', WR G E h.t w → VR E m m' → VR E k k' → VR E v v' → ∃ w', (Instr.mapUpdate t m' k' v').run P w = .ok () w' ∧ WR G E h'.t w' := by
  unfold mapPutK at hq
  obtain ⟨key, elem, kd, hu, hkd, hd, hq⟩ := mapD_ok hB hq
  obtain ⟨b, es, clock, rfl, hk, hq⟩ := mapB_ok hq
  obtain ⟨o, hq, ho, hr⟩ := findKK_ok hB hkd hq
  cases o with
  | some p =>
    obtain ⟨j, e⟩ := p
    simp only at hq
    rw [fL_eq, T.putK_eq] at hq
    refine ⟨_, hq, rfl, fun G E w m' k' v' hw hm hkk hv => ?_⟩
    obtain ⟨en, es', he, rfl, hbk, her⟩ := map_at hw hk hm
    obtain ⟨o', h1, e', rfl, _, g1, g2, g3, g4, g5⟩ := hr G E w k' es' hw hkk her
    obtain ⟨hke, hkv⟩ := ho j e rfl
    have hkk2 : e'.key = k' := VR.key_det hkv (hke ▸ g3) hkk
    have hself : Instr.sameBits 10000 e'.key k' = true := by rw [hkk2]; exact sameBits_self (hkk.key_of hkv) _
    rw [Nat.sub_zero] at g1 g2
    refine ⟨_, ?_, map_put hw hk rfl he (.map (es.set j ⟨k, v, e.born⟩) clock) rfl (.map ⟨es'.set j ⟨k', v', e'.born⟩⟩ clock) ⟨_, rfl, her.set j hkk hv g5⟩⟩
    have hg2 : (⟨es'⟩ : Array MapEntry)[j]? = some e' := by simpa using g2
    simp only [Instr.mapUpdate, Sem.run_bind, run_underlying hu, Result.andThen_ok, run_getO hbk, run_checkKey hkd hd, h1, hg2, Option.map_some, Option.getD_some, Instr.keyThatStays, hself, if_true, Sem.run_pure,
      modify_set _ g2]
    exact run_setO hbk _
  | none =>
    simp only at hq
    rw [fL_eq, fN_eq, T.putK_eq] at hq
    refine ⟨_, hq, rfl, fun G E w m' k' v' hw hm hkk hv => ?_⟩
    obtain ⟨en, es', he, rfl, hbk, her⟩ := map_at hw hk hm
    obtain ⟨o', h1, rfl⟩ := hr G E w k' es' hw hkk her
    refine ⟨_, ?_, map_put hw hk rfl he (.map (es ++ [⟨k, v, clock⟩]) (Nat.succ clock)) rfl (.map ⟨es' ++ [⟨k', v', clock⟩]⟩ (clock + 1)) ⟨_, rfl, her.snoc hkk hv rfl⟩⟩
    simp only [Instr.mapUpdate, Sem.run_bind, run_underlying hu, Result.andThen_ok, run_getO hbk, run_checkKey hkd hd, h1]
    have := run_setO (P := P) hbk (.map ((⟨es'⟩ : Array MapEntry).push ⟨k', v', clock⟩) (clock + 1))
    rw [show ((⟨es'⟩ : Array MapEntry).push ⟨k', v', clock⟩) = ⟨es' ++ [⟨k', v', clock⟩]⟩ by apply Array.ext'; simp] at this ⊢
    exact this
theorem mapDelK_ok (hB : TabOK P B) {t : TypeId} {m k : Value} {h : Hp} {c : Hp → An R} (hq : mapDelK B t m k h c = .ok r) :
    ∃ h', c h' = .ok r ∧ h'.next = h.next ∧ ∀ G E w m' k' (ts : Array TypeId) ty, ts[0]? = some t → WR G E h.t w → VR E m m' → VR E k k' → ∃ w', (Builtin.delete_ ts ty #[m', k']).run P w = .ok Go.undef w' ∧ WR G E h'.t w' := by
  unfold mapDelK at hq
  obtain ⟨key, elem, kd, hu, hkd, hd, hq⟩ := mapD_ok hB hq
  split at hq
  · refine ⟨_, hq, rfl, fun G E w m' k' ts ty ht hw hm hkk => ⟨w, ?_, hw⟩⟩
    obtain rfl := hm.inv_mapnil
    simp only [Builtin.delete_, ht, List.getElem?_toArray, List.getElem?_cons_zero, List.getElem?_cons_succ, Sem.run_bind, run_underlying hu, Result.andThen_ok, run_checkKey hkd hd]
    rfl
  · obtain ⟨b, es, clock, rfl, hk, hq⟩ := mapB_ok hq
    obtain ⟨o, hq, ho, hr⟩ := findKK_ok hB hkd hq
    cases o with
    | some p =>
      obtain ⟨j, e⟩ := p
      simp only at hq
      rw [fL_eq, T.putK_eq] at hq
      refine ⟨_, hq, rfl, fun G E w m' k' ts ty ht hw hm hkk => ?_⟩
      obtain ⟨en, es', he, rfl, hbk, her⟩ := map_at hw hk hm
      obtain ⟨o', h1, e', rfl, _, g1, g2, g3, g4, g5⟩ := hr G E w k' es' hw hkk her
      refine ⟨_, ?_, map_put hw hk rfl he (.map (es.eraseIdx j) clock) rfl (.map ⟨es'.eraseIdx j⟩ clock) ⟨_, rfl, her.erase j⟩⟩
      have e1 : (⟨es'⟩ : Array MapEntry).eraseIdxIfInBounds j = ⟨es'.eraseIdx j⟩ := by
        apply Array.ext'
        simp [Array.toList_eraseIdxIfInBounds]
      simp only [Builtin.delete_, ht, List.getElem?_toArray, List.getElem?_cons_zero, List.getElem?_cons_succ, Sem.run_bind, run_underlying hu, Result.andThen_ok, run_getO hbk, run_checkKey hkd hd, h1, e1, run_setO hbk]
      rfl
    | none =>
      simp only at hq
      refine ⟨_, hq, rfl, fun G E w m' k' ts ty ht hw hm hkk => ?_⟩
      obtain ⟨en, es', he, rfl, hbk, her⟩ := map_at hw hk hm
      obtain ⟨o', h1, rfl⟩ := hr G E w k' es' hw hkk her
      refine ⟨w.putObj en.b (.map ⟨es'⟩ clock), ?_, ?_⟩
      · simp only [Builtin.delete_, ht, List.getElem?_toArray, List.getElem?_cons_zero, List.getElem?_cons_succ, Sem.run_bind, run_underlying hu, Result.andThen_ok, run_getO hbk, run_checkKey hkd hd, h1, run_setO hbk]
        rfl
      · have := map_put hw hk rfl he (.map es clock) rfl (.map ⟨es'⟩ clock) ⟨_, rfl, her⟩
        exact this.sub fun k2 B2 h2 => by
          rw [T.find_put]
          split
          · rename_i x; subst x; rw [hk] at h2; exact h2
          · exact h2
theorem mapEntryK_ok (hB : TabOK P B) {t : TypeId} {m k : Value} {h : Hp} {c : Value → Hp → An R} (hq : mapEntryK B t m k h c = .ok r) :
    ∃ v h', c v h' = .ok r ∧ h'.next = h.next ∧ ∀ G E w m' k', WR G E h.t w → VR E m m' → VR E k k' → ∃ v' w', (Instr.mapEntry t m' k').run P w = .ok v' w' ∧ WR G E h'.t w' ∧ VR E v v' := by
  unfold mapEntryK at hq
  obtain ⟨key, elem, kd, hu, hkd, hd, hq⟩ := mapD_ok hB hq
  obtain ⟨b, es, clock, rfl, hk, hq⟩ := mapB_ok hq
  obtain ⟨o, hq, ho, hr⟩ := findKK_ok hB hkd hq
  have pair : ∀ {E : Env} {v v' : Value} {s : Nat}, VR E v v' → VR E (.tuple ⟨[v, .int .i64 (.ofNat s)]⟩) (.tuple #[v', goInt s]) := fun {E v v' s} hv =>
    .tuple (a := [v, .int .i64 (.ofNat s)]) (a' := [v', .int .i64 (.ofNat s)]) rfl (LR.cons hv (.cons (.flat rfl) (LR.nil E))).2
  cases o with
  | some p =>
    obtain ⟨j, e⟩ := p
    simp only at hq
    rw [fL_eq, T.putK_eq] at hq
    refine ⟨_, _, hq, rfl, fun G E w m' k' hw hm hkk => ?_⟩
    obtain ⟨en, es', he, rfl, hbk, her⟩ := map_at hw hk hm
    obtain ⟨o', h1, e', rfl, _, g1, g2, g3, g4, g5⟩ := hr G E w k' es' hw hkk her
    obtain ⟨hke, hkv⟩ := ho j e rfl
    have hkk2 : e'.key = k' := VR.key_det hkv (hke ▸ g3) hkk
    have hself : Instr.sameBits 10000 e'.key k' = true := by rw [hkk2]; exact sameBits_self (hkk.key_of hkv) _
    rw [Nat.sub_zero] at g1 g2
    refine ⟨_, _, ?_, map_put hw hk rfl he (.map (es.set j ⟨k, e.val, e.born⟩) clock) rfl (.map ⟨es'.set j ⟨k', e'.val, e'.born⟩⟩ clock) ⟨_, rfl, her.set j hkk g4 g5⟩, pair (s := e.born) g4⟩
    have hg2 : (⟨es'⟩ : Array MapEntry)[j]? = some e' := by simpa using g2
    simp only [Instr.mapEntry, Sem.run_bind, run_underlying hu, Result.andThen_ok, run_getO hbk, run_checkKey hkd hd, h1, hg2, Option.map_some, Option.getD_some, Instr.keyThatStays, hself, if_true, Sem.run_pure,
      modify_set _ g2, run_setO hbk, g5]
  | none =>
    simp only at hq
    obtain ⟨i, z, hi, hz, hf, hq⟩ := zeroOf_ok hB hq
    rw [fL_eq, fN_eq, T.putK_eq] at hq
    refine ⟨_, _, hq, rfl, fun G E w m' k' hw hm hkk => ?_⟩
    obtain ⟨en, es', he, rfl, hbk, her⟩ := map_at hw hk hm
    obtain ⟨o', h1, rfl⟩ := hr G E w k' es' hw hkk her
    refine ⟨_, _, ?_, map_put hw hk rfl he (.map (es ++ [⟨k, z, clock⟩]) (Nat.succ clock)) rfl (.map ⟨es' ++ [⟨k', z, clock⟩]⟩ (clock + 1)) ⟨_, rfl, her.snoc hkk (.flat hf) rfl⟩, pair (s := clock) (.flat hf)⟩
    have e1 : ((⟨es'⟩ : Array MapEntry).push ⟨k', z, clock⟩) = ⟨es' ++ [⟨k', z, clock⟩]⟩ := by apply Array.ext'; simp
    simp only [Instr.mapEntry, Sem.run_bind, run_underlying hu, Result.andThen_ok, run_getO hbk, run_checkKey hkd hd, h1, run_zro hi hz, e1, run_setO hbk, Sem.run_pure]
theorem bornAt_ok {E : Env} {s : Nat} : ∀ {es es' : List MapEntry} {i j : Nat} {e : MapEntry}, bornAt s es i = some (j, e) → ER E es es' → ∃ e', i ≤ j ∧ es[j - i]? = some e ∧ es'[j - i]? = some e' ∧ VR E e.key e'.key ∧ e.born = e'.born ∧ e.born = s ∧
    es'.findIdx? (fun e => (e.born : Int) == (s : Int)) = some (j - i)
  | [], _, _, _, _, h, _ => by cases h
  | _ :: _, [], _, _, _, _, r => r.elim
  | a :: es, b :: es', i, j, e, h, r => by
    unfold bornAt at h
    split at h
    · rename_i hb
      have hb := Nat.eq_of_beq_eq_true hb
      cases h
      refine ⟨b, Nat.le_refl _, by simp, by simp, r.1.1, r.1.2.2, hb, ?_⟩
      rw [List.findIdx?_cons]
      have : b.born = s := by rw [← r.1.2.2]; exact hb
      simp [this]
    · rename_i hb
      have hb : a.born ≠ s := fun x => by rw [x, Nat.beq_refl] at hb; cases hb
      obtain ⟨e', h1, h2, h3, h4, h5, h6, h7⟩ := bornAt_ok h r.2
      have e1 : j - i = (j - Nat.succ i) + 1 := by omega
      refine ⟨e', by omega, by rw [e1, List.getElem?_cons_succ]; exact h2, by rw [e1, List.getElem?_cons_succ]; exact h3, h4, h5, h6, ?_⟩
      rw [List.findIdx?_cons]
      have hbn : ¬ ((b.born : Int) = (s : Int)) := by
        have := r.1.2.2
        omega
      have hbn : ((b.born : Int) == (s : Int)) = false := by simpa using hbn
      rw [hbn, h7, e1]
      rfl
theorem entryStoreK_ok {m s v : Value} {h : Hp} {c : Hp → An R} (hq : entryStoreK m s v h c = .ok r) :
    ∃ h', c h' = .ok r ∧ h'.next = h.next ∧ ∀ G E w t m' s' v', WR G E h.t w → VR E m m' → VR E s s' → VR E v v' → ∃ w', (Instr.entryStore t m' s' v').run P w = .ok () w' ∧ WR G E h'.t w' := by
  unfold entryStoreK at hq
  obtain ⟨k, n, rfl, hq2⟩ := asN_ok hq
  clear hq
  have hq := hq2
  clear hq2
  split at hq
  case h_2 => exact absurd hq no_ok
  rename_i hle
  have hle : n ≤ 1048576 := Nat.le_of_ble_eq_true hle
  obtain ⟨b, es, clock, rfl, hk, hq⟩ := mapB_ok hq
  split at hq
  case h_2 => exact absurd hq no_ok
  rename_i j e hbo
  rw [fL_eq, T.putK_eq] at hq
  refine ⟨_, hq, rfl, fun G E w t m' s' v' hw hm hs hv => ?_⟩
  obtain ⟨en, es', he, rfl, hbk, her⟩ := map_at hw hk hm
  obtain rfl := hs.inv_int
  obtain ⟨e', _, g1, g2, g3, g4, g5, g6⟩ := bornAt_ok hbo her
  rw [Nat.sub_zero] at g1 g2 g6
  refine ⟨_, ?_, map_put hw hk rfl he (.map (es.set j ⟨e.key, v, e.born⟩) clock) rfl (.map ⟨es'.set j ⟨e'.key, v', e'.born⟩⟩ clock) ⟨_, rfl, her.set j g3 hv g4⟩⟩
  have hf : (⟨es'⟩ : Array MapEntry).findIdx? (fun e => (e.born : Int) == (n : Int)) = some j := by simpa using g6
  have ha : ∀ w, (asInt (.int k (Int.ofNat n))).run P w = .ok (n : Int) w := fun w => by
    rfl
  simp only [Instr.entryStore, Sem.run_bind, run_getO hbk, Result.andThen_ok, ha, hf, modify_set _ g2]
  exact run_setO hbk _
theorem ER.isEmpty {E : Env} {x y : List MapEntry} (h : ER E x y) : x.isEmpty = y.isEmpty := by
  cases x <;> cases y <;> first | rfl | exact h.elim
theorem ER.filter {E : Env} (p : Nat → Bool) : ∀ {x y : List MapEntry}, ER E x y → ER E (x.filter fun e => p e.born) (y.filter fun e => p e.born)
  | [], [], _ => trivial
  | [], _ :: _, r => r.elim
  | _ :: _, [], r => r.elim
  | a :: x, b :: y, r => by
    rw [List.filter_cons, List.filter_cons, r.1.2.2]
    split
    · exact ⟨r.1, ER.filter p r.2⟩
    · exact ER.filter p r.2
theorem ER.at {E : Env} : ∀ {x y : List MapEntry}, ER E x y → ∀ {i : Nat} (hi : i < y.length), ∃ e, x[i]? = some e ∧ VR E e.key y[i].key ∧ VR E e.val y[i].val ∧ e.born = y[i].born
  | [], [], _, i, hi => by cases hi
  | [], _ :: _, r, _, _ => r.elim
  | _ :: _, [], r, _, _ => r.elim
  | a :: x, b :: y, r, 0, _ => ⟨a, rfl, r.1⟩
  | a :: x, b :: y, r, i + 1, hi => by
    obtain ⟨e, h1, h2⟩ := ER.at r.2 (i := i) (by simpa using hi)
    exact ⟨e, by simpa using h1, by simpa using h2⟩
theorem ER.all {E : Env} (p : Nat → Bool) : ∀ {x y : List MapEntry}, ER E x y → (x.all fun e => p e.born) = (y.all fun e => p e.born)
  | [], [], _ => rfl
  | [], _ :: _, r => r.elim
  | _ :: _, [], r => r.elim
  | a :: x, b :: y, r => by rw [List.all_cons, List.all_cons, r.1.2.2, ER.all p r.2]
/-- the next entry, where there is no choice. -/
theorem nextK_ok {x : Value} {h : Hp} {c : Value → Hp → An R} (hq : nextK x h c = .ok r) :
    ∃ v h', c v h' = .ok r ∧ h'.next = h.next ∧ ∀ G E w ty x', WR G E h.t w → VR E x x' → ∃ v' w', (Instr.next x' false ty).run P w = .ok v' w' ∧ WR G E h'.t w' ∧ VR E v v' := by
  unfold nextK at hq
  split at hq
  case h_2 => exact absurd hq no_ok
  rename_i k
  have over : ∀ E, VR E (.tuple ⟨[.bool false]⟩) (.tuple #[.bool false]) := fun E => .tuple (a := [.bool false]) (a' := [.bool false]) rfl (LR.cons (.flat rfl) (LR.nil E)).2
  split at hq
  · rename_i since seen st hk
    refine ⟨_, _, hq, rfl, fun G E w ty x' hw hx => ?_⟩
    obtain ⟨en, he, _, rfl⟩ := hx.inv_ptr
    obtain ⟨f, hf, hb, _⟩ := hw.blk k _ hk
    rw [he] at hf; cases hf
    obtain ⟨h0, mb, hbk, rfl⟩ := hb
    refine ⟨_, w, ?_, hw, over E⟩
    rw [h0]
    simp only [Instr.next, Nat.add_zero, Sem.run_bind, run_getO hbk, Result.andThen_ok, Sem.run_pure]
  · rename_i m since seen st hk
    split at hq
    case h_2 => exact absurd hq no_ok
    rename_i es clock hm
    split at hq
    case h_1 => exact absurd hq no_ok
    rename_i hall
    have conc : ∀ {G E w x'}, WR G E h.t w → VR E (.pointer (some ⟨k, 0, none⟩)) x' → ∃ en em es', E k = some en ∧ E m = some em ∧ en.o = 0 ∧ x' = .pointer (some ⟨en.b, 0, none⟩) ∧ w.heap[en.b]? = some (.mapIter (some em.b) since ⟨seen⟩ st) ∧ w.heap[em.b]? = some (.map ⟨es'⟩ clock) ∧ ER E es es' := by
      intro G E w x' hw hx
      obtain ⟨en, he, _, rfl⟩ := hx.inv_ptr
      obtain ⟨f, hf, hb, _⟩ := hw.blk k _ hk
      rw [he] at hf; cases hf
      obtain ⟨h0, mb, hbk, em, hem, rfl⟩ := hb
      obtain ⟨f, hf, hb2, _⟩ := hw.blk m _ hm
      rw [hem] at hf; cases hf
      obtain ⟨es', h1, h2⟩ := hb2
      exact ⟨en, em, es', he, hem, h0, by rw [h0], hbk, h1, h2⟩
    have guard : ∀ {E : Env} {es' : List MapEntry}, ER E es es' → (!(⟨seen⟩ : Array Nat).isEmpty && !(⟨es'⟩ : Array MapEntry).isEmpty && (⟨es'⟩ : Array MapEntry).all (fun e => decide (e.born ≥ st))) = false := by
      intro E es' her
      have h1 := her.all (fun b => decide (b ≥ st))
      have h2 : (es.all fun e => Nat.ble st e.born) = es.all fun e => decide (e.born ≥ st) := by
        congr 1; funext e
        rw [Bool.eq_iff_iff]
        simp [Nat.ble_eq]
      have e1 : (⟨seen⟩ : Array Nat).isEmpty = seen.isEmpty := by cases seen <;> rfl
      have e2 : (⟨es'⟩ : Array MapEntry).isEmpty = es.isEmpty := by rw [her.isEmpty]; cases es' <;> rfl
      have e3 : (⟨es'⟩ : Array MapEntry).all (fun e => decide (e.born ≥ st)) = es.all fun e => Nat.ble st e.born := by
        rw [h2, h1]; simp
      rw [e1, e2, e3]
      exact hall
    have olds : ∀ {E : Env} {es' : List MapEntry}, ER E es es' → ER E (es.filter (isOld since seen)) (es'.filter (isOld since seen)) ∧ ER E (es.filter (isNew since seen)) (es'.filter (isNew since seen)) := fun her =>
      ⟨her.filter (fun b => !seen.contains b && Nat.blt b since), her.filter (fun b => !seen.contains b && Nat.ble since b)⟩
    have lefts : ∀ es' : List MapEntry, ((⟨es'⟩ : Array MapEntry).filter (fun e => !(⟨seen⟩ : Array Nat).contains e.born)).filter (fun e => decide (e.born < since)) = ⟨es'.filter (isOld since seen)⟩ ∧
        ((⟨es'⟩ : Array MapEntry).filter (fun e => !(⟨seen⟩ : Array Nat).contains e.born)).filter (fun e => decide (e.born ≥ since)) = ⟨es'.filter (isNew since seen)⟩ := fun es' => by
      constructor
      · apply Array.ext'
        simp only [Array.toList_filter, List.filter_filter]
        congr 1; funext e
        rw [Bool.eq_iff_iff]
        simp [isOld, Nat.blt_eq, and_comm]
      · apply Array.ext'
        simp only [Array.toList_filter, List.filter_filter]
        congr 1; funext e
        rw [Bool.eq_iff_iff]
        simp [isNew, Nat.ble_eq, and_comm]
    split at hq
    · rename_i ho hn
      refine ⟨_, _, hq, rfl, fun G E w ty x' hw hx => ?_⟩
      obtain ⟨en, em, es', he, hem, h0, rfl, hbk, hbm, her⟩ := conc hw hx
      obtain ⟨g1, g2⟩ := olds her
      rw [ho] at g1
      rw [hn] at g2
      have g1 : es'.filter (isOld since seen) = [] := List.eq_nil_of_length_eq_zero g1.length.symm
      have g2 : es'.filter (isNew since seen) = [] := List.eq_nil_of_length_eq_zero g2.length.symm
      refine ⟨_, w, ?_, hw, over E⟩
      obtain ⟨l1, l2⟩ := lefts es'
      simp only [Instr.next, Sem.run_bind, run_getO hbk, run_getO hbm, Result.andThen_ok, guard her, Bool.false_eq_true, if_false, l1, l2, g1, g2]
      simp [choose, Sem.run, Question.forced]
    · rename_i e ho hn
      rw [fL_eq, T.putK_eq] at hq
      refine ⟨_, _, hq, rfl, fun G E w ty x' hw hx => ?_⟩
      obtain ⟨en, em, es', he, hem, h0, rfl, hbk, hbm, her⟩ := conc hw hx
      obtain ⟨g1, g2⟩ := olds her
      rw [ho] at g1
      rw [hn] at g2
      have g2 : es'.filter (isNew since seen) = [] := List.eq_nil_of_length_eq_zero g2.length.symm
      obtain ⟨e', g3⟩ : ∃ e', es'.filter (isOld since seen) = [e'] := by
        have := g1.length
        cases hx : es'.filter (isOld since seen) with
        | nil => rw [hx] at this; cases this
        | cons a l =>
          rw [hx] at this
          have : l = [] := List.eq_nil_of_length_eq_zero (by simpa using this.symm)
          subst this
          exact ⟨a, rfl⟩
      rw [g3] at g1
      obtain ⟨⟨a1, a2, a3⟩, _⟩ := g1
      obtain ⟨l1, l2⟩ := lefts es'
      refine ⟨_, _, ?_, map_put hw hk rfl he (.iter (some m) since (seen ++ [e.born]) clock) rfl (.mapIter (some em.b) since ⟨seen ++ [e'.born]⟩ clock) ⟨h0, _, by rw [a3], em, hem, rfl⟩,
        .tuple (a := [.bool true, e.key, e.val]) (a' := [.bool true, e'.key, e'.val]) rfl (LR.cons (.flat rfl) (.cons a1 (.cons a2 (LR.nil E)))).2⟩
      simp only [Instr.next, Sem.run_bind, run_getO hbk, run_getO hbm, Result.andThen_ok, guard her, Bool.false_eq_true, if_false, l1, l2, g3, g2]
      have hpush : (⟨seen⟩ : Array Nat).push e'.born = ⟨seen ++ [e'.born]⟩ := by apply Array.ext'; simp
      simp [choose, Sem.run, Question.forced, run_setO hbk, hpush]
    · exact absurd hq no_ok
  · exact absurd hq no_ok
/-- a sure test: only what is alike is alike. -/
noncomputable def JOK (J : R → R → Bool) : Prop := ∀ x y, J x y = true → x = y
theorem eachK_ok {J : R → R → Bool} (hJ : JOK J) {f : MapEntry → An R} : ∀ {l : List MapEntry} {a : MapEntry}, eachK J f a l = .ok r → ∀ e ∈ a :: l, f e = .ok r
  | [], a, h, e, he => by
    rcases List.mem_cons.1 he with rfl | he
    · exact h
    · cases he
  | b :: l, a, h, e, he => by
    unfold eachK at h
    split at h
    case h_2 => cases h
    rename_i x hx
    split at h
    case h_2 => cases h
    rename_i y hy
    split at h
    case h_2 => exact absurd h no_ok
    rename_i hj
    cases h
    have := hJ _ _ hj
    subst this
    rcases List.mem_cons.1 he with rfl | he
    · exact hx
    · exact eachK_ok hJ hy e he
/-- the next entry, whichever it is. -/
theorem nextsK_ok {J : R → R → Bool} (hJ : JOK J) {x : Value} {h : Hp} {c : Value → Hp → An R} (hq : nextsK J x h c = .ok r) :
    ∀ G E w ty x', WR G E h.t w → VR E x x' → ∃ v h' v' w', c v h' = .ok r ∧ h'.next = h.next ∧ (Instr.next x' false ty).run P w = .ok v' w' ∧ WR G E h'.t w' ∧ VR E v v' := by
  have via : nextK x h c = .ok r → ∀ G E w ty x', WR G E h.t w → VR E x x' → ∃ v h' v' w', c v h' = .ok r ∧ h'.next = h.next ∧ (Instr.next x' false ty).run P w = .ok v' w' ∧ WR G E h'.t w' ∧ VR E v v' := fun hq G E w ty x' hw hx => by
    obtain ⟨v, h', a1, a2, a3⟩ := nextK_ok (P := P) hq
    obtain ⟨v', w', b1, b2, b3⟩ := a3 G E w ty x' hw hx
    exact ⟨v, h', v', w', a1, a2, b1, b2, b3⟩
  unfold nextsK at hq
  split at hq
  case h_2 => exact absurd hq no_ok
  rename_i k
  split at hq
  case h_2 => exact via hq
  rename_i m since seen st hk
  split at hq
  case h_2 => exact via hq
  rename_i es clock hm
  split at hq
  case h_1 => exact absurd hq no_ok
  rename_i hall
  split at hq
  case h_2 => exact via hq
  rename_i a b l ho hn
  have conc : ∀ {G E w x'}, WR G E h.t w → VR E (.pointer (some ⟨k, 0, none⟩)) x' → ∃ en em es', E k = some en ∧ E m = some em ∧ en.o = 0 ∧ x' = .pointer (some ⟨en.b, 0, none⟩) ∧ w.heap[en.b]? = some (.mapIter (some em.b) since ⟨seen⟩ st) ∧ w.heap[em.b]? = some (.map ⟨es'⟩ clock) ∧ ER E es es' := by
    intro G E w x' hw hx
    obtain ⟨en, he, _, rfl⟩ := hx.inv_ptr
    obtain ⟨f, hf, hb, _⟩ := hw.blk k _ hk
    rw [he] at hf; cases hf
    obtain ⟨h0, mb, hbk, em, hem, rfl⟩ := hb
    obtain ⟨f, hf, hb2, _⟩ := hw.blk m _ hm
    rw [hem] at hf; cases hf
    obtain ⟨es', h1, h2⟩ := hb2
    exact ⟨en, em, es', he, hem, h0, by rw [h0], hbk, h1, h2⟩
  have guard : ∀ {E : Env} {es' : List MapEntry}, ER E es es' → (!(⟨seen⟩ : Array Nat).isEmpty && !(⟨es'⟩ : Array MapEntry).isEmpty && (⟨es'⟩ : Array MapEntry).all (fun e => decide (e.born ≥ st))) = false := by
    intro E es' her
    have h1 := her.all (fun b => decide (b ≥ st))
    have h2 : (es.all fun e => Nat.ble st e.born) = es.all fun e => decide (e.born ≥ st) := by
      congr 1; funext e
      rw [Bool.eq_iff_iff]
      simp [Nat.ble_eq]
    have e1 : (⟨seen⟩ : Array Nat).isEmpty = seen.isEmpty := by cases seen <;> rfl
    have e2 : (⟨es'⟩ : Array MapEntry).isEmpty = es.isEmpty := by rw [her.isEmpty]; cases es' <;> rfl
    have e3 : (⟨es'⟩ : Array MapEntry).all (fun e => decide (e.born ≥ st)) = es.all fun e => Nat.ble st e.born := by
      rw [h2, h1]; simp
    rw [e1, e2, e3]
    exact hall
  have olds : ∀ {E : Env} {es' : List MapEntry}, ER E es es' → ER E (es.filter (isOld since seen)) (es'.filter (isOld since seen)) ∧ ER E (es.filter (isNew since seen)) (es'.filter (isNew since seen)) := fun her =>
    ⟨her.filter (fun b => !seen.contains b && Nat.blt b since), her.filter (fun b => !seen.contains b && Nat.ble since b)⟩
  have lefts : ∀ es' : List MapEntry, ((⟨es'⟩ : Array MapEntry).filter (fun e => !(⟨seen⟩ : Array Nat).contains e.born)).filter (fun e => decide (e.born < since)) = ⟨es'.filter (isOld since seen)⟩ ∧
      ((⟨es'⟩ : Array MapEntry).filter (fun e => !(⟨seen⟩ : Array Nat).contains e.born)).filter (fun e => decide (e.born ≥ since)) = ⟨es'.filter (isNew since seen)⟩ := fun es' => by
    constructor
    · apply Array.ext'
      simp only [Array.toList_filter, List.filter_filter]
      congr 1; funext e
      rw [Bool.eq_iff_iff]
      simp [isOld, Nat.blt_eq, and_comm]
    · apply Array.ext'
      simp only [Array.toList_filter, List.filter_filter]
      congr 1; funext e
      rw [Bool.eq_iff_iff]
      simp [isNew, Nat.ble_eq, and_comm]
  intro G E w ty x' hw hx
  obtain ⟨en, em, es', he, hem, h0, rfl, hbk, hbm, her⟩ := conc hw hx
  obtain ⟨g1, g2⟩ := olds her
  rw [ho] at g1
  rw [hn] at g2
  have g2 : es'.filter (isNew since seen) = [] := List.eq_nil_of_length_eq_zero g2.length.symm
  obtain ⟨l1, l2⟩ := lefts es'
  generalize hfo : es'.filter (isOld since seen) = os at g1 l1
  have hlen : os.length = l.length + 2 := by have := g1.length; simp at this; omega
  have hnn : ¬ ((⟨os⟩ : Array MapEntry).isEmpty = true) := by intro hh; cases os with | nil => simp at hlen | cons _ _ => simp at hh
  -- which one
  let q : Question := .mapNext os.length
  let i := q.cut (w.tape w.drawn q)
  have hi : i < os.length := Nat.mod_lt _ (by omega)
  obtain ⟨e, h3, h4⟩ := g1.at hi
  have hf := eachK_ok hJ hq e (List.mem_of_getElem? h3)
  rw [fL_eq, T.putK_eq] at hf
  obtain ⟨a1, a2, a3⟩ := h4
  have hw2 : WR G E h.t { w with drawn := w.drawn + 1 } := hw.drawn _
  refine ⟨_, _, _, _, hf, rfl, ?_, map_put hw2 hk rfl he (.iter (some m) since (seen ++ [e.born]) clock) rfl (.mapIter (some em.b) since ⟨seen ++ [os[i].born]⟩ clock) ⟨h0, _, by rw [a3], em, hem, rfl⟩,
    .tuple (a := [.bool true, e.key, e.val]) (a' := [.bool true, os[i].key, os[i].val]) rfl (LR.cons (.flat rfl) (.cons a1 (.cons a2 (LR.nil E)))).2⟩
  simp only [Instr.next, Sem.run_bind, run_getO hbk, run_getO hbm, Result.andThen_ok, guard her, Bool.false_eq_true, if_false, l1, l2, g2]
  have hpush : (⟨seen⟩ : Array Nat).push os[i].born = ⟨seen ++ [os[i].born]⟩ := by apply Array.ext'; simp
  have hc : ((if (⟨os⟩ : Array MapEntry).isEmpty = true then #[none] else #[]) ++ Array.map some ((⟨os⟩ : Array MapEntry) ++ ⟨[]⟩)) = ⟨os.map some⟩ := by
    rw [if_neg hnn]; apply Array.ext'; simp
  have hsz : (⟨os.map some⟩ : Array (Option MapEntry)).size = os.length := by simp
  have hch : (choose (.mapNext os.length)).run P w = .ok i { w with drawn := w.drawn + 1 } := by
    simp only [choose, Sem.run]
    rw [if_neg (by simp [Question.forced]; omega)]
  have hbk2 : ({ w with drawn := w.drawn + 1 } : World).heap[en.b]? = some (.mapIter (some em.b) since ⟨seen⟩ st) := hbk
  rw [hc, hsz, hch]
  simp only [Result.andThen_ok]
  have hget : (⟨os.map some⟩ : Array (Option MapEntry))[i]? = some (some os[i]) := by simp [hi]
  rw [hget]
  simp only [hpush, Sem.run_bind, run_setO hbk2, Result.andThen_ok, Sem.run_pure]
/-- ranging over a map begins. -/
theorem iterK_ok (hB : TabOK P B) {t : TypeId} {x : Value} {h : Hp} {c : Value → Hp → An R} (hq : iterK B t x h c = .ok r) :
    ∃ v h', c v h' = .ok r ∧ ∀ G E w x', WR G E h.t w → Fresh G E h.next → VR E x x' → ∃ E' v' w', E.le E' ∧ Fresh G E' h'.next ∧ (Instr.range t x').run P w = .ok v' w' ∧ WR G E' h'.t w' ∧ VR E' v v' := by
  unfold iterK at hq
  obtain ⟨ds, hu, hq⟩ := und_ok hB hq
  split at hq
  case h_2 => exact absurd hq no_ok
  have fin : ∀ {G : Ctx} {E : Env} {w : World} {mb : Option Nat} {m : Option Nat} {since st : Nat} {s' : Sem Value}, WR G E h.t w → Fresh G E h.next → (match m with | none => mb = none | some k => ∃ em, E k = some em ∧ mb = some em.b) →
      s'.run P w = .ok (.pointer (some ⟨w.heap.size, 0, none⟩)) { w with heap := w.heap.push (.mapIter mb since #[] st) } →
      ∃ E' v' w', E.le E' ∧ Fresh G E' (h.next + 1) ∧ s'.run P w = .ok v' w' ∧ WR G E' (h.t.put h.next (some (.iter m since [] st))) w' ∧ VR E' (.pointer (some ⟨h.next, 0, none⟩)) v' := by
    intro G E w mb m since st s' hw hf hm hrun
    let en : Ent := ⟨w.heap.size, 0, 0, by decide⟩
    have hle := Env.le_set (e := en) hf.at
    refine ⟨E.set h.next en, _, _, hle, hf.next en, hrun, hw.new h.next hf.at _ rfl en _ rfl ⟨rfl, mb, rfl, ?_⟩, ?_⟩
    · cases m with
      | none => exact hm
      | some k => obtain ⟨em, h1, h2⟩ := hm; exact ⟨em, hle _ _ h1, h2⟩
    · exact VR.ptr (k := h.next) (o := 0) (Env.set_self _ _ _)
  split at hq
  · replace hq := newBlk_ok hq
    refine ⟨_, _, hq, fun G E w x' hw hf hx => ?_⟩
    obtain rfl := hx.inv_mapnil
    exact fin (mb := none) (m := none) hw hf rfl (by simp [Instr.range, run_underlying hu, newObj, Sem.run])
  · obtain ⟨k, es, clock, rfl, hk, hq⟩ := mapB_ok hq
    replace hq := newBlk_ok hq
    refine ⟨_, _, hq, fun G E w x' hw hf hx => ?_⟩
    obtain ⟨en, es', he, rfl, hbk, her⟩ := map_at hw hk hx
    exact fin (mb := some en.b) (m := some k) hw hf ⟨en, he, rfl⟩ (by simp [Instr.range, run_underlying hu, newObj, Sem.run, getObj, hbk])
theorem clearK_ok (hB : TabOK P B) {t : TypeId} {x : Value} {h : Hp} {c : Hp → An R} (hq : clearK B t x h c = .ok r) :
    ∃ h', c h' = .ok r ∧ h'.next = h.next ∧ ∀ G E w x' (ts : Array TypeId) ty, ts[0]? = some t → WR G E h.t w → VR E x x' → ∃ w', (Builtin.clear_ ts ty #[x']).run P w = .ok Go.undef w' ∧ WR G E h'.t w' := by
  unfold clearK at hq
  replace hq := und_ok hB hq
  obtain ⟨ds, hu, hq⟩ := hq
  split at hq
  case h_3 => exact absurd hq no_ok
  · split at hq
    · refine ⟨_, hq, rfl, fun G E w x' ts ty ht hw hx => ⟨w, ?_, hw⟩⟩
      obtain rfl := hx.inv_mapnil
      simp only [Builtin.clear_, ht, List.getElem?_toArray, List.getElem?_cons_zero, Sem.run_bind, run_underlying hu, Result.andThen_ok]
      rfl
    · obtain ⟨k, es, clock, rfl, hk, hq⟩ := mapB_ok hq
      rw [T.putK_eq] at hq
      refine ⟨_, hq, rfl, fun G E w x' ts ty ht hw hx => ?_⟩
      obtain ⟨en, es', he, rfl, hbk, her⟩ := map_at hw hk hx
      refine ⟨_, ?_, map_put hw hk rfl he (.map [] clock) rfl (.map ⟨[]⟩ clock) ⟨[], rfl, trivial⟩⟩
      simp only [Builtin.clear_, ht, List.getElem?_toArray, List.getElem?_cons_zero, Sem.run_bind, run_underlying hu, Result.andThen_ok, run_getO hbk, run_setO hbk]
      rfl
  rename_i elem
  split at hq
  · refine ⟨_, hq, rfl, fun G E w x' ts ty ht hw hx => ?_⟩
    obtain rfl := hx.inv_slnil
    exact ⟨w, by simp [Builtin.clear_, ht, run_underlying hu]; rfl, hw⟩
  · refine ⟨_, hq, rfl, fun G E w x' ts ty ht hw hx => ?_⟩
    obtain ⟨en, c', _, _, _, rfl⟩ := hx.inv_sl
    exact ⟨w, by simp [Builtin.clear_, ht, run_underlying hu]; rfl, hw⟩
  · rename_i k off n cap hnz
    replace hq := zeroOf_ok hB hq
    obtain ⟨i, z, hi, hz, hf, hq⟩ := hq
    obtain ⟨h', hq, hnx, hr⟩ := writeAt_ok (P := P) hq
    refine ⟨h', hq, hnx, fun G E w x' ts ty ht hw hx => ?_⟩
    obtain ⟨en, c', hen, _, _, rfl⟩ := hx.inv_sl
    have hzl : z.cells.toList = cellsOf z := by cases z <;> rfl
    have hzsz : z.cells.size = (cellsOf z).length := by rw [← hzl]; simp
    obtain ⟨r1, r2⟩ := repCells_get (cellsOf z) (cellsOf z).length rfl n []
    have hl : LR E (repCells (cellsOf z) n []) (Builtin.zeroCells z.cells n).toList := by
      have hsz : (Builtin.zeroCells z.cells n).size = n * (cellsOf z).length := by simp [Builtin.zeroCells, hzsz]
      refine ⟨by rw [r1]; simp [hsz], fun i v v' hv hv' => ?_⟩
      have hi : i < n * (cellsOf z).length := by have := (List.getElem?_eq_some_iff.1 hv).1; rw [r1] at this; simpa using this
      have hsp : 0 < (cellsOf z).length := by
        rcases Nat.eq_zero_or_pos (cellsOf z).length with h | h
        · rw [h] at hi; simp at hi
        · exact h
      have him : i % (cellsOf z).length < (cellsOf z).length := Nat.mod_lt _ hsp
      rw [r2 i hi] at hv
      have h1 : (Builtin.zeroCells z.cells n)[i]? = some (z.cells[i % (cellsOf z).length]'(by rw [hzsz]; exact him)) := by
        simp [Builtin.zeroCells, hi, hzsz, him]
      rw [Array.getElem?_toList, h1] at hv'
      have h2 : (cellsOf z)[i % (cellsOf z).length]? = some v' := by
        rw [← hzl]
        rw [← Option.some.inj hv']
        simp [hzsz, him]
      rw [h2] at hv; cases hv
      exact .flat (flat_cells hf _ (List.mem_of_getElem? h2))
    obtain ⟨w', h3, h4⟩ := hr G E w en _ hw hen hl
    refine ⟨w', ?_, h4⟩
    have hn0 : n ≠ 0 := hnz
    simp only [Builtin.clear_, ht, List.getElem?_toArray, List.getElem?_cons_zero, Sem.run_bind, run_underlying hu, Result.andThen_ok]
    cases n with
    | zero => exact absurd rfl hn0
    | succ n => simp only [Sem.run_bind, run_zro hi hz, Result.andThen_ok, h3]; rfl
  · exact absurd hq no_ok
theorem assertK_ok (hB : TabOK P B) {t : TypeId} {x : Value} {ok : Bool} {c : Value → An R} (hq : assertK B t x ok c = .ok r) :
    ∃ v, c v = .ok r ∧ ∀ E w xT x', VR E x x' → ∃ v', (Instr.typeAssert x' xT t ok).run P w = .ok v' w ∧ VR E v v' := by
  unfold assertK at hq
  replace hq := und_ok hB hq
  obtain ⟨d, hd, hq⟩ := hq
  have okr : ∀ {E : Env} {v v' : Value} {b : Bool}, VR E v v' → VR E (okV ok v b) (if ok then .tuple #[v', .bool b] else v') := fun {E v v' b} hv => by
    cases ok
    · exact hv
    · exact .tuple (a := [v, .bool b]) (a' := [v', .bool b]) rfl (LR.cons hv (.cons (.flat rfl) (LR.nil E))).2
  have tup : ∀ {E : Env} {z : Value} {b : Bool}, isFlat z = true → VR E (okV true z b) (.tuple #[z, .bool b]) := fun {E z b} hf =>
    .tuple (a := [z, .bool b]) (a' := [z, .bool b]) rfl (LR.cons (.flat hf) (.cons (.flat rfl) (LR.nil E))).2
  split at hq
  · exact absurd hq no_ok
  rename_i hni
  split at hq
  · rename_i u v
    split at hq
    · rename_i hut
      have hut := Nat.eq_of_beq_eq_true hut
      subst hut
      refine ⟨_, hq, fun E w xT x' hx => ?_⟩
      obtain ⟨v', hv, rfl⟩ := hx.inv_iface
      refine ⟨_, ?_, okr hv⟩
      simp only [Instr.typeAssert, Sem.run_bind, run_underlying hd, Result.andThen_ok]
      cases d <;> first | exact absurd rfl (hni _) | (simp only [if_true]; cases ok <;> rfl)
    · rename_i hut
      have hut : ¬ u = t := fun e => by rw [e, Nat.beq_refl] at hut; cases hut
      split at hq
      case h_2 => exact absurd hq no_ok
      obtain ⟨i, z, hi, hz, hf, hq⟩ := zeroOf_ok hB hq
      refine ⟨_, hq, fun E w xT x' hx => ?_⟩
      obtain ⟨v', hv, rfl⟩ := hx.inv_iface
      refine ⟨_, ?_, tup hf⟩
      simp only [Instr.typeAssert, Sem.run_bind, run_underlying hd, Result.andThen_ok]
      cases d <;> first | exact absurd rfl (hni _) | simp only [hut, if_false, if_true, Sem.run_bind, run_zro hi hz, Result.andThen_ok, Sem.run_pure]
  · split at hq
    case h_2 => exact absurd hq no_ok
    obtain ⟨i, z, hi, hz, hf, hq⟩ := zeroOf_ok hB hq
    refine ⟨_, hq, fun E w xT x' hx => ?_⟩
    obtain rfl := hx.inv_nilIface
    refine ⟨_, ?_, tup hf⟩
    simp only [Instr.typeAssert, Sem.run_bind, run_underlying hd, Result.andThen_ok]
    cases d <;> first | exact absurd rfl (hni _) | simp only [if_true, Sem.run_bind, run_zro hi hz, Result.andThen_ok, Sem.run_pure]
  · exact absurd hq no_ok
theorem bornAt_find {E : Env} {s : Nat} : ∀ {es es' : List MapEntry} {i j : Nat} {e : MapEntry}, bornAt s es i = some (j, e) → ER E es es' → ∃ e', es'.find? (fun e => e.born == s) = some e' ∧ VR E e.key e'.key ∧ VR E e.val e'.val
  | [], _, _, _, _, h, _ => by cases h
  | _ :: _, [], _, _, _, _, r => r.elim
  | a :: es, b :: es', i, j, e, h, r => by
    unfold bornAt at h
    split at h
    · rename_i hb
      have hb := Nat.eq_of_beq_eq_true hb
      cases h
      have : b.born = s := by rw [← r.1.2.2]; exact hb
      exact ⟨b, by rw [List.find?_cons]; simp [this], r.1.1, r.1.2.1⟩
    · rename_i hb
      have hb : a.born ≠ s := fun x => by rw [x, Nat.beq_refl] at hb; cases hb
      obtain ⟨e', h1, h2, h3⟩ := bornAt_find h r.2
      have hbn : b.born ≠ s := by rw [← r.1.2.2]; exact hb
      have hbn : (b.born == s) = false := by simpa using hbn
      exact ⟨e', by rw [List.find?_cons, hbn]; exact h1, h2, h3⟩
theorem entryK_ok {x : Value} {h : Hp} {c : Value → An R} (hq : entryK x h c = .ok r) :
    ∃ v, c v = .ok r ∧ ∀ G E w x', WR G E h.t w → VR E x x' → ∃ v', (Instr.entry x').run P w = .ok v' w ∧ VR E v v' := by
  unfold entryK at hq
  split at hq
  case h_2 => exact absurd hq no_ok
  rename_i k
  split at hq
  case h_2 => exact absurd hq no_ok
  rename_i m since seen st hk
  split at hq
  case h_2 => exact absurd hq no_ok
  rename_i es clock hm
  split at hq
  case h_2 => exact absurd hq no_ok
  rename_i s hst hse
  split at hq
  case h_2 => exact absurd hq no_ok
  rename_i j e hbo
  have hst := Nat.eq_of_beq_eq_true hst
  subst hst
  refine ⟨_, hq, fun G E w x' hw hx => ?_⟩
  obtain ⟨en, he, _, rfl⟩ := hx.inv_ptr
  obtain ⟨f, hf, hb, _⟩ := hw.blk k _ hk
  rw [he] at hf; cases hf
  obtain ⟨h0, mb, hbk, em, hem, rfl⟩ := hb
  obtain ⟨f, hf, hb2, _⟩ := hw.blk m _ hm
  rw [hem] at hf; cases hf
  obtain ⟨es', hbm, her⟩ := hb2
  obtain ⟨e', h1, h2, h3⟩ := bornAt_find hbo her
  refine ⟨.tuple #[e'.key, e'.val], ?_, .tuple (a := [e.key, e.val]) (a' := [e'.key, e'.val]) rfl (LR.cons h2 (.cons h3 (LR.nil E))).2⟩
  rw [h0]
  have hb : (⟨seen⟩ : Array Nat).back? = some s := by simpa using hse
  have hf : (⟨es'⟩ : Array MapEntry).find? (fun e => e.born == s) = some e' := by simpa using h1
  simp only [Instr.entry, Nat.add_zero, Sem.run_bind, run_getO hbk, run_getO hbm, Result.andThen_ok, hb, bne_self_eq_false, Bool.false_eq_true, if_false, hf, Sem.run_pure]
/-- maps.clone. -/
theorem cloneK_ok (hB : TabOK P B) {f : FuncId} {l : List Value} {h : Hp} {c : Value → Hp → An R} (hext : B.ext.contains f = true) (hq : cloneK l h c = .ok r) :
    ∃ v h', c v h' = .ok r ∧ ∀ G E w l', WR G E h.t w → Fresh G E h.next → LR E l l' → ∃ E' v' w', E.le E' ∧ Fresh G E' h'.next ∧ (callFunc f ⟨l'⟩).run P w = .ok (.value v') w' ∧ WR G E' h'.t w' ∧ VR E' v v' := by
  unfold cloneK at hq
  split at hq
  case h_2 => exact absurd hq no_ok
  rename_i t k
  split at hq
  case h_2 => exact absurd hq no_ok
  rename_i es clock hk
  replace hq := newBlk_ok hq
  refine ⟨_, _, hq, fun G E w l' hw hf hl => ?_⟩
  obtain ⟨x', l2, rfl, hx, hl2⟩ := hl.uncons
  rw [hl2.unnil]
  obtain ⟨m', hm, rfl⟩ := hx.inv_iface
  obtain ⟨en, es', he, rfl, hbk, her⟩ := map_at hw hk hm
  let e2 : Ent := ⟨w.heap.size, 0, 0, by decide⟩
  have hle := Env.le_set (e := e2) hf.at
  refine ⟨E.set h.next e2, _, _, hle, hf.next e2, hB.ext f hext t en.b ⟨es'⟩ clock w hbk, hw.new h.next hf.at (.map es clock) rfl e2 (.map ⟨es'⟩ clock) rfl ⟨es', rfl, her.mono hle⟩, ?_⟩
  exact .iface (VR.map (Env.set_self _ _ _))
end
end Go.Ev
