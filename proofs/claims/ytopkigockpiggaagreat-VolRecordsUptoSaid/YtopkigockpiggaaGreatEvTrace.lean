/-
  A region that draws its order: the two passes, at the operation's grain.
-/
import Derived.Test.YtopkigockpiggaaGreatEvPlan
set_option linter.unusedVariables false
set_option linter.unusedSimpArgs false
namespace Go.Ev
section
variable {R : Type} {P : Program} {B : Tab} {r : R}
noncomputable def PutR (tm : T Value) (d : Option Tmp) (ntm : Nat) (v : Value) (tm' : T Value) : Prop :=
  tm' = (match d with | none => tm | some d => tm.put d (some v)) ∧ ∀ e, d = some e → e < ntm
theorem putTm_R {tm : T Value} {d : Option Tmp} {ntm : Nat} {v : Value} {c : T Value → An R} (hq : putTm tm d ntm v c = .ok r) : ∃ tm', c tm' = .ok r ∧ PutR tm d ntm v tm' := by
  rw [putTm_eq] at hq
  unfold putTm' at hq
  split at hq
  · exact ⟨_, hq, rfl, fun e he => by cases he⟩
  · rename_i d
    split at hq
    case h_2 => exact absurd hq no_ok
    rename_i hd
    rw [T.putK_eq] at hq
    exact ⟨_, hq, rfl, fun e he => by cases he; exact Nat.le_of_ble_eq_true hd⟩
/-- what the first pass finds of an operation. -/
inductive StepP (P : Program) (B : Tab) (call1 : CallK (Value × Hp)) (all : List Oper) (ms : T Nat) (ntm base i : Nat) (o : Oper) :
    (tm tm' : T Value) → (h h' : Hp) → (cm cm' : Nat) → (la la' : Option Nat) → (al al' : List Al) → Value → Row → Prop
  | off {tm tm' h cm la al} (hw : WantIs all o tm false) (hp : PutR tm o.dst ntm undef tm') : StepP P B call1 all ms ntm base i o tm tm' h h cm cm la la al al undef .off
  | pure {tm tm' h cm la al v} (hw : WantIs all o tm true) (hp : PutR tm o.dst ntm v tm') (hv : Pure P o tm v) (hk : PureOp P o.op) : StepP P B call1 all ms ntm base i o tm tm' h h cm cm la la al al v .pure
  | read {tm tm' h cm la al v} (hw : WantIs all o tm true) (hp : PutR tm o.dst ntm v tm') (hv : ReadOp P o.op) (hqu : Quiet P o tm (addT (maskOf ms i) cm al h.t) v) : StepP P B call1 all ms ntm base i o tm tm' h h cm cm la la al al v (.read tm v)
  | alloc {tm tm' h cm la al v b} (hw : WantIs all o tm true) (hp : PutR tm o.dst ntm v tm') (hv : Laid P o tm (base + i) v b) (hm : mayAlloc o = true) :
      StepP P B call1 all ms ntm base i o tm tm' h h cm cm la la al ((i, base + i, b) :: al) v (.alloc (base + i) b)
  | loud {tm tm' h h2 cm la al v} (hw : WantIs all o tm true) (hp : PutR tm o.dst ntm v tm') (hx : execK B never call1 tm ⟨addT (maskOf ms i) cm al h.t, h.next⟩ o.op o.type (fun v h2 => .ok (v, h2)) = .ok (v, h2))
      (hl : ∀ e, la = some e → (maskOf ms i).testBit e = true) (hn : h.next ≤ h2.next) : StepP P B call1 all ms ntm base i o tm tm' h h2 cm (maskOf ms i) la (some i) al al v (.loud h2)
structure Tr where
  tm : Nat → T Value
  h : Nat → Hp
  cm : Nat → Nat
  la : Nat → Option Nat
  al : Nat → List Al
  v : Nat → Value
  rw : Nat → Row
noncomputable def Tr.Step (T : Tr) (P : Program) (B : Tab) (call1 : CallK (Value × Hp)) (all : List Oper) (ms : Ev.T Nat) (ntm base i : Nat) (o : Oper) : Prop :=
  StepP P B call1 all ms ntm base i o (T.tm i) (T.tm (i + 1)) (T.h i) (T.h (i + 1)) (T.cm i) (T.cm (i + 1)) (T.la i) (T.la (i + 1)) (T.al i) (T.al (i + 1)) (T.v i) (T.rw i)
noncomputable def Tr.cons (T : Tr) (i : Nat) (tm : Ev.T Value) (h : Hp) (cm : Nat) (la : Option Nat) (al : List Al) (v : Value) (rw : Row) : Tr where
  tm j := if j = i then tm else T.tm j
  h j := if j = i then h else T.h j
  cm j := if j = i then cm else T.cm j
  la j := if j = i then la else T.la j
  al j := if j = i then al else T.al j
  v j := if j = i then v else T.v j
  rw j := if j = i then rw else T.rw j
/-- what the first pass leaves. -/
noncomputable def Traced (T : Tr) (P : Program) (B : Tab) (call1 : CallK (Value × Hp)) (all : List Oper) (ms : Ev.T Nat) (ntm base : Nat) (rest : List Oper) (i : Nat) (tm : Ev.T Value) (h : Hp) (cm : Nat) (la : Option Nat) (al : List Al)
    (c : List Row → Ev.T Value → Hp → Nat → List Al → An R) (r : R) : Prop :=
  T.tm i = tm ∧ T.h i = h ∧ T.cm i = cm ∧ T.la i = la ∧ T.al i = al ∧ (∀ k o, rest[k]? = some o → T.Step P B call1 all ms ntm base (i + k) o) ∧
  ∃ rows, c rows (T.tm (i + rest.length)) (T.h (i + rest.length)) (T.cm (i + rest.length)) (T.al (i + rest.length)) = .ok r ∧ rows.length = rest.length ∧ ∀ k, k < rest.length → rows[k]? = some (T.rw (i + k))
theorem Traced.cons {T : Tr} {call1 : CallK (Value × Hp)} {all : List Oper} {ms : Ev.T Nat} {ntm base : Nat} {rest : List Oper} {i : Nat} {tm tm' : Ev.T Value} {h h' : Hp} {cm cm' : Nat} {la la' : Option Nat} {al al' : List Al}
    {c : List Row → Ev.T Value → Hp → Nat → List Al → An R} {o : Oper} {v : Value} {row : Row} (hT : Traced T P B call1 all ms ntm base rest (i + 1) tm' h' cm' la' al' (fun rows => c (row :: rows)) r)
    (hs : StepP P B call1 all ms ntm base i o tm tm' h h' cm cm' la la' al al' v row) : Traced (T.cons i tm h cm la al v row) P B call1 all ms ntm base (o :: rest) i tm h cm la al c r := by
  obtain ⟨h1, h2, h3, h4, h5, h6, rows, h7, h8, h9⟩ := hT
  have ne : ∀ k, i + 1 + k ≠ i := fun k => by omega
  refine ⟨by simp [Tr.cons], by simp [Tr.cons], by simp [Tr.cons], by simp [Tr.cons], by simp [Tr.cons], fun k p hk => ?_, row :: rows, ?_, by simp [h8], fun k hk => ?_⟩
  · cases k with
    | zero =>
      simp only [List.getElem?_cons_zero, Option.some.injEq] at hk
      subst hk
      unfold Tr.Step
      simp only [Tr.cons, Nat.add_zero, if_true, show i + 1 ≠ i by omega, if_false, h1, h2, h3, h4, h5]
      exact hs
    | succ k =>
      have := h6 k p (by simpa using hk)
      unfold Tr.Step at this ⊢
      rw [show i + (k + 1) = i + 1 + k by omega]
      simp only [Tr.cons, ne k, show i + 1 + k + 1 ≠ i by omega, if_false]
      exact this
  · rw [show i + (o :: rest).length = i + 1 + rest.length by simp; omega]
    simp only [Tr.cons, ne rest.length, if_false]
    exact h7
  · cases k with
    | zero => simp [Tr.cons]
    | succ k =>
      rw [show i + (k + 1) = i + 1 + k by omega]
      simp only [Tr.cons, ne k, if_false, List.getElem?_cons_succ]
      exact h9 k (by simpa using hk)
theorem rowsK_ok (hB : TabOK P B) {call : CallK R} {call1 : CallK (Value × Hp)} {all : List Oper} {ms : T Nat} {ntm base : Nat} : ∀ (rest : List Oper) (i : Nat) (tm : T Value) (h : Hp) (cm : Nat) (la : Option Nat) (al : List Al) (c : List Row → T Value → Hp → Nat → List Al → An R),
    rowsK B call call1 all ms ntm base rest i tm h cm la al c = .ok r → ∃ T, Traced T P B call1 all ms ntm base rest i tm h cm la al c r
  | [], i, tm, h, cm, la, al, c, hq => by
    unfold rowsK at hq
    refine ⟨⟨fun _ => tm, fun _ => h, fun _ => cm, fun _ => la, fun _ => al, fun _ => undef, fun _ => .off⟩, rfl, rfl, rfl, rfl, rfl, fun k o hk => by simp at hk, [], hq, rfl, fun k hk => by simp at hk⟩
  | o :: rest, i, tm, h, cm, la, al, c, hq => by
    unfold rowsK at hq
    obtain ⟨b, hq, hw⟩ := want_ok hq
    cases b with
    | false =>
      simp only at hq
      obtain ⟨tm', hq, hp⟩ := putTm_R hq
      obtain ⟨T, hT⟩ := rowsK_ok hB rest _ _ _ _ _ _ _ hq
      exact ⟨_, hT.cons (.off hw hp)⟩
    | true =>
      simp only at hq
      obtain ⟨k, hq, hk1, hk2, hk3⟩ := cls_ok hB hq
      cases k with
      | pure =>
        simp only at hq
        obtain ⟨v, hq, hv⟩ := pure_ok hB (hk1 rfl) hq
        obtain ⟨tm', hq, hp⟩ := putTm_R hq
        obtain ⟨T, hT⟩ := rowsK_ok hB rest _ _ _ _ _ _ _ hq
        exact ⟨_, hT.cons (.pure hw hp hv (hk1 rfl))⟩
      | read =>
        simp only at hq
        rw [addK_eq] at hq
        obtain ⟨v, hq, hv⟩ := read_ok hB (hk2 rfl) hq
        obtain ⟨tm', hq, hp⟩ := putTm_R hq
        obtain ⟨T, hT⟩ := rowsK_ok hB rest _ _ _ _ _ _ _ hq
        exact ⟨_, hT.cons (.read hw hp (hk2 rfl) hv)⟩
      | alloc =>
        simp only at hq
        rw [fN_eq] at hq
        obtain ⟨v, blk, hq, hv⟩ := alloc_ok hB (hk3 rfl).1 hq
        simp only [T.find_put, if_true] at hq
        obtain ⟨tm', hq, hp⟩ := putTm_R hq
        obtain ⟨T, hT⟩ := rowsK_ok hB rest _ _ _ _ _ _ _ hq
        exact ⟨_, hT.cons (.alloc hw hp hv (hk3 rfl).2)⟩
      | loud =>
        simp only at hq
        have split2 : ∀ {b : Bool} {x : An R}, (match b with | true => x | false => no 123) = .ok r → b = true ∧ x = .ok r := fun {b x} h => by cases b; exact absurd h no_ok; exact ⟨rfl, h⟩
        obtain ⟨hl, hq⟩ := split2 hq
        rw [addK_eq] at hq
        split at hq
        case h_2 => exact absurd hq err_ok
        rename_i v h2 hx
        split at hq
        case h_2 => exact absurd hq no_ok
        rename_i hn
        obtain ⟨tm', hq, hp⟩ := putTm_R hq
        obtain ⟨T, hT⟩ := rowsK_ok hB rest _ _ _ _ _ _ _ hq
        refine ⟨_, hT.cons (.loud hw hp hx (fun e he => ?_) (Nat.le_of_ble_eq_true hn))⟩
        subst he
        exact hl
/-! the second pass -/
theorem againK_ok (hB : TabOK P B) {call : CallK R} {m cm : Nat} {tm : T Value} {o : Oper} {v : Value} {als : List Al} {h : Hp} {c : An R} (hk : ReadOp P o.op) (hq : againK B call m cm tm o v als h c = .ok r) :
    c = .ok r ∧ Quiet P o tm (addT m cm als h.t) v := by
  unfold againK at hq
  rw [addK_eq] at hq
  obtain ⟨v', hq, hv⟩ := read_ok hB hk hq
  split at hq
  case h_2 => exact absurd hq no_ok
  rename_i he
  rw [eqV_eq he]
  exact ⟨hq, hv⟩
theorem stagesK_ok (hB : TabOK P B) {call : CallK R} {ms : T Nat} {i bits : Nat} {tm : T Value} {o : Oper} {v : Value} {als : List Al} (hk : ReadOp P o.op) : ∀ {louds : List (Nat × Hp)} {c : An R}, stagesK B call ms i bits tm o v als louds c = .ok r →
    c = .ok r ∧ ∀ e h, (e, h) ∈ louds → (maskOf ms e).testBit i = false → bits < 2 ^ (e + 1) → Quiet P o tm (addT (maskOf ms i) (maskOf ms e) als h.t) v
  | [], c, hq => ⟨hq, fun e h he => by simp at he⟩
  | (e, h) :: louds, c, hq => by
    unfold stagesK at hq
    have hsh : Nat.shiftLeft 1 (Nat.succ e) = 2 ^ (e + 1) := Nat.one_shiftLeft (e + 1)
    split at hq
    · obtain ⟨hq, h1⟩ := againK_ok hB hk hq
      obtain ⟨hq, h2⟩ := stagesK_ok hB hk hq
      refine ⟨hq, fun e' h' he hb hl => ?_⟩
      rcases List.mem_cons.1 he with he | he
      · cases he; exact h1
      · exact h2 e' h' he hb hl
    · rename_i hno
      obtain ⟨hq, h2⟩ := stagesK_ok hB hk hq
      refine ⟨hq, fun e' h' he hb hl => ?_⟩
      rcases List.mem_cons.1 he with he | he
      · cases he
        exact (hno hb (by rw [hsh]; exact Nat.ble_eq_true_of_le hl)).elim
      · exact h2 e' h' he hb hl
theorem readsK_ok (hB : TabOK P B) {call : CallK R} {ms : T Nat} {h0 : Hp} {louds : List (Nat × Hp)} {lm : Nat} {als : List Al} : ∀ {rows : List Row} {ops : List Oper} {i : Nat} {c : An R}, rows.length = ops.length →
    (∀ (k : Nat) (o : Oper) tm v, ops[k]? = some o → rows[k]? = some (.read tm v) → ReadOp P o.op) → readsK B call ms h0 louds lm als rows ops i c = .ok r →
    c = .ok r ∧ ∀ (k : Nat) (o : Oper) tm v, ops[k]? = some o → rows[k]? = some (.read tm v) →
      (Nat.land (maskOf ms (i + k)) lm = 0 → Quiet P o tm (addT (maskOf ms (i + k)) 0 als h0.t) v) ∧
      ∀ e h, (e, h) ∈ louds → (maskOf ms e).testBit (i + k) = false → Nat.land (maskOf ms (i + k)) lm < 2 ^ (e + 1) → Quiet P o tm (addT (maskOf ms (i + k)) (maskOf ms e) als h.t) v
  | [], [], i, c, _, _, hq => ⟨by unfold readsK at hq; exact hq, fun k o tm v hk => by simp at hk⟩
  | [], _ :: _, i, c, hl, _, hq => by simp at hl
  | _ :: _, [], i, c, hl, _, hq => by simp at hl
  | row :: rows, o :: ops, i, c, hl, hrd, hq => by
    have hl' : rows.length = ops.length := by simpa using hl
    have hrd' : ∀ (k : Nat) (o : Oper) tm v, ops[k]? = some o → rows[k]? = some (.read tm v) → ReadOp P o.op := fun k p tm v h1 h2 => hrd (k + 1) p tm v (by simpa using h1) (by simpa using h2)
    have other : (∀ tm v, row ≠ .read tm v) → readsK B call ms h0 louds lm als rows ops (Nat.succ i) c = .ok r → c = .ok r ∧ ∀ (k : Nat) (p : Oper) tm v, (o :: ops)[k]? = some p → (row :: rows)[k]? = some (.read tm v) →
      (Nat.land (maskOf ms (i + k)) lm = 0 → Quiet P p tm (addT (maskOf ms (i + k)) 0 als h0.t) v) ∧
      ∀ e h, (e, h) ∈ louds → (maskOf ms e).testBit (i + k) = false → Nat.land (maskOf ms (i + k)) lm < 2 ^ (e + 1) → Quiet P p tm (addT (maskOf ms (i + k)) (maskOf ms e) als h.t) v := fun hne hq => by
      obtain ⟨hq, h1⟩ := readsK_ok hB hl' hrd' hq
      refine ⟨hq, fun k p tm v hk hr => ?_⟩
      cases k with
      | zero => simp only [List.getElem?_cons_zero, Option.some.injEq] at hr; exact absurd hr (hne tm v)
      | succ k =>
        have := h1 k p tm v (by simpa using hk) (by simpa using hr)
        rwa [show Nat.succ i + k = i + (k + 1) by omega] at this
    cases row with
    | off => exact other (fun _ _ h => by cases h) hq
    | pure => exact other (fun _ _ h => by cases h) hq
    | alloc k b => exact other (fun _ _ h => by cases h) hq
    | loud h => exact other (fun _ _ h => by cases h) hq
    | read tm v =>
      have hk := hrd 0 o tm v rfl rfl
      unfold readsK at hq
      rw [fN_eq] at hq
      have fin : ∀ {hz : Nat.land (maskOf ms i) lm = 0 → Quiet P o tm (addT (maskOf ms i) 0 als h0.t) v}, stagesK B call ms i (Nat.land (maskOf ms i) lm) tm o v als louds (readsK B call ms h0 louds lm als rows ops (Nat.succ i) c) = .ok r →
        c = .ok r ∧ ∀ (k : Nat) (p : Oper) tm' v', (o :: ops)[k]? = some p → (Row.read tm v :: rows)[k]? = some (.read tm' v') →
      (Nat.land (maskOf ms (i + k)) lm = 0 → Quiet P p tm' (addT (maskOf ms (i + k)) 0 als h0.t) v') ∧
      ∀ e h, (e, h) ∈ louds → (maskOf ms e).testBit (i + k) = false → Nat.land (maskOf ms (i + k)) lm < 2 ^ (e + 1) → Quiet P p tm' (addT (maskOf ms (i + k)) (maskOf ms e) als h.t) v' := fun {hz} hq => by
        obtain ⟨hq, h2⟩ := stagesK_ok hB hk hq
        obtain ⟨hq, h1⟩ := readsK_ok hB hl' hrd' hq
        refine ⟨hq, fun k p tm' v' hk' hr => ?_⟩
        cases k with
        | zero =>
          simp only [List.getElem?_cons_zero, Option.some.injEq] at hr hk'
          cases hr; subst hk'
          exact ⟨hz, h2⟩
        | succ k =>
          have := h1 k p tm' v' (by simpa using hk') (by simpa using hr)
          rwa [show Nat.succ i + k = i + (k + 1) by omega] at this
      split at hq
      · obtain ⟨hq, h1⟩ := againK_ok hB hk hq
        exact fin (hz := fun _ => h1) hq
      · rename_i hz
        refine fin (hz := fun h => ?_) hq
        rw [h] at hz; cases hz
theorem loudsOf_mem : ∀ {rows : List Row} {i : Nat} {e : Nat} {h : Hp}, (e, h) ∈ loudsOf rows i ↔ ∃ k, e = i + k ∧ rows[k]? = some (.loud h)
  | [], i, e, h => by simp [loudsOf]
  | row :: rows, i, e, h => by
    have key : (∀ h', row ≠ .loud h') → ((e, h) ∈ loudsOf rows (Nat.succ i) ↔ ∃ k, e = i + k ∧ (row :: rows)[k]? = some (.loud h)) := fun hne => by
      rw [loudsOf_mem]
      constructor
      · rintro ⟨k, rfl, hk⟩; exact ⟨k + 1, by omega, by simpa using hk⟩
      · rintro ⟨k, rfl, hk⟩
        cases k with
        | zero => simp only [List.getElem?_cons_zero, Option.some.injEq] at hk; exact absurd hk (hne h)
        | succ k => exact ⟨k, by omega, by simpa using hk⟩
    cases row with
    | loud h' =>
      unfold loudsOf
      rw [List.mem_cons, loudsOf_mem]
      constructor
      · rintro (hh | ⟨k, rfl, hk⟩)
        · cases hh; exact ⟨0, rfl, rfl⟩
        · exact ⟨k + 1, by omega, by simpa using hk⟩
      · rintro ⟨k, rfl, hk⟩
        cases k with
        | zero => simp only [List.getElem?_cons_zero, Option.some.injEq, Row.loud.injEq] at hk; exact Or.inl (by rw [hk]; rfl)
        | succ k => exact Or.inr ⟨k, by omega, by simpa using hk⟩
    | off => exact key (fun _ h => by cases h)
    | pure => exact key (fun _ h => by cases h)
    | alloc k b => exact key (fun _ h => by cases h)
    | read tm v => exact key (fun _ h => by cases h)
theorem loudMask_bit : ∀ {l : List (Nat × Hp)} {j : Nat}, (loudMask l).testBit j = true ↔ ∃ h, (j, h) ∈ l
  | [], j => by simp [loudMask]
  | (e, h) :: l, j => by
    unfold loudMask
    rw [testBit_lor, testBit_one, Bool.or_eq_true, decide_eq_true_eq, loudMask_bit]
    constructor
    · rintro (rfl | ⟨h', hh⟩)
      · exact ⟨h, List.mem_cons_self⟩
      · exact ⟨h', List.mem_cons_of_mem _ hh⟩
    · rintro ⟨h', hh⟩
      rcases List.mem_cons.1 hh with hh | hh
      · cases hh; exact Or.inl rfl
      · exact Or.inr ⟨h', hh⟩
end
end Go.Ev
