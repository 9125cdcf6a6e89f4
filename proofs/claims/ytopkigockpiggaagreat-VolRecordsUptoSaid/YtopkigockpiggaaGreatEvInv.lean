/-
  A region that draws its order: what holds wherever it stands.
-/
import Derived.Test.YtopkigockpiggaaGreatEvTrace
set_option linter.unusedVariables false
set_option linter.unusedSimpArgs false
namespace Go.Ev
section
variable {P : Program} {B : Tab} {call1 : CallK (Value × Hp)} {all : List Oper} {ms : T Nat} {ntm base : Nat}
abbrev StepInv (P : Program) (B : Tab) (call1 : CallK (Value × Hp)) (all : List Oper) (ms : T Nat) (ntm base i : Nat) (o : Oper) (tm tm' : T Value) (h h' : Hp) (cm cm' : Nat) (la la' : Option Nat) (al al' : List Al) (v : Value) (rw : Row) : Prop :=
  PutR tm o.dst ntm v tm' ∧ (match rw with
      | .off => WantIs all o tm false ∧ v = undef ∧ h' = h ∧ cm' = cm ∧ la' = la ∧ al' = al
      | .pure => WantIs all o tm true ∧ Pure P o tm v ∧ h' = h ∧ cm' = cm ∧ la' = la ∧ al' = al ∧ PureOp P o.op
      | .read tm0 v0 => WantIs all o tm true ∧ tm0 = tm ∧ v0 = v ∧ ReadOp P o.op ∧ h' = h ∧ cm' = cm ∧ la' = la ∧ al' = al ∧ Quiet P o tm (addT (maskOf ms i) cm al h.t) v
      | .alloc k b => WantIs all o tm true ∧ k = base + i ∧ Laid P o tm (base + i) v b ∧ mayAlloc o = true ∧ h' = h ∧ cm' = cm ∧ la' = la ∧ al' = (i, k, b) :: al
      | .loud h2 => WantIs all o tm true ∧ execK B never call1 tm ⟨addT (maskOf ms i) cm al h.t, h.next⟩ o.op o.type (fun v h2 => .ok (v, h2)) = .ok (v, h2) ∧ (∀ e, la = some e → (maskOf ms i).testBit e = true) ∧ h.next ≤ h2.next ∧
          h' = h2 ∧ cm' = maskOf ms i ∧ la' = some i ∧ al' = al)
theorem StepP.inv {i : Nat} {o : Oper} {tm tm' : T Value} {h h' : Hp} {cm cm' : Nat} {la la' : Option Nat} {al al' : List Al} {v : Value} {rw : Row}
    (s : StepP P B call1 all ms ntm base i o tm tm' h h' cm cm' la la' al al' v rw) : StepInv P B call1 all ms ntm base i o tm tm' h h' cm cm' la la' al al' v rw := by
  cases s with
  | off hw hp => exact ⟨hp, hw, rfl, rfl, rfl, rfl, rfl⟩
  | pure hw hp hv hk => exact ⟨hp, hw, hv, rfl, rfl, rfl, rfl, hk⟩
  | read hw hp hv hqu => exact ⟨hp, hw, rfl, rfl, hv, rfl, rfl, rfl, rfl, hqu⟩
  | alloc hw hp hv hm => exact ⟨hp, hw, rfl, hv, hm, rfl, rfl, rfl, rfl⟩
  | loud hw hp hx hl hn => exact ⟨hp, hw, hx, hl, hn, rfl, rfl, rfl, rfl⟩
/-- what is known of the region. -/
structure Plan (P : Program) (B : Tab) (call1 : CallK (Value × Hp)) (ops : Array Oper) (ms : Ev.T Nat) (ntm base : Nat) (T : Tr) (lm : Nat) : Prop where
  mask : ∀ k o, ops.toList[k]? = some o → MaskAt ms k o
  dst : ∀ (i j : Nat) (o p : Oper) (d : Tmp), ops.toList[i]? = some o → ops.toList[j]? = some p → o.dst = some d → p.dst = some d → i = j
  look : ∀ i o, ops.toList[i]? = some o → ∀ t, (t ∈ opTmps o.op ∨ t ∈ guardTmp ops.toList o.guard) → ∀ j (p : Oper), ops.toList[j]? = some p → p.dst = some t → (maskOf ms i).testBit j = true ∨ (i < j ∧ (maskOf ms j).testBit i = true)
  step : ∀ k o, ops.toList[k]? = some o → T.Step P B call1 ops.toList ms ntm base k o
  louds : ∀ j, lm.testBit j = true → j < ops.size ∧ ∃ h, T.rw j = .loud h
  reads : ∀ (k : Nat) (o : Oper) tm v, ops.toList[k]? = some o → T.rw k = .read tm v →
      (Nat.land (maskOf ms k) lm = 0 → Quiet P o tm (addT (maskOf ms k) 0 (T.al ops.size) (T.h 0).t) v) ∧
      ∀ e h, e < ops.size → T.rw e = .loud h → (maskOf ms e).testBit k = false → Nat.land (maskOf ms k) lm < 2 ^ (e + 1) → Quiet P o tm (addT (maskOf ms k) (maskOf ms e) (T.al ops.size) h.t) v
  nx : ∀ (j k : Nat) (b : Blk), j < ops.size → T.rw j = .alloc k b → k < (T.h 0).next
  la0 : T.la 0 = none
  cm0 : T.cm 0 = 0
  al0 : T.al 0 = []
variable {ops : Array Oper} {T : Tr} {lm : Nat}
theorem getT {i : Nat} (hi : i < ops.size) : ops.toList[i]? = some ops[i] := by simp [hi]
theorem ltT {i : Nat} {o : Oper} (hi : ops.toList[i]? = some o) : i < ops.size := by
  have := (List.getElem?_eq_some_iff.1 hi).1; simpa using this
theorem Plan.inv (p : Plan P B call1 ops ms ntm base T lm) {i : Nat} {o : Oper} (hi : ops.toList[i]? = some o) :
    StepInv P B call1 ops.toList ms ntm base i o (T.tm i) (T.tm (i + 1)) (T.h i) (T.h (i + 1)) (T.cm i) (T.cm (i + 1)) (T.la i) (T.la (i + 1)) (T.al i) (T.al (i + 1)) (T.v i) (T.rw i) := StepP.inv (p.step i o hi)
theorem Plan.stay (p : Plan P B call1 ops ms ntm base T lm) {i : Nat} (hi : i < ops.size) (hn : ∀ h, T.rw i ≠ .loud h) : T.h (i + 1) = T.h i ∧ T.cm (i + 1) = T.cm i ∧ T.la (i + 1) = T.la i := by
  have := (p.inv (getT hi)).2
  cases hr : T.rw i with
  | off => rw [hr] at this; exact ⟨this.2.2.1, this.2.2.2.1, this.2.2.2.2.1⟩
  | pure => rw [hr] at this; exact ⟨this.2.2.1, this.2.2.2.1, this.2.2.2.2.1⟩
  | read tm v => rw [hr] at this; exact ⟨this.2.2.2.2.1, this.2.2.2.2.2.1, this.2.2.2.2.2.2.1⟩
  | alloc k b => rw [hr] at this; exact ⟨this.2.2.2.2.1, this.2.2.2.2.2.1, this.2.2.2.2.2.2.1⟩
  | loud h => exact absurd hr (hn h)
theorem Plan.loud_at (p : Plan P B call1 ops ms ntm base T lm) {i : Nat} (hi : i < ops.size) {h : Hp} (hr : T.rw i = .loud h) : T.h (i + 1) = h ∧ T.cm (i + 1) = maskOf ms i ∧ T.la (i + 1) = some i ∧ (T.h i).next ≤ h.next ∧ ∀ e, T.la i = some e → (maskOf ms i).testBit e = true := by
  have := (p.inv (getT hi)).2
  rw [hr] at this
  exact ⟨this.2.2.2.2.1, this.2.2.2.2.2.1, this.2.2.2.2.2.2.1, this.2.2.2.1, this.2.2.1⟩
theorem Plan.next (p : Plan P B call1 ops ms ntm base T lm) : ∀ i, i ≤ ops.size → (T.h 0).next ≤ (T.h i).next
  | 0, _ => Nat.le_refl _
  | i + 1, hi => by
    refine Nat.le_trans (p.next i (by omega)) ?_
    by_cases hn : ∃ h, T.rw i = .loud h
    · obtain ⟨h, hr⟩ := hn
      obtain ⟨h1, _, _, h2, _⟩ := p.loud_at (by omega) hr
      rw [h1]; exact h2
    · rw [(p.stay (i := i) (by omega) fun h hh => hn ⟨h, hh⟩).1]; exact Nat.le_refl _
/-- at which stage the heap stands. -/
theorem Plan.stage (p : Plan P B call1 ops ms ntm base T lm) : ∀ i, i ≤ ops.size →
    (T.h i = T.h 0 ∧ T.cm i = 0 ∧ T.la i = none ∧ ∀ e h, e < i → T.rw e ≠ .loud h) ∨ ∃ e h, e < i ∧ T.rw e = .loud h ∧ T.h i = h ∧ T.cm i = maskOf ms e ∧ T.la i = some e ∧ ∀ e' h', e < e' → e' < i → T.rw e' ≠ .loud h'
  | 0, _ => Or.inl ⟨rfl, p.cm0, p.la0, fun e h he => by omega⟩
  | i + 1, hi => by
    by_cases hn : ∃ h, T.rw i = .loud h
    · obtain ⟨h, hr⟩ := hn
      obtain ⟨h1, h2, h3, _⟩ := p.loud_at (by omega) hr
      exact Or.inr ⟨i, h, Nat.lt_succ_self i, hr, h1, h2, h3, fun e' h' a b => by omega⟩
    · have hn' : ∀ h, T.rw i ≠ .loud h := fun h hh => hn ⟨h, hh⟩
      obtain ⟨h1, h2, h3⟩ := p.stay (i := i) (by omega) hn'
      rw [h1, h2, h3]
      rcases p.stage i (by omega) with ⟨a, b, c, d⟩ | ⟨e, h, a, b, c, d, f, g⟩
      · exact Or.inl ⟨a, b, c, fun e h he => by
          rcases Nat.lt_or_ge e i with h4 | h4
          · exact d e h h4
          · have : e = i := by omega
            subst this; exact hn' h⟩
      · exact Or.inr ⟨e, h, by omega, b, c, d, f, fun e' h' x y => by
          rcases Nat.lt_or_ge e' i with h4 | h4
          · exact g e' h' x h4
          · have : e' = i := by omega
            subst this; exact hn' h'⟩
/-- the same operations that turn the heap behind us: the same heap. -/
theorem Plan.same (p : Plan P B call1 ops ms ntm base T lm) {s i : Nat} (hs : s ≤ ops.size) (hi : i ≤ ops.size) (h : ∀ e hh, e < ops.size → T.rw e = .loud hh → (e < s ↔ e < i)) : T.h s = T.h i ∧ T.cm s = T.cm i := by
  rcases p.stage s hs with ⟨a, b, c, d⟩ | ⟨e, h1, a, b, c, d, f, g⟩ <;> rcases p.stage i hi with ⟨a', b', c', d'⟩ | ⟨e', h1', a', b', c', d', f', g'⟩
  · exact ⟨a.trans a'.symm, b.trans b'.symm⟩
  · exact absurd b' (d e' h1' ((h e' h1' (by omega) b').2 a'))
  · exact absurd b (d' e h1 ((h e h1 (by omega) b).1 a))
  · have hee : e = e' := by
      rcases Nat.lt_trichotomy e e' with hh | hh | hh
      · exact absurd b' (g e' h1' hh ((h e' h1' (by omega) b').2 a'))
      · exact hh
      · exact absurd b (g' e h1 hh ((h e h1 (by omega) b).1 a))
    subst hee
    rw [b] at b'; cases b'
    exact ⟨c.trans c'.symm, d.trans d'.symm⟩
/-- an operation that turns the heap comes behind all such that stand ahead of it. -/
theorem Plan.chain (p : Plan P B call1 ops ms ntm base T lm) : ∀ i, i < ops.size → ∀ h, T.rw i = .loud h → ∀ e h', e < i → T.rw e = .loud h' → (maskOf ms i).testBit e = true := by
  intro i
  induction i using Nat.strongRecOn with
  | ind i ih =>
    intro hi h hr e h' he hre
    obtain ⟨_, _, _, _, hl⟩ := p.loud_at hi hr
    rcases p.stage i (by omega) with ⟨_, _, _, d⟩ | ⟨l, hh, a, b, c, d, f, g⟩
    · exact absurd hre (d e h' he)
    · have h1 := hl l f
      rcases Nat.lt_trichotomy e l with h2 | h2 | h2
      · exact mask_trans p.mask i (by simpa using hi) l e h1 (ih l a (by omega) hh b e h' h2 hre)
      · subst h2; exact h1
      · exact absurd hre (g e h' h2 he)
theorem Plan.cm_sub (p : Plan P B call1 ops ms ntm base T lm) {i : Nat} (hi : i < ops.size) {h : Hp} (hr : T.rw i = .loud h) {j : Nat} (hj : (T.cm i).testBit j = true) : (maskOf ms i).testBit j = true := by
  obtain ⟨_, _, _, _, hl⟩ := p.loud_at hi hr
  rcases p.stage i (by omega) with ⟨_, b, _, _⟩ | ⟨l, hh, a, b, c, d, f, g⟩
  · rw [b] at hj; simp at hj
  · rw [d] at hj
    exact mask_trans p.mask i (by simpa using hi) l j (hl l f) hj
theorem Plan.alloc_at (p : Plan P B call1 ops ms ntm base T lm) {j k : Nat} {b : Blk} (hj : j < ops.size) (hr : T.rw j = .alloc k b) : k = base + j ∧ mutB b = true := by
  have := (p.inv (getT hj)).2
  rw [hr] at this
  exact ⟨this.2.1, this.2.2.1.mu⟩
theorem Plan.al_mem (p : Plan P B call1 ops ms ntm base T lm) : ∀ i, i ≤ ops.size → ∀ j k b, (j, k, b) ∈ T.al i → j < i ∧ T.rw j = .alloc k b
  | 0, _, j, k, b, h => by rw [p.al0] at h; simp at h
  | i + 1, hi, j, k, b, h => by
    have hs := (p.inv (getT (i := i) (by omega))).2
    have old : T.al (i + 1) = T.al i → j < i + 1 ∧ T.rw j = .alloc k b := fun e => by
      rw [e] at h; obtain ⟨h1, h2⟩ := p.al_mem i (by omega) j k b h; exact ⟨by omega, h2⟩
    cases hr : T.rw i with
    | off => rw [hr] at hs; exact old hs.2.2.2.2.2
    | pure => rw [hr] at hs; exact old hs.2.2.2.2.2.1
    | read tm v => rw [hr] at hs; exact old hs.2.2.2.2.2.2.2.1
    | loud h2 => rw [hr] at hs; exact old hs.2.2.2.2.2.2.2
    | alloc k' b' =>
      rw [hr] at hs
      have e := hs.2.2.2.2.2.2.2
      rw [e] at h
      rcases List.mem_cons.1 h with h | h
      · cases h; exact ⟨Nat.lt_succ_self _, hr⟩
      · obtain ⟨h1, h2⟩ := p.al_mem i (by omega) j k b h; exact ⟨by omega, h2⟩
/-- the temporaries, as they are where the text stands. -/
theorem Plan.tm_at (p : Plan P B call1 ops ms ntm base T lm) (t : Nat) : ∀ i, i ≤ ops.size →
    (∀ j o, j < i → ops.toList[j]? = some o → o.dst = some t → tmGet (T.tm i) t = T.v j) ∧ ((∀ j o, j < i → ops.toList[j]? = some o → o.dst ≠ some t) → tmGet (T.tm i) t = tmGet (T.tm 0) t)
  | 0, _ => ⟨fun j o hj => by omega, fun _ => rfl⟩
  | i + 1, hi => by
    obtain ⟨h1, h2⟩ := p.tm_at t i (by omega)
    have ho := getT (ops := ops) (i := i) (by omega)
    obtain ⟨e, _⟩ := (p.inv ho).1
    by_cases hd : ops[i].dst = some t
    · rw [e, hd]
      simp only [tmGet_put, if_true]
      refine ⟨fun j o hj hjo hjd => ?_, fun h => absurd hd (h i _ (Nat.lt_succ_self i) ho)⟩
      rw [p.dst j i o _ t hjo ho hjd hd]
    · have keep : tmGet (T.tm (i + 1)) t = tmGet (T.tm i) t := by
        rw [e]
        cases hd' : ops[i].dst with
        | none => rfl
        | some d => simp only [tmGet_put]; rw [if_neg (fun x => hd (by rw [hd', x]))]
      rw [keep]
      refine ⟨fun j o hj hjo hjd => ?_, fun h => h2 fun j o hj => h j o (by omega)⟩
      rcases Nat.lt_or_ge j i with h3 | h3
      · exact h1 j o h3 hjo hjd
      · have : j = i := by omega
        subst this; rw [ho] at hjo; cases hjo; exact absurd hjd hd
theorem Plan.tm_out (p : Plan P B call1 ops ms ntm base T lm) (h0 : ∀ t, ntm ≤ t → tmGet (T.tm 0) t = Go.undef) : ∀ t, ntm ≤ t → tmGet (T.tm ops.size) t = Go.undef := fun t ht => by
  rw [(p.tm_at t ops.size (Nat.le_refl _)).2 fun j o hj hjo hjd => ?_]
  · exact h0 t ht
  · exact absurd ht (Nat.not_le.2 ((p.inv hjo).1.2 t hjd))
/-! where it stands -/
noncomputable def On (L : Array Bool) (j : Nat) : Prop := L.getD j false = true
theorem On.set {L : Array Bool} {i j : Nat} (hi : i < L.size) : On (L.setIfInBounds i true) j ↔ (j = i ∨ On L j) := by
  unfold On
  rw [Array.getD_eq_getD_getElem?, Array.getD_eq_getD_getElem?, Array.getElem?_setIfInBounds]
  by_cases h : i = j
  · subst h; simp [hi]
  · simp [h, show ¬ j = i from fun x => h x.symm]
/-- the context, with the names that are still to come. -/
noncomputable def Gr (T : Tr) (n : Nat) (G : Ctx) (L : Array Bool) : Ctx := { G with no := fun k => G.no k ∨ ∃ j b, j < n ∧ T.rw j = .alloc k b ∧ ¬ On L j }
structure Inv (T : Tr) (ops : Array Oper) (ms : Ev.T Nat) (ntm : Nat) (G : Ctx) (E0 : Env) (a0 : Act) (L : Array Bool) (a : Act) (w : World) (E : Env) (s : Nat) : Prop where
  sz : L.size = ops.size
  s_le : s ≤ ops.size
  loud : ∀ e h, e < ops.size → T.rw e = .loud h → (On L e ↔ e < s)
  cl : ∀ i, i < ops.size → On L i → ∀ j, (maskOf ms i).testBit j = true → On L j
  tsz : a.tmps.size = ntm
  t1 : ∀ t j o, ops.toList[j]? = some o → o.dst = some t → On L j → VR E (T.v j) (a.tmps.getD t Go.undef)
  t2 : ∀ t, (∀ j o, ops.toList[j]? = some o → o.dst = some t → ¬ On L j) → VR E (tmGet (T.tm 0) t) (a.tmps.getD t Go.undef)
  wr : WR G E (T.h s).t w
  al : ∀ j k b, j < ops.size → T.rw j = .alloc k b → On L j → (T.cm s).testBit j = false →
    ∃ e, E k = some e ∧ BR E b e w.heap[e.b]? ∧ ¬ G.fr e.b ∧ ∀ k' B' e', (T.h s).t.find k' = some B' → E k' = some e' → e'.b ≠ e.b
  ad : ∀ j k b j' k' b' e e', j < ops.size → T.rw j = .alloc k b → On L j → (T.cm s).testBit j = false → j' < ops.size → T.rw j' = .alloc k' b' → On L j' → (T.cm s).testBit j' = false →
    E k = some e → E k' = some e' → j ≠ j' → e.b ≠ e'.b
  fr : Fresh (Gr T ops.size G L) E (T.h s).next
  le : E0.le E
  df : a.defers = a0.defers
theorem Fresh.weak {G G' : Ctx} {E : Env} {n : Nat} (h : Fresh G E n) (hn : ∀ k, G'.no k → G.no k) : Fresh G' E n := ⟨h.1, fun k hk => h.2 k (hn k hk)⟩
theorem BR.lt {E : Env} {b : Blk} {e : Ent} {w : World} (hb : BR E b e w.heap[e.b]?) : e.b < w.heap.size := by
  have : ∃ o, w.heap[e.b]? = some o := by
    cases b with
    | cells => obtain ⟨c, fr, h1, _⟩ := hb; exact ⟨_, h1⟩
    | loop => obtain ⟨fn, tms, ed, h1, _⟩ := hb; exact ⟨_, h1⟩
    | deferred => exact ⟨_, hb⟩
    | map => obtain ⟨es', h1, _⟩ := hb; exact ⟨_, h1⟩
    | iter => obtain ⟨_, mb, h1, _⟩ := hb; exact ⟨_, h1⟩
  obtain ⟨o, ho⟩ := this
  exact (Array.getElem?_eq_some_iff.1 ho).1
variable {G : Ctx} {E0 : Env} {a0 : Act} {L : Array Bool} {a : Act} {w : World} {E : Env} {s : Nat}
/-- a heap put together of what lies there. -/
theorem Inv.overlay (I : Inv T ops ms ntm G E0 a0 L a w E s) (p : Plan P B call1 ops ms ntm base T lm) {t : Ev.T Blk}
    (ht : ∀ k b, t.find k = some b → (∃ j, j < ops.size ∧ T.rw j = .alloc k b ∧ On L j ∧ (T.cm s).testBit j = false) ∨ (T.h s).t.find k = some b) : WR G E t w := by
  refine ⟨fun k b hk => ?_, fun k j b c e f hk hj he hf hef => ?_, I.wr.os, I.wr.tape, I.wr.output, I.wr.keep, I.wr.size⟩
  · rcases ht k b hk with ⟨j, h1, h2, h3, h4⟩ | h1
    · obtain ⟨e, h5, h6, h7, _⟩ := I.al j k b h1 h2 h3 h4
      exact ⟨e, h5, h6, fun _ => h7, fun h => by rw [(p.alloc_at h1 h2).2] at h; cases h⟩
    · exact I.wr.blk k b h1
  · rcases ht k b hk with ⟨i, h1, h2, h3, h4⟩ | h1 <;> rcases ht j c hj with ⟨i', g1, g2, g3, g4⟩ | g1
    · by_cases hii : i = i'
      · subst hii; rw [h2] at g2; cases g2; rfl
      · exact absurd hef (I.ad i k b i' j c e f h1 h2 h3 h4 g1 g2 g3 g4 he hf hii)
    · obtain ⟨e', h5, h6, h7, h8⟩ := I.al i k b h1 h2 h3 h4
      rw [he] at h5; cases h5
      exact absurd hef.symm (h8 j c f g1 hf)
    · obtain ⟨e', h5, h6, h7, h8⟩ := I.al i' j c g1 g2 g3 g4
      rw [hf] at h5; cases h5
      exact absurd hef (h8 k b e h1 he)
    · exact I.wr.inj k j b c e f h1 g1 he hf hef
theorem ready_mem {L : Array Bool} (hL : L.size = ops.size) {i : Nat} (h : i ∈ Region.ready .any ops L) : i < ops.size ∧ ¬ On L i ∧ ∀ o, ops.toList[i]? = some o → ∀ e ∈ o.after.toList, Region.binds .any e = true → On L e.on := by
  unfold Region.ready at h
  rw [List.mem_filter, List.mem_range, Bool.and_eq_true] at h
  obtain ⟨h1, h2, h3⟩ := h
  refine ⟨h1, fun h4 => ?_, fun o ho e he hb => ?_⟩
  · unfold On at h4
    rw [Array.getD_eq_getD_getElem?] at h4 h2
    rw [Array.getElem?_eq_getElem (by omega)] at h4 h2
    simp only [Option.getD_some] at h4 h2
    rw [h4] at h2; cases h2
  · rw [Array.getElem?_toList] at ho
    rw [ho] at h3
    simp only [Option.map_some, Option.getD_some, Array.all_eq_true_iff_forall_mem] at h3
    have := h3 e (by simpa using he)
    rw [hb] at this
    simpa [On] using this
theorem ready_all {L : Array Bool} (hL : L.size = ops.size) (hm : ∀ k o, ops.toList[k]? = some o → MaskAt ms k o) (h : Region.ready .any ops L = []) : ∀ i, i < ops.size → On L i := by
  intro i
  induction i using Nat.strongRecOn with
  | ind i ih =>
    intro hi
    have hn : i ∉ Region.ready .any ops L := by rw [h]; simp
    unfold Region.ready at hn
    rw [List.mem_filter, List.mem_range, Bool.and_eq_true] at hn
    unfold On
    rw [Array.getD_eq_getD_getElem?, Array.getElem?_eq_getElem (by omega), Option.getD_some]
    cases hl : L[i]'(by omega) with
    | true => rfl
    | false =>
      refine absurd ⟨hi, ?_, ?_⟩ hn
      · rw [Array.getD_eq_getD_getElem?, Array.getElem?_eq_getElem (by omega), Option.getD_some, hl]; rfl
      · rw [Array.getElem?_eq_getElem hi]
        simp only [Option.map_some, Option.getD_some, Array.all_eq_true_iff_forall_mem]
        intro e he
        cases hb : Region.binds .any e with
        | false => rfl
        | true =>
          have h1 := (hm i _ (getT hi)).2 e (by simpa using he) hb
          have h2 := ih e.on h1 (by omega)
          unfold On at h2
          rw [h2]; rfl
/-- the masks of what is ready are listed. -/
theorem Inv.ready_mask (I : Inv T ops ms ntm G E0 a0 L a w E s) (p : Plan P B call1 ops ms ntm base T lm) {i : Nat} (hi : i ∈ Region.ready .any ops L) : ∀ j, (maskOf ms i).testBit j = true → On L j := by
  obtain ⟨h1, h2, h3⟩ := ready_mem I.sz hi
  intro j hj
  obtain ⟨m1, m2⟩ := p.mask i _ (getT h1)
  obtain ⟨e, he, hb, hx⟩ := (m1 j).1 hj
  have h4 := h3 _ (getT h1) e he hb
  rcases hx with rfl | hx
  · exact h4
  · exact I.cl e.on (by have := m2 e he hb; omega) h4 j hx
/-- the temporaries that an operation looks at. -/
theorem Inv.looks (I : Inv T ops ms ntm G E0 a0 L a w E s) (p : Plan P B call1 ops ms ntm base T lm) {i : Nat} {o : Oper} (hi : i ∈ Region.ready .any ops L) (ho : ops.toList[i]? = some o) {t : Nat}
    (ht : t ∈ opTmps o.op ∨ t ∈ guardTmp ops.toList o.guard) : VR E (tmGet (T.tm i) t) (a.tmps.getD t Go.undef) := by
  obtain ⟨h1, h2, _⟩ := ready_mem I.sz hi
  obtain ⟨g1, g2⟩ := p.tm_at t i (by omega)
  by_cases hw : ∃ (j : Nat) (q : Oper), ops.toList[j]? = some q ∧ q.dst = some t
  · obtain ⟨j, q, hj, hq⟩ := hw
    rcases p.look i o ho t ht j q hj hq with h3 | ⟨h3, h4⟩
    · have hji := mask_lt p.mask i (by simpa using h1) j h3
      rw [g1 j q hji hj hq]
      exact I.t1 t j q hj hq (I.ready_mask p hi j h3)
    · rw [g2 fun l x hl hx hxt => by have := p.dst l j x q t hx hj hxt hq; omega]
      refine I.t2 t fun l x hx hxt hon => ?_
      have := p.dst l j x q t hx hj hxt hq
      subst this
      exact h2 (I.cl l (ltT hx) hon i h4)
  · rw [g2 fun l x hl hx hxt => hw ⟨l, x, hx, hxt⟩]
    exact I.t2 t fun l x hx hxt => (hw ⟨l, x, hx, hxt⟩).elim
theorem Inv.opsR (I : Inv T ops ms ntm G E0 a0 L a w E s) (p : Plan P B call1 ops ms ntm base T lm) {i : Nat} {o : Oper} (hi : i ∈ Region.ready .any ops L) (ho : ops.toList[i]? = some o) : Ops E (T.tm i) o.op a.eval := fun x hx => by
  cases x with
  | tmp t => exact I.looks p hi ho (Or.inl (List.mem_filterMap.2 ⟨.tmp t, by simpa using hx, rfl⟩))
  | const v => rfl
  | global g => trivial
  | func f => rfl
theorem Inv.want (I : Inv T ops ms ntm G E0 a0 L a w E s) (p : Plan P B call1 ops ms ntm base T lm) {i : Nat} {o : Oper} (hi : i ∈ Region.ready .any ops L) (ho : ops.toList[i]? = some o) {b : Bool} (hw : WantIs ops.toList o (T.tm i) b) :
    Region.wanted o (yielded ops a.tmps) = b := hw E ops a.tmps rfl fun d hd => I.looks p hi ho (Or.inr hd)
/-- what is left of the rest when an operation is listed. -/
theorem Inv.put (I : Inv T ops ms ntm G E0 a0 L a w E s) (p : Plan P B call1 ops ms ntm base T lm) {i : Nat} {o : Oper} (hi : i ∈ Region.ready .any ops L) (ho : ops.toList[i]? = some o) {E' : Env} (hle : E.le E') {v' : Value} (hv : VR E' (T.v i) v') :
    (a.put o.dst v').tmps.size = ntm ∧ (∀ t j (q : Oper), ops.toList[j]? = some q → q.dst = some t → On (L.setIfInBounds i true) j → VR E' (T.v j) ((a.put o.dst v').tmps.getD t Go.undef)) ∧
    (∀ t, (∀ j (q : Oper), ops.toList[j]? = some q → q.dst = some t → ¬ On (L.setIfInBounds i true) j) → VR E' (tmGet (T.tm 0) t) ((a.put o.dst v').tmps.getD t Go.undef)) ∧ (a.put o.dst v').defers = a0.defers ∧
    (∀ i', i' < ops.size → On (L.setIfInBounds i true) i' → ∀ j, (maskOf ms i').testBit j = true → On (L.setIfInBounds i true) j) := by
  obtain ⟨h1, h2, _⟩ := ready_mem I.sz hi
  have hiL : i < L.size := by rw [I.sz]; exact h1
  obtain ⟨hp1, hp2⟩ := (p.inv ho).1
  have get : ∀ t, (a.put o.dst v').tmps.getD t Go.undef = if o.dst = some t then v' else a.tmps.getD t Go.undef := fun t => by
    unfold Act.put
    cases hd : o.dst with
    | none => simp
    | some d =>
      simp only
      rw [Array.getD_eq_getD_getElem?, Array.getD_eq_getD_getElem?, Array.getElem?_setIfInBounds]
      by_cases hdt : d = t
      · subst hdt
        have := hp2 d hd
        rw [← I.tsz] at this
        simp [this]
      · simp [hdt]
  refine ⟨?_, fun t j q hj hq hon => ?_, fun t ht => ?_, ?_, fun i' hi' hon j hj => ?_⟩
  · unfold Act.put; cases o.dst <;> simp [I.tsz]
  · rw [get t]
    by_cases hd : o.dst = some t
    · rw [if_pos hd]
      have := p.dst j i q o t hj ho hq hd
      subst this; exact hv
    · rw [if_neg hd]
      rcases (On.set hiL).1 hon with rfl | hon
      · rw [ho] at hj; cases hj; exact absurd hq hd
      · exact (I.t1 t j q hj hq hon).mono hle
  · rw [get t, if_neg (fun hd => ht i o ho hd ((On.set hiL).2 (Or.inl rfl)))]
    exact (I.t2 t fun j q hj hq hon => ht j q hj hq ((On.set hiL).2 (Or.inr hon))).mono hle
  · have : (a.put o.dst v').defers = a.defers := by unfold Act.put; cases o.dst <;> rfl
    rw [this, I.df]
  · refine (On.set hiL).2 (Or.inr ?_)
    rcases (On.set hiL).1 hon with rfl | hon
    · exact I.ready_mask p hi j hj
    · exact I.cl i' hi' hon j hj
/-- nothing but a temporary is written. -/
theorem Inv.quiet (I : Inv T ops ms ntm G E0 a0 L a w E s) (p : Plan P B call1 ops ms ntm base T lm) {i : Nat} {o : Oper} (hi : i ∈ Region.ready .any ops L) (ho : ops.toList[i]? = some o) (hn1 : ∀ h, T.rw i ≠ .loud h) (hn2 : ∀ k b, T.rw i ≠ .alloc k b)
    {v' : Value} (hv : VR E (T.v i) v') : Inv T ops ms ntm G E0 a0 (L.setIfInBounds i true) (a.put o.dst v') w E s := by
  obtain ⟨h1, h2, _⟩ := ready_mem I.sz hi
  have hiL : i < L.size := by rw [I.sz]; exact h1
  obtain ⟨p1, p2, p3, p4, p5⟩ := I.put p hi ho (Env.le.refl E) hv
  have onA : ∀ {j k b}, T.rw j = .alloc k b → On (L.setIfInBounds i true) j → On L j := fun hr hon => by
    rcases (On.set hiL).1 hon with rfl | hon
    · exact absurd hr (hn2 _ _)
    · exact hon
  refine ⟨by simp [I.sz], I.s_le, fun e h he hr => ?_, p5, p1, p2, p3, I.wr, fun j k b hj hr hon => I.al j k b hj hr (onA hr hon), fun j k b j' k' b' e e' a1 a2 a3 a4 a5 a6 a7 => I.ad j k b j' k' b' e e' a1 a2 (onA a2 a3) a4 a5 a6 (onA a6 a7), ?_, I.le, p4⟩
  · rw [On.set hiL, ← I.loud e h he hr]
    constructor
    · rintro (rfl | hh)
      · exact absurd hr (hn1 h)
      · exact hh
    · exact Or.inr
  · refine I.fr.weak fun k hk => ?_
    rcases hk with hk | ⟨j, b, a1, a2, a3⟩
    · exact Or.inl hk
    · exact Or.inr ⟨j, b, a1, a2, fun hon => a3 ((On.set hiL).2 (Or.inr hon))⟩
end
end Go.Ev
