/-
  A region that draws its order.
-/
import Derived.Test.YtopkigockpiggaaGreatEvInv
set_option linter.unusedVariables false
set_option linter.unusedSimpArgs false
namespace Go.Ev
section
variable {P : Program} {B : Tab} {call1 : CallK (Value × Hp)} {ms : T Nat} {ntm base : Nat} {ops : Array Oper} {T : Tr} {lm : Nat} {G : Ctx} {E0 : Env} {a0 : Act} {L : Array Bool} {a : Act} {w : World} {E : Env} {s : Nat}
/-- a block is laid. -/
theorem Inv.laid (I : Inv T ops ms ntm G E0 a0 L a w E s) (p : Plan P B call1 ops ms ntm base T lm) (hno : ∀ k, G.no k → k < base) {i : Nat} {o : Oper} (hi : i ∈ Region.ready .any ops L) (ho : ops.toList[i]? = some o) {b : Blk} (hr : T.rw i = .alloc (base + i) b)
    (hE : E (base + i) = none) {v' : Value} {e : Ent} {obj : Obj} {n : Nat} (he : e.b = w.heap.size) (hb : BR (E.set (base + i) e) b e (some obj)) (hv : VR (E.set (base + i) e) (T.v i) v') :
    Inv T ops ms ntm G E0 a0 (L.setIfInBounds i true) (a.put o.dst v') { w with heap := w.heap.push obj, drawn := n } (E.set (base + i) e) s := by
  obtain ⟨h1, h2, _⟩ := ready_mem I.sz hi
  have hiL : i < L.size := by rw [I.sz]; exact h1
  have hle := Env.le_set (e := e) hE
  obtain ⟨p1, p2, p3, p4, p5⟩ := I.put p hi ho hle hv
  have hmu := (p.alloc_at h1 hr).2
  have old : ∀ k' B' e', (T.h s).t.find k' = some B' → (E.set (base + i) e) k' = some e' → E k' = some e' ∧ e'.b < w.heap.size := fun k' B' e' hk he' => by
    obtain ⟨f, hf, _⟩ := I.wr.blk k' B' hk
    have := hle _ _ hf
    rw [he'] at this; cases this
    exact ⟨hf, I.wr.lt hk hf⟩
  have push : ∀ j, j < w.heap.size → ({ w with heap := w.heap.push obj, drawn := n } : World).heap[j]? = w.heap[j]? := fun j hj => by
    show (w.heap.push obj)[j]? = _
    rw [Array.getElem?_push]; simp [Nat.ne_of_lt hj]
  have oldA : ∀ j k b' e', j < ops.size → T.rw j = .alloc k b' → On L j → (T.cm s).testBit j = false → (E.set (base + i) e) k = some e' → E k = some e' ∧ e'.b < w.heap.size := fun j k b' e' a1 a2 a3 a4 a5 => by
    obtain ⟨f, hf, hbr, _⟩ := I.al j k b' a1 a2 a3 a4
    have := hle _ _ hf
    rw [a5] at this; cases this
    exact ⟨hf, hbr.lt⟩
  refine ⟨by simp [I.sz], I.s_le, fun e' h he' hr' => ?_, p5, p1, p2, p3, ?_, fun j k b' hj hrj hon hcm => ?_, ?_, ?_, I.le.trans hle, p4⟩
  · rw [On.set hiL, ← I.loud e' h he' hr']
    constructor
    · rintro (rfl | hh)
      · rw [hr] at hr'; cases hr'
      · exact hh
    · exact Or.inr
  · refine ((I.wr.new (base + i) hE b hmu e obj he hb).drawn n).sub fun k' B' hk => ?_
    rw [Ev.T.find_put]
    split
    · rename_i x; subst x
      obtain ⟨f, hf, _⟩ := I.wr.blk _ B' hk
      rw [hE] at hf; cases hf
    · exact hk
  · rcases (On.set hiL).1 hon with rfl | hon
    · rw [hr] at hrj
      cases hrj
      refine ⟨e, Env.set_self _ _ _, ?_, fun hf => ?_, fun k' B' e' hk he' x => ?_⟩
      · show BR _ _ _ (w.heap.push obj)[e.b]?
        rw [he]; simpa using hb
      · have := (I.wr.keep _ hf).1
        have := I.wr.size
        omega
      · have := (old k' B' e' hk he').2
        omega
    · obtain ⟨f, hf, hbr, hnf, hd⟩ := I.al j k b' hj hrj hon hcm
      refine ⟨f, hle _ _ hf, ?_, hnf, fun k' B' e' hk he' => hd k' B' e' hk (old k' B' e' hk he').1⟩
      rw [push _ hbr.lt]
      exact hbr.mono hle
  · intro j k b1 j' k' b2 e1 e2 a1 a2 a3 a4 c1 c2 c3 c4 x1 x2 hne
    rcases (On.set hiL).1 a3 with rfl | y3 <;> rcases (On.set hiL).1 c3 with rfl | z3
    · exact absurd rfl hne
    · rw [hr] at a2
      cases a2
      rw [Env.set_self] at x1; cases x1
      have := (oldA j' k' b2 e2 c1 c2 z3 c4 x2).2
      omega
    · rw [hr] at c2
      cases c2
      rw [Env.set_self] at x2; cases x2
      have := (oldA j k b1 e1 a1 a2 y3 a4 x1).2
      omega
    · exact I.ad j k b1 j' k' b2 e1 e2 a1 a2 y3 a4 c1 c2 z3 c4 (oldA j k b1 e1 a1 a2 y3 a4 x1).1 (oldA j' k' b2 e2 c1 c2 z3 c4 x2).1 hne
  · have hlt : base + i < (T.h s).next := Nat.lt_of_lt_of_le (p.nx i _ b h1 hr) (p.next s I.s_le)
    refine ⟨fun k hk => ?_, fun k hk => ?_⟩
    · rw [Env.set_other _ _ (by omega)]; exact I.fr.1 k hk
    · rcases hk with hk | ⟨j, bj, a1, a2, a3⟩
      · have h5 := I.fr.2 k (Or.inl hk)
        have := hno k hk
        exact ⟨h5.1, by rw [Env.set_other _ _ (by omega)]; exact h5.2⟩
      · have hji : j ≠ i := fun x => a3 ((On.set hiL).2 (Or.inl x))
        have hk := (p.alloc_at a1 a2).1
        have h5 := I.fr.2 k (Or.inr ⟨j, bj, a1, a2, fun x => a3 ((On.set hiL).2 (Or.inr x))⟩)
        exact ⟨h5.1, by rw [Env.set_other _ _ (by omega)]; exact h5.2⟩
/-- the blocks that an operation does not know of. -/
noncomputable def Apart (T : Tr) (n : Nat) (ms : Ev.T Nat) (L : Array Bool) (E : Env) (s i b : Nat) : Prop :=
  ∃ j k bl e, j < n ∧ T.rw j = .alloc k bl ∧ On L j ∧ (T.cm s).testBit j = false ∧ (maskOf ms i).testBit j = false ∧ E k = some e ∧ e.b = b
noncomputable def Gl (T : Tr) (n : Nat) (ms : Ev.T Nat) (L : Array Bool) (E : Env) (s i : Nat) (G : Ctx) (w : World) : Ctx :=
  { w0 := w, fr := fun b => G.fr b ∨ Apart T n ms L E s i b, ro := G.ro, sub := fun b h => Or.inl (G.sub b h), no := (Gr T n G L).no }
theorem Inv.stands (I : Inv T ops ms ntm G E0 a0 L a w E s) (p : Plan P B call1 ops ms ntm base T lm) {i : Nat} (hi : i ∈ Region.ready .any ops L) {h2 : Hp} (hr : T.rw i = .loud h2) : T.h s = T.h i ∧ T.cm s = T.cm i := by
  obtain ⟨h1, hn, _⟩ := ready_mem I.sz hi
  refine p.same I.s_le (by omega) fun e hh he hre => ?_
  rw [← I.loud e hh he hre]
  constructor
  · intro hon
    rcases Nat.lt_trichotomy e i with h3 | h3 | h3
    · exact h3
    · subst h3; exact absurd hon hn
    · exact absurd (I.cl e he hon i (p.chain e he hh hre i h2 h3 hr)) hn
  · intro h3
    exact I.ready_mask p hi e (p.chain i h1 h2 hr e hh h3 hre)
theorem Inv.before (I : Inv T ops ms ntm G E0 a0 L a w E s) (p : Plan P B call1 ops ms ntm base T lm) {i : Nat} (hi : i ∈ Region.ready .any ops L) {h2 : Hp} (hr : T.rw i = .loud h2) :
    WR (Gl T ops.size ms L E s i G w) E (addT (maskOf ms i) (T.cm i) (T.al i) (T.h i).t) w := by
  obtain ⟨h1, hn, _⟩ := ready_mem I.sz hi
  obtain ⟨e1, e2⟩ := I.stands p hi hr
  have find : ∀ k b, (addT (maskOf ms i) (T.cm i) (T.al i) (T.h i).t).find k = some b → (∃ j, j < ops.size ∧ T.rw j = .alloc k b ∧ On L j ∧ (T.cm s).testBit j = false ∧ (maskOf ms i).testBit j = true) ∨ (T.h s).t.find k = some b := fun k b hk => by
    rcases addT_find hk with ⟨j, a1, a2, a3⟩ | hk
    · obtain ⟨b1, b2⟩ := p.al_mem i (by omega) j k b a1
      exact Or.inl ⟨j, by omega, b2, I.ready_mask p hi j a2, by rw [e2]; exact a3, a2⟩
    · rw [e1]; exact Or.inr hk
  have base := I.overlay p (t := addT (maskOf ms i) (T.cm i) (T.al i) (T.h i).t) fun k b hk => by
    rcases find k b hk with ⟨j, a1, a2, a3, a4, _⟩ | hk
    · exact Or.inl ⟨j, a1, a2, a3, a4⟩
    · exact Or.inr hk
  refine ⟨fun k b hk => ?_, base.inj, rfl, rfl, rfl, fun b hb => ⟨?_, rfl⟩, Nat.le_refl _⟩
  · obtain ⟨e, h3, h4, h5, h6⟩ := base.blk k b hk
    refine ⟨e, h3, h4, fun hm hf => ?_, h6⟩
    rcases hf with hf | ⟨j, k', bl, e', a1, a2, a3, a4, a5, a6, a7⟩
    · exact h5 hm hf
    · rcases find k b hk with ⟨j', b1, b2, b3, b4, b5⟩ | hk
      · refine I.ad j k' bl j' k b e' e a1 a2 a3 a4 b1 b2 b3 b4 a6 h3 (fun x => ?_) a7
        subst x; rw [a5] at b5; cases b5
      · obtain ⟨e'', c1, c2, c3, c4⟩ := I.al j k' bl a1 a2 a3 a4
        rw [a6] at c1; cases c1
        exact c4 k b e hk h3 a7.symm
  · rcases hb with hb | ⟨j, k', bl, e', a1, a2, a3, a4, a5, a6, a7⟩
    · exact Nat.lt_of_lt_of_le (I.wr.keep b hb).1 I.wr.size
    · obtain ⟨e'', c1, c2, c3, c4⟩ := I.al j k' bl a1 a2 a3 a4
      rw [a6] at c1; cases c1
      subst a7; exact c2.lt
theorem Inv.after (I : Inv T ops ms ntm G E0 a0 L a w E s) (p : Plan P B call1 ops ms ntm base T lm) {i : Nat} {o : Oper} (hi : i ∈ Region.ready .any ops L) (ho : ops.toList[i]? = some o) {h2 : Hp} (hr : T.rw i = .loud h2)
    {E' : Env} {w' : World} {v' : Value} (hle : E.le E') (hw : WR (Gl T ops.size ms L E s i G w) E' h2.t w') (hf : Fresh (Gl T ops.size ms L E s i G w) E' h2.next) (hv : VR E' (T.v i) v') :
    Inv T ops ms ntm G E0 a0 (L.setIfInBounds i true) (a.put o.dst v') w' E' (i + 1) := by
  obtain ⟨h1, hn, _⟩ := ready_mem I.sz hi
  have hiL : i < L.size := by rw [I.sz]; exact h1
  obtain ⟨e1, e2⟩ := I.stands p hi hr
  obtain ⟨l1, l2, _⟩ := p.loud_at h1 hr
  obtain ⟨p1, p2, p3, p4, p5⟩ := I.put p hi ho hle hv
  have onA : ∀ {j k b}, T.rw j = .alloc k b → On (L.setIfInBounds i true) j → On L j := fun hrj hon => by
    rcases (On.set hiL).1 hon with rfl | hon
    · rw [hr] at hrj; cases hrj
    · exact hon
  -- what is apart
  have apart : ∀ j k b, j < ops.size → T.rw j = .alloc k b → On (L.setIfInBounds i true) j → (T.cm (i + 1)).testBit j = false → On L j ∧ (T.cm s).testBit j = false ∧ (maskOf ms i).testBit j = false := fun j k b a1 a2 a3 a4 => by
    rw [l2] at a4
    refine ⟨onA a2 a3, ?_, a4⟩
    rw [e2]
    cases hc : (T.cm i).testBit j with
    | false => rfl
    | true => rw [p.cm_sub h1 hr hc] at a4; cases a4
  have keepAt : ∀ b, (Gl T ops.size ms L E s i G w).fr b → w'.heap[b]? = w.heap[b]? := fun b hb => (hw.keep b hb).2
  refine ⟨by simp [I.sz], by omega, fun e h he hre => ?_, p5, p1, p2, p3, ?_, fun j k b a1 a2 a3 a4 => ?_, ?_, ?_, I.le.trans hle, p4⟩
  · rw [On.set hiL]
    constructor
    · rintro (rfl | hon)
      · omega
      · rcases Nat.lt_trichotomy e i with h3 | h3 | h3
        · omega
        · omega
        · exact absurd (I.cl e he hon i (p.chain e he h hre i h2 h3 hr)) hn
    · intro h3
      rcases Nat.lt_or_ge e i with h4 | h4
      · exact Or.inr (I.ready_mask p hi e (p.chain i h1 h2 hr e h h4 hre))
      · exact Or.inl (by omega)
  · rw [l1]
    refine ⟨fun k b hk => ?_, hw.inj, hw.os.trans I.wr.os, hw.tape.trans I.wr.tape, hw.output.trans I.wr.output, fun b hb => ?_, Nat.le_trans I.wr.size hw.size⟩
    · obtain ⟨e, h3, h4, h5, h6⟩ := hw.blk k b hk
      exact ⟨e, h3, h4, fun hm hf => h5 hm (Or.inl hf), h6⟩
    · exact ⟨(I.wr.keep b hb).1, (keepAt b (Or.inl hb)).trans (I.wr.keep b hb).2⟩
  · obtain ⟨c1, c2, c3⟩ := apart j k b a1 a2 a3 a4
    obtain ⟨e, d1, d2, d3, d4⟩ := I.al j k b a1 a2 c1 c2
    have hap : Apart T ops.size ms L E s i e.b := ⟨j, k, b, e, a1, a2, c1, c2, c3, d1, rfl⟩
    refine ⟨e, hle _ _ d1, ?_, d3, fun k' B' e' hk he' x => ?_⟩
    · rw [keepAt e.b (Or.inr hap)]
      exact d2.mono hle
    · rw [l1] at hk
      obtain ⟨f, g1, g2, g3, g4⟩ := hw.blk k' B' hk
      rw [he'] at g1; cases g1
      cases hm : mutB B' with
      | true => exact g3 hm (Or.inr (by rw [x]; exact hap))
      | false => exact d3 (by rw [← x]; exact G.sub _ (g4 hm))
  · intro j k b j' k' b' e e' a1 a2 a3 a4 c1 c2 c3 c4 x1 x2
    obtain ⟨u1, u2, _⟩ := apart j k b a1 a2 a3 a4
    obtain ⟨v1, v2, _⟩ := apart j' k' b' c1 c2 c3 c4
    obtain ⟨f, d1, _⟩ := I.al j k b a1 a2 u1 u2
    obtain ⟨f', d1', _⟩ := I.al j' k' b' c1 c2 v1 v2
    have := hle _ _ d1; rw [x1] at this; cases this
    have := hle _ _ d1'; rw [x2] at this; cases this
    exact I.ad j k b j' k' b' e e' a1 a2 u1 u2 c1 c2 v1 v2 d1 d1'
  · rw [l1]
    refine hf.weak fun k hk => ?_
    rcases hk with hk | ⟨j, b, a1, a2, a3⟩
    · exact Or.inl hk
    · exact Or.inr ⟨j, b, a1, a2, fun hon => a3 ((On.set hiL).2 (Or.inr hon))⟩
/-- a reading is what it was at one of the stages that were tried. -/
theorem Inv.reading (I : Inv T ops ms ntm G E0 a0 L a w E s) (p : Plan P B call1 ops ms ntm base T lm) {i : Nat} {o : Oper} (hi : i ∈ Region.ready .any ops L) (ho : ops.toList[i]? = some o) {tm : Ev.T Value} {v : Value} (hr : T.rw i = .read tm v) :
    ∃ t, WR G E t w ∧ Quiet P o tm t v := by
  obtain ⟨h1, hn, _⟩ := ready_mem I.sz hi
  obtain ⟨r1, r2⟩ := p.reads i o tm v ho hr
  have over : ∀ (h : Hp) (cm : Nat), T.h s = h → T.cm s = cm → WR G E (addT (maskOf ms i) cm (T.al ops.size) h.t) w := fun h cm x y => by
    refine I.overlay p fun k b hk => ?_
    rcases addT_find hk with ⟨j, a1, a2, a3⟩ | hk
    · obtain ⟨b1, b2⟩ := p.al_mem _ (Nat.le_refl _) j k b a1
      exact Or.inl ⟨j, b1, b2, I.ready_mask p hi j a2, by rw [y]; exact a3⟩
    · rw [x]; exact Or.inr hk
  have bits : ∀ j, (Nat.land (maskOf ms i) lm).testBit j = true → j < s := fun j hj => by
    have : (Nat.land (maskOf ms i) lm).testBit j = ((maskOf ms i).testBit j && lm.testBit j) := Nat.testBit_and _ _ _
    rw [this, Bool.and_eq_true] at hj
    obtain ⟨b1, hh, b2⟩ := p.louds j hj.2
    exact (I.loud j hh b1 b2).1 (I.ready_mask p hi j hj.1)
  rcases p.stage s I.s_le with ⟨a1, a2, _, a4⟩ | ⟨e, h, a1, a2, a3, a4, _, a6⟩
  · refine ⟨_, over _ _ a1 a2, r1 ?_⟩
    refine Nat.eq_of_testBit_eq fun j => ?_
    rw [Nat.zero_testBit]
    cases hj : (Nat.land (maskOf ms i) lm).testBit j with
    | false => rfl
    | true =>
      have : (Nat.land (maskOf ms i) lm).testBit j = ((maskOf ms i).testBit j && lm.testBit j) := Nat.testBit_and _ _ _
      have h3 := hj
      rw [this, Bool.and_eq_true] at h3
      obtain ⟨b1, hh, b2⟩ := p.louds j h3.2
      exact absurd b2 (a4 j hh (bits j hj))
  · have he : e < ops.size := by have := I.s_le; omega
    refine ⟨_, over _ _ a3 a4, r2 e h he a2 ?_ (Nat.lt_pow_two_of_testBit _ fun j hj => ?_)⟩
    · cases hm : (maskOf ms e).testBit i with
      | false => rfl
      | true => exact absurd (I.cl e he ((I.loud e h he a2).2 a1) i hm) hn
    · cases hb : (Nat.land (maskOf ms i) lm).testBit j with
      | false => rfl
      | true =>
        have h3 := hb
        have : (Nat.land (maskOf ms i) lm).testBit j = ((maskOf ms i).testBit j && lm.testBit j) := Nat.testBit_and _ _ _
        rw [this, Bool.and_eq_true] at h3
        obtain ⟨b1, hh, b2⟩ := p.louds j h3.2
        exact absurd b2 (a6 j hh (by omega) (bits j hb))
theorem noDefer {o : Oper} (h : PureOp P o.op ∨ ReadOp P o.op ∨ mayAlloc o = true) : ∀ c, o.op ≠ .defer c := fun c e => by
  rcases h with h | h | h
  · rw [e] at h; exact h
  · rw [e] at h; exact h
  · unfold mayAlloc at h; rw [e] at h; cases h
/-- ONE STEP: whatever is ready. -/
theorem Inv.step (I : Inv T ops ms ntm G E0 a0 L a w E s) (p : Plan P B call1 ops ms ntm base T lm) (hB : TabOK P B) (hc : ∀ r, CallOK P call1 r) (hno : ∀ k, G.no k → k < base) {ro : Option Nat} {m : Nat} {Q : Exit → Act → World → Prop} {i : Nat} (hi : i ∈ Region.ready .any ops L) :
    wpOpIn (Fw ro) m P ops Q i (fun a w => ∃ E s, Inv T ops ms ntm G E0 a0 (L.setIfInBounds i true) a w E s) a w := by
  obtain ⟨h1, hn, _⟩ := ready_mem I.sz hi
  have ho := getT (ops := ops) h1
  unfold wpOpIn
  rw [← Array.getElem?_toList, ho]
  simp only
  have hs := (p.inv ho).2
  have want : ∀ {b : Bool}, WantIs ops.toList ops[i] (T.tm i) b → Region.wanted ops[i] (yielded ops a.tmps) = b := fun hw => I.want p hi ho hw
  cases hr : T.rw i with
  | off =>
    rw [hr] at hs
    rw [want hs.1, if_neg (by simp)]
    exact ⟨fun _ _ => trivial, E, s, I.quiet p hi ho (fun h x => by rw [hr] at x; cases x) (fun k b x => by rw [hr] at x; cases x) (by rw [hs.2.1]; exact VR.undef E)⟩
  | pure =>
    rw [hr] at hs
    rw [want hs.1, if_pos rfl]
    obtain ⟨v', g1, g2⟩ := hs.2.1 E a.eval w (I.opsR p hi ho)
    exact wpIn_value (noDefer (P := P) (Or.inl hs.2.2.2.2.2.2)) (Or.inl g1) ⟨E, s, I.quiet p hi ho (fun h x => by rw [hr] at x; cases x) (fun k b x => by rw [hr] at x; cases x) g2⟩
  | read tm v =>
    rw [hr] at hs
    rw [want hs.1, if_pos rfl]
    obtain ⟨t, g1, g2⟩ := I.reading p hi ho hr
    obtain ⟨_, rfl, rfl, hk, _⟩ := hs
    obtain ⟨v', g3, g4⟩ := g2 G E a.eval w g1 (I.opsR p hi ho)
    exact wpIn_value (noDefer (Or.inr (Or.inl hk))) (Or.inl g3) ⟨E, s, I.quiet p hi ho (fun h x => by rw [hr] at x; cases x) (fun k b x => by rw [hr] at x; cases x) g4⟩
  | alloc k b =>
    rw [hr] at hs
    rw [want hs.1, if_pos rfl]
    obtain ⟨_, rfl, hl, hm, _⟩ := hs
    have hE : E (base + i) = none := (I.fr.2 _ (Or.inr ⟨i, b, h1, hr, hn⟩)).2
    obtain ⟨v', e, obj, n, g1, g2, g3, g4⟩ := hl.run E a.eval w (I.opsR p hi ho) hE
    exact wpIn_value (noDefer (P := P) (Or.inr (Or.inr hm))) (Or.inl g1) ⟨_, s, I.laid p hno hi ho hr hE g2 g3 g4⟩
  | loud h2 =>
    rw [hr] at hs
    rw [want hs.1, if_pos rfl]
    obtain ⟨_, hx, _, hnx, _⟩ := hs
    obtain ⟨e1, e2⟩ := I.stands p hi hr
    refine op_wp hB (J := never) (fun _ _ h => by cases h) (hc (T.v i, h2)) hx (I.opsR p hi ho) (I.before p hi hr) ?_ ?_
    · have := I.fr
      rw [e1] at this
      exact ⟨this.1, this.2⟩
    · intro v h' E' v' w' hv hle hf hw hvr
      cases hv
      exact ⟨E', i + 1, I.after p hi ho hr hle hw hf hvr⟩
noncomputable def cnt : List Bool → Nat
  | [] => 0
  | true :: r => cnt r
  | false :: r => cnt r + 1
theorem cnt_set : ∀ {l : List Bool} {i : Nat}, l[i]? = some false → cnt (l.set i true) + 1 = cnt l
  | [], i, h => by simp at h
  | b :: l, 0, h => by simp only [List.getElem?_cons_zero, Option.some.injEq] at h; subst h; rfl
  | b :: l, i + 1, h => by
    have := cnt_set (l := l) (i := i) (by simpa using h)
    cases b <;> simp only [List.set_cons_succ, cnt] <;> omega
theorem cnt_zero : ∀ {l : List Bool}, cnt l = 0 → ∀ (i : Nat) b, l[i]? = some b → b = true
  | [], _, i, b, h => by simp at h
  | true :: l, h0, 0, b, h => by simp at h; exact h
  | true :: l, h0, i + 1, b, h => cnt_zero (l := l) h0 i b (by simpa using h)
  | false :: l, h0, i, b, h => by simp [cnt] at h0
/-- ALL THE WAY. -/
theorem Plan.all (p : Plan P B call1 ops ms ntm base T lm) (hB : TabOK P B) (hc : ∀ r, CallOK P call1 r) (hno : ∀ k, G.no k → k < base) {ro : Option Nat} {m : Nat} {Q : Exit → Act → World → Prop}
    (hQ : ∀ L a w E s, Inv T ops ms ntm G E0 a0 L a w E s → (∀ i, i < ops.size → On L i) → Q .normal a w) : ∀ (fuel : Nat) (L : Array Bool) (a : Act) (w : World) (E : Env) (s : Nat), Inv T ops ms ntm G E0 a0 L a w E s → cnt L.toList ≤ fuel →
    wpAnyIn (Fw ro) m P .any ops Q fuel L a w
  | 0, L, a, w, E, s, I, hf => by
    have hall : ∀ i, i < ops.size → On L i := fun i hi => by
      have hi' : i < L.size := by rw [I.sz]; exact hi
      unfold On
      rw [Array.getD_eq_getD_getElem?, Array.getElem?_eq_getElem hi', Option.getD_some]
      exact cnt_zero (Nat.le_zero.1 hf) i _ (by simp [hi'])
    refine ⟨?_, hQ L a w E s I hall⟩
    cases hr : Region.ready .any ops L with
    | nil => rfl
    | cons i l =>
      obtain ⟨h1, h2, _⟩ := ready_mem I.sz (show i ∈ Region.ready .any ops L by rw [hr]; simp)
      exact absurd (hall i h1) h2
  | fuel + 1, L, a, w, E, s, I, hf => by
    refine ⟨fun hr => hQ L a w E s I (ready_all I.sz p.mask hr), fun i hi => ?_⟩
    obtain ⟨h1, h2, _⟩ := ready_mem I.sz hi
    have hi' : i < L.size := by rw [I.sz]; exact h1
    have hfalse : L.toList[i]? = some false := by
      unfold On at h2
      rw [Array.getD_eq_getD_getElem?, Array.getElem?_eq_getElem hi', Option.getD_some] at h2
      simp [hi', h2]
    refine wpOpIn_mono (fun a w ⟨E, s, I'⟩ => Plan.all p hB hc hno hQ fuel _ a w E s I' ?_) (I.step p hB hc hno hi)
    have := cnt_set hfalse
    rw [Array.toList_setIfInBounds]
    omega
theorem cnt_replicate : ∀ n, cnt (List.replicate n false) = n
  | 0 => rfl
  | n + 1 => by rw [List.replicate_succ, cnt, cnt_replicate n]
theorem On.none {n j : Nat} : ¬ On (Array.replicate n false) j := by
  unfold On
  rw [Array.getD_eq_getD_getElem?, Array.getElem?_replicate]
  split <;> simp
theorem stillRows_ok : ∀ {rows : List Row}, stillRows rows = true → (∀ (k : Nat) (row : Row), rows[k]? = some row → (∀ (j : Nat) (b : Blk), row ≠ Row.alloc j b) ∧ ∀ h : Hp, row ≠ Row.loud h) ∧ ∀ i, loudsOf rows i = []
  | [], _ => ⟨fun k row h => by simp at h, fun _ => rfl⟩
  | .off :: rows, h => by
    obtain ⟨h1, h2⟩ := stillRows_ok (rows := rows) h
    exact ⟨fun k row hk => by cases k with | zero => simp at hk; subst hk; exact ⟨fun _ _ e => (by cases e), fun _ e => (by cases e)⟩ | succ k => exact h1 k row (by simpa using hk), fun i => h2 _⟩
  | .pure :: rows, h => by
    obtain ⟨h1, h2⟩ := stillRows_ok (rows := rows) h
    exact ⟨fun k row hk => by cases k with | zero => simp at hk; subst hk; exact ⟨fun _ _ e => (by cases e), fun _ e => (by cases e)⟩ | succ k => exact h1 k row (by simpa using hk), fun i => h2 _⟩
  | .read _ _ :: rows, h => by
    obtain ⟨h1, h2⟩ := stillRows_ok (rows := rows) h
    exact ⟨fun k row hk => by cases k with | zero => simp at hk; subst hk; exact ⟨fun _ _ e => (by cases e), fun _ e => (by cases e)⟩ | succ k => exact h1 k row (by simpa using hk), fun i => h2 _⟩
  | .alloc _ _ :: _, h => by cases h
  | .loud _ :: _, h => by cases h
theorem draw_wp {R : Type} {r : R} (hm : P.follows .mixedOrders = true) (hB : TabOK P B) {call : CallK R} {call1 : CallK (Value × Hp)} (hc : ∀ r, CallOK P call1 r) {ops : Array Oper} {ntm : Nat} {id : Nat} {G : Ctx} {ro : Option Nat} {m : Nat} {Q : Exit → Act → World → Prop} {tm : Ev.T Value} {h : Hp}
    {c : Ev.T Value → Hp → An R} (hq : drawK B call call1 ops.toList ntm tm h c = .ok r) {E : Env} {a : Act} {w : World} (ht : TR E tm ntm a.tmps) (hw : WR G E h.t w) (hf : Fresh G E h.next)
    (hQ : ∀ tm' h' E' a' w', c tm' h' = .ok r → E.le E' → TR E' tm' ntm a'.tmps → WR G E' h'.t w' → Fresh G E' h'.next → a'.defers = a.defers → Q .normal a' w') :
    (Code.region id ops true).wpIn (Fw ro) m P Q a w := by
  unfold drawK at hq
  split at hq
  case h_2 => exact absurd hq err_ok
  rename_i ms hpl
  obtain ⟨p1, p2, p3⟩ := planOf_ok hpl
  rw [fN_eq] at hq
  generalize hnx : Nat.add h.next (match ops.toList.any mayAlloc with | true => ops.toList.length | false => 0) = nx at hq
  obtain ⟨T, t1, t2, t3, t4, t5, t6, rows, hq, t7, t8⟩ := rowsK_ok hB _ _ _ _ _ _ _ _ hq
  simp only [Nat.zero_add] at t6 t8 hq
  have hlen : ops.toList.length = ops.size := by simp
  rw [hlen] at hq t7 t8
  have rowAt : ∀ k row, rows[k]? = some row → k < ops.size ∧ T.rw k = row := fun k row hk => by
    have hkl := (List.getElem?_eq_some_iff.1 hk).1
    rw [t7] at hkl
    rw [t8 k hkl] at hk
    cases hk
    exact ⟨hkl, rfl⟩
  -- whatever order: every reading is the same
  have both : c (T.tm ops.size) ⟨allT (T.cm ops.size) (T.al ops.size) (T.h ops.size).t, (T.h ops.size).next⟩ = .ok r ∧ ∀ (k : Nat) (o : Oper) tm v, ops.toList[k]? = some o → rows[k]? = some (.read tm v) →
      (Nat.land (maskOf ms k) (loudMask (loudsOf rows 0)) = 0 → Quiet P o tm (addT (maskOf ms k) 0 (T.al ops.size) h.t) v) ∧
      ∀ e hh, (e, hh) ∈ loudsOf rows 0 → (maskOf ms e).testBit k = false → Nat.land (maskOf ms k) (loudMask (loudsOf rows 0)) < 2 ^ (e + 1) → Quiet P o tm (addT (maskOf ms k) (maskOf ms e) (T.al ops.size) hh.t) v := by
    split at hq
    · rename_i hst
      obtain ⟨st1, st2⟩ := stillRows_ok hst
      have still : ∀ k, k ≤ ops.size → T.h k = T.h 0 ∧ T.cm k = 0 ∧ T.al k = [] := by
        intro k
        induction k with
        | zero => intro _; exact ⟨rfl, t3, t5⟩
        | succ k ih =>
          intro hk
          obtain ⟨i1, i2, i3⟩ := ih (by omega)
          have hs := (StepP.inv (t6 k _ (getT (by omega)))).2
          have hrow := st1 k _ (t8 k (by omega))
          cases hr : T.rw k with
          | off => rw [hr] at hs; exact ⟨hs.2.2.1.trans i1, hs.2.2.2.1.trans i2, hs.2.2.2.2.2.trans i3⟩
          | pure => rw [hr] at hs; exact ⟨hs.2.2.1.trans i1, hs.2.2.2.1.trans i2, hs.2.2.2.2.2.1.trans i3⟩
          | read tm v => rw [hr] at hs; exact ⟨hs.2.2.2.2.1.trans i1, hs.2.2.2.2.2.1.trans i2, hs.2.2.2.2.2.2.2.1.trans i3⟩
          | alloc k' b => rw [hr] at hrow; exact absurd rfl (hrow.1 k' b)
          | loud h2 => rw [hr] at hrow; exact absurd rfl (hrow.2 h2)
      obtain ⟨e1, e2, e3⟩ := still ops.size (Nat.le_refl _)
      refine ⟨?_, fun k o tm v hk hr => ⟨fun _ => ?_, fun e hh he => ?_⟩⟩
      · rw [e2, e3]
        exact hq
      · obtain ⟨hkl, hrk⟩ := rowAt k _ hr
        have hs := (StepP.inv (t6 k o hk)).2
        rw [hrk] at hs
        obtain ⟨f1, f2, f3⟩ := still k (by omega)
        have hq2 := hs.2.2.2.2.2.2.2.2
        rw [f1, f2, f3, t2] at hq2
        rw [e3]
        have h3 : tm = T.tm k := hs.2.1
        have h4 : v = T.v k := hs.2.2.1
        rw [h3, h4]
        exact hq2
      · rw [st2] at he; cases he
    · rename_i hst
      obtain ⟨hq, r1⟩ := readsK_ok hB (by rw [t7, hlen]) (fun k o tm v hk hr => by
        obtain ⟨_, hr⟩ := rowAt k _ hr
        have := (StepP.inv (t6 k o hk)).2
        rw [hr] at this
        exact this.2.2.2.1) hq
      rw [allK_eq] at hq
      refine ⟨hq, fun k o tm v hk hr => ?_⟩
      have := r1 k o tm v hk hr
      simp only [Nat.zero_add] at this
      exact this
  obtain ⟨hq, r1⟩ := both
  have hbase : h.next ≤ nx := by rw [← hnx]; exact Nat.le_add_right _ _
  have p : Plan P B call1 ops ms ntm h.next T (loudMask (loudsOf rows 0)) := by
    refine ⟨p1, p2, p3, t6, fun j hj => ?_, fun k o tm v hk hr => ?_, fun j k b hj hr => ?_, t4, t3, t5⟩
    · obtain ⟨hh, hj⟩ := loudMask_bit.1 hj
      obtain ⟨k, rfl, hk⟩ := loudsOf_mem.1 hj
      rw [Nat.zero_add]
      obtain ⟨a1, a2⟩ := rowAt k _ hk
      exact ⟨a1, hh, a2⟩
    · have hk' := ltT hk
      have := r1 k o tm v hk (by rw [t8 k hk', hr])
      rw [t2]
      refine ⟨this.1, fun e hh he hre h1 h2 => this.2 e hh ?_ h1 h2⟩
      exact loudsOf_mem.2 ⟨e, by omega, by rw [t8 e he, hre]⟩
    · have hs := (StepP.inv (t6 j _ (getT hj))).2
      rw [hr] at hs
      obtain ⟨_, rfl, _, hma, _⟩ := hs
      rw [t2]
      show h.next + j < nx
      rw [← hnx]
      have hany : ops.toList.any mayAlloc = true := List.any_eq_true.2 ⟨_, List.mem_of_getElem? (getT hj), hma⟩
      rw [hany]
      show h.next + j < h.next + ops.toList.length
      omega
  refine wpIn_region_any hm ?_
  have I : Inv T ops ms ntm G E a (Array.replicate ops.size false) a { w with drawn := w.drawn + 1 } E 0 := by
    refine ⟨by simp, Nat.zero_le _, fun e hh he hr => ⟨fun hon => absurd hon On.none, fun h => by omega⟩, fun i hi hon => absurd hon On.none, ht.size, fun t j o _ _ hon => absurd hon On.none, fun t _ => ?_, ?_, fun j k b _ _ hon => absurd hon On.none,
      fun j k b j' k' b' e e' _ _ hon => absurd hon On.none, ⟨fun k hk => hf.1 k ?_, fun k hk => ?_⟩, Env.le.refl E, rfl⟩
    · rw [t1]; exact ht.eval t
    · rw [t2]; exact hw.drawn _
    · rw [t2] at hk; exact Nat.le_trans hbase hk
    · rcases hk with hk | ⟨j, b, a1, a2, _⟩
      · have := hf.2 k hk
        rw [t2]; exact ⟨Nat.lt_of_lt_of_le this.1 hbase, this.2⟩
      · refine ⟨p.nx j k b a1 a2, hf.1 k ?_⟩
        have := (p.alloc_at a1 a2).1
        omega
  refine p.all hB hc (fun k hk => (hf.2 k hk).1) ?_ ops.size _ a _ E 0 I (by rw [Array.toList_replicate, cnt_replicate]; exact Nat.le_refl _)
  intro L a' w' E' s I' hall
  obtain ⟨s1, s2⟩ := p.same I'.s_le (Nat.le_refl _) fun e hh he hr => ⟨fun _ => he, fun _ => (I'.loud e hh he hr).1 (hall e he)⟩
  refine hQ _ _ E' a' w' hq I'.le ⟨I'.tsz, fun t v' hv' => ?_, p.tm_out (by rw [t1]; exact ht.out)⟩ (I'.overlay p fun k b hk => ?_) (by rw [← s1]; exact I'.fr.weak fun k hk => Or.inl hk) I'.df
  · have hg : a'.tmps.getD t Go.undef = v' := by rw [Array.getD_eq_getD_getElem?, hv', Option.getD_some]
    obtain ⟨g1, g2⟩ := p.tm_at t ops.size (Nat.le_refl _)
    rw [← hg]
    by_cases hwr : ∃ (j : Nat) (q : Oper), ops.toList[j]? = some q ∧ q.dst = some t
    · obtain ⟨j, q, hj, hqd⟩ := hwr
      rw [g1 j q (ltT hj) hj hqd]
      exact I'.t1 t j q hj hqd (hall j (ltT hj))
    · rw [g2 fun j q _ hj hqd => hwr ⟨j, q, hj, hqd⟩]
      exact I'.t2 t fun j q hj hqd => (hwr ⟨j, q, hj, hqd⟩).elim
  · rcases allT_find hk with ⟨j, a1, a2⟩ | hk
    · obtain ⟨b1, b2⟩ := p.al_mem _ (Nat.le_refl _) j k b a1
      exact Or.inl ⟨j, b1, b2, hall j b1, by rw [s2]; exact a2⟩
    · rw [s1]; exact Or.inr hk
end
end Go.Ev
