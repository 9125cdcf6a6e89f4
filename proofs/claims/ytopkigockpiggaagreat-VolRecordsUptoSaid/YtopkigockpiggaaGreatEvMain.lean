/-
  Regions in the text's order; calls as operations.
-/
import Derived.Test.YtopkigockpiggaaGreatEvOp
set_option linter.unusedVariables false
set_option linter.unusedSimpArgs false
namespace Go.Ev
section
variable {R : Type} {P : Program} {B : Tab} {r : R}
/-- the widest fence, in a round or not. -/
noncomputable def Fw (ro : Option Nat) : Fence := { Fence.wide with round := ro }
/-- what a call does. -/
noncomputable def CallOK (P : Program) (call : CallK R) (r : R) : Prop :=
  ∀ fn first args cap h c, call fn first args cap h c = .ok r → ∀ G E w fn' first' args' cap' m ro (Rr : Ending → World → Prop), WR G E h.t w → Fresh G E h.next → FR E fn fn' → LR E first first' → LR E args args' → LR E cap cap' →
    (∀ v h' E' v' w', c v h' = .ok r → E.le E' → Fresh G E' h'.next → WR G E' h'.t w' → VR E' v v' → Rr (.returned v') w') →
    (∃ f, fn' = .func f ∧ (∀ X w, (callFunc f X).run P w = .ok (.enter f X) w) ∧ CallsIn (Fw ro) m P f ⟨first' ++ (args' ++ cap')⟩ w Rr) ∨
    (∃ l f tms as bd, fn' = .yield l ∧ first' = [] ∧ (Instr.yield l ⟨args'⟩).run P w = .ok (.round l f tms as bd) w ∧ RoundIn (Fw ro) m P l f tms as bd w Rr) ∨
    (∃ f v' w', fn' = .func f ∧ (callFunc f ⟨first' ++ (args' ++ cap')⟩).run P w = .ok (.value v') w' ∧ Rr (.returned v') w')
theorem Ops.of {E : Env} {tm : T Value} {n : Nat} {a : Act} (h : TR E tm n a.tmps) (o : Op) : Ops E tm o a.eval := fun x _ => by
  cases x with
  | tmp t => exact h.eval t
  | const v => rfl
  | global g => trivial
  | func f => rfl
theorem wpIn_value {o : Oper} {a : Act} {w w' : World} {v : Value} {ro : Option Nat} {m : Nat} {next : Act → World → Prop} {Q : Exit → Act → World → Prop} (hd : ∀ c, o.op ≠ .defer c)
    (h : (execOp a.eval o).run P w = .ok (.value v) w' ∨ ((execOp a.eval o).run P w = .ok .skip w' ∧ v = Go.undef)) (hn : next (a.put o.dst v) w') : o.wpIn (Fw ro) m P a w next Q := by
  refine ⟨fun _ _ => trivial, ?_⟩
  rw [Oper.semAt_eq _ _ _ hd]
  rcases h with h | ⟨h, rfl⟩
  · rw [h]; exact hn
  · rw [h]; exact hn
/-- a method that is called with the value itself. -/
theorem methK_ok (hB : TabOK P B) {t : TypeId} {mn : String} {c : FuncId → An R} (hq : methK B t mn c = .ok r) :
    ∃ f, c f = .ok r ∧ ∀ (v : Value) (w : World), (method (P.types.size + Made.depth) t v mn).run P w = .ok (f, v) w := by
  unfold methK at hq
  obtain ⟨i, hi, hq⟩ := info_ok hB hq
  split at hq
  case h_2 => exact absurd hq no_ok
  rename_i mt hmt
  split at hq
  case h_2 => exact absurd hq no_ok
  rename_i f pr hp hfn
  obtain ⟨d, hd, hq⟩ := und_ok hB hq
  have hpath : mt.path.toList = [] := by
    have : mt.path = #[] := by simpa using hp
    rw [this]
  split at hq
  case h_2 => exact absurd hq no_ok
  rename_i hrv
  have key : ∀ (v : Value) (wr : Option String) (w : World), (receiverAt t (.val v) pr wr).run P w = .ok v w := by
    intro v wr w
    unfold receiverAt
    simp only [Sem.run_bind, run_underlying hd, Result.andThen_ok]
    cases d <;> cases pr <;> first | rfl | (simp [recvOk] at hrv)
  have hdep : 0 < Made.depth := by decide
  obtain ⟨n, hn⟩ : ∃ n, P.types.size + Made.depth = n + 1 := ⟨P.types.size + (Made.depth - 1), by omega⟩
  refine ⟨f, hq, fun v w => ?_⟩
  rw [hn]
  simp only [method, Sem.run_bind, run_inf hi, Result.andThen_ok, hmt, hpath, follow, Sem.run_pure, hfn, key]
/-- AN OPERATION, WHATEVER IT IS. -/
theorem op_wp (hB : TabOK P B) {J : R → R → Bool} (hJ : JOK J) {call : CallK R} (hc : CallOK P call r) {tm : T Value} {h : Hp} {o : Oper} {c : Value → Hp → An R} (hq : execK B J call tm h o.op o.type c = .ok r)
    {G : Ctx} {E : Env} {a : Act} {w : World} {ro : Option Nat} {m : Nat} {next : Act → World → Prop} {Q : Exit → Act → World → Prop} (ht : Ops E tm o.op a.eval) (hw : WR G E h.t w) (hf : Fresh G E h.next)
    (hn : ∀ v h' E' v' w', c v h' = .ok r → E.le E' → Fresh G E' h'.next → WR G E' h'.t w' → VR E' v v' → next (a.put o.dst v') w') : o.wpIn (Fw ro) m P a w next Q := by
  have hd : ∀ c, o.op ≠ .defer c := fun cc e => by
    rw [e] at hq; simp only [execK, opFn_eq, opFn'] at hq; exact absurd hq no_ok
  cases hk : isCallV o.op with
  | false =>
    obtain ⟨v, h', hq, hdo⟩ := op_does hB hk hq
    obtain ⟨E', v', w', h1, h2, h3, h4, h5⟩ := hdo G E a.eval w hw hf ht
    exact wpIn_value hd h5 (hn v h' E' v' w' hq h1 h2 h3 h4)
  | true =>
    obtain ⟨dst, op, ty, pos, after, guard⟩ := o
    simp only at hk hq hn ht hd
    cases op <;> first | (simp [isCallV] at hk; done) | skip
    case next it isS =>
      simp only [execK, opFn_eq, opFn'] at hq
      split at hq
      case h_2 => exact absurd hq no_ok
      obtain ⟨xv, hq, hx⟩ := opd_ok hq
      obtain ⟨v, h', v', w', h1, h2, h3, h4, h5⟩ := nextsK_ok (P := P) hJ hq G E w ty _ hw (hx E _ (ht it (by simp [Op.operands])))
      exact wpIn_value (fun cc e => by cases e) (Or.inl (isV h3)) (hn v h' E v' w' h1 (Env.le.refl E) (h2 ▸ hf) h4 h5)
    rename_i cl
    obtain ⟨callee, args, ats⟩ := cl
    cases callee <;> first | (simp [isCallV] at hk; done) | skip
    case invoke rv mn =>
      simp only [execK, opFn_eq, opFn'] at hq
      obtain ⟨fv, hq, hfv⟩ := opd_ok hq
      split at hq
      case h_2 => exact absurd hq no_ok
      rename_i t v
      obtain ⟨f, hq, hmeth⟩ := methK_ok hB hq
      obtain ⟨vs, hq, hvs⟩ := opds_ok hq
      have h1 := hfv E _ (ht rv (by simp [Op.operands, Call.operands]))
      obtain ⟨v', hv', e1⟩ := h1.inv_iface
      have h2 := hvs E a.eval (fun y hy => ht y (by simp [Op.operands, Call.operands]; exact Or.inr (by simpa using hy)))
      rcases hc (.func f) [v] vs [] h c hq G E w (.func f) [v'] (args.toList.map a.eval) [] (m - 1) ro (fun
        | .returned v, w'' => next (a.put dst v) w''
        | .panicked chain, w'' => Q (.panic chain) a w''
        | .outgrown, _ => LetsOut Q) hw hf rfl (.cons hv' (LR.nil E)) h2 (LR.nil E) (fun v h' E' v' w' x1 x2 x3 x4 x5 => hn v h' E' v' w' x1 x2 x3 x4 x5) with ⟨fid, e2, hcf, hcall⟩ | ⟨l, fid, tms, as, bd, e2, _⟩ | ⟨fid, v2, w2, e2, hcf, hR⟩
      · cases e2
        refine ⟨fun _ _ => trivial, ?_⟩
        rw [Oper.semAt_eq _ _ _ hd]
        have hex : (execOp a.eval ⟨dst, .call ⟨.invoke rv mn, args, ats⟩, ty, pos, after, guard⟩).run P w = .ok (.enter f ⟨[v'] ++ (args.toList.map a.eval ++ [])⟩) w := by
          simp only [execOp, Sem.run_bind, resolve, Sem.run_pure, Result.andThen_ok, invoke, e1]
          have h0 : ((#[Value.iface t v'] ++ args.map a.eval : Array Value)[0]? : Option Value) = some (.iface t v') := by rw [Array.getElem?_append_left (by simp)]; rfl
          rw [h0]
          simp only [callMethod, Sem.run_bind, run_program, Result.andThen_ok, hmeth v' w]
          rw [hcf]
          congr 2
          apply Array.ext'
          simp
          exact List.take_of_length_le (by simp)
        rw [hex]
        exact ⟨fun hh => (by cases hh), hcall⟩
      · cases e2
      · cases e2
        refine wpIn_value hd (Or.inl ?_) hR
        simp only [execOp, Sem.run_bind, resolve, Sem.run_pure, Result.andThen_ok, invoke, e1]
        have h0 : ((#[Value.iface t v'] ++ args.map a.eval : Array Value)[0]? : Option Value) = some (.iface t v') := by rw [Array.getElem?_append_left (by simp)]; rfl
        rw [h0]
        simp only [callMethod, Sem.run_bind, run_program, Result.andThen_ok, hmeth v' w]
        rw [← hcf]
        congr 2
        apply Array.ext'
        simp
        exact List.take_of_length_le (by simp)
    rename_i f
    simp only [execK, opFn_eq, opFn'] at hq
    obtain ⟨fv, hq, hfv⟩ := opd_ok hq
    split at hq
    case h_2 => exact absurd hq no_ok
    rename_i fn first cap
    obtain ⟨first⟩ := first
    obtain ⟨cap⟩ := cap
    obtain ⟨vs, hq, hvs⟩ := opds_ok hq
    have h1 := hfv E _ (ht f (by simp [Op.operands, Call.operands]))
    obtain ⟨g, first', cap', hfr, hfi, hca, e1⟩ := h1.inv_func
    have h2 := hvs E a.eval (fun y hy => ht y (by simp [Op.operands, Call.operands]; exact Or.inr (by simpa using hy)))
    have hres : ∀ w, (resolve a.eval ⟨.value f, args, ats⟩ ty).run P w = .ok { target := .fn g ⟨cap'⟩, args := ⟨first' ++ args.toList.map a.eval⟩ } w := fun w => by
      simp only [resolve, e1, Deferred.ofValue, Sem.run_pure]
      congr 2
      apply Array.ext'
      simp
    rcases hc fn first vs cap h c hq G E w g first' (args.toList.map a.eval) cap' (m - 1) ro (fun
      | .returned v, w'' => next (a.put dst v) w''
      | .panicked chain, w'' => Q (.panic chain) a w''
      | .outgrown, _ => LetsOut Q) hw hf hfr hfi h2 hca (fun v h' E' v' w' x1 x2 x3 x4 x5 => hn v h' E' v' w' x1 x2 x3 x4 x5) with ⟨fid, rfl, hcf, hcall⟩ | ⟨l, fid, tms, as, bd, rfl, rfl, hy, hround⟩ | ⟨fid, v2, w2, rfl, hcf, hR⟩
    · refine ⟨fun _ _ => trivial, ?_⟩
      rw [Oper.semAt_eq _ _ _ hd]
      have hex : (execOp a.eval ⟨dst, .call ⟨.value f, args, ats⟩, ty, pos, after, guard⟩).run P w = .ok (.enter fid ⟨first' ++ (args.toList.map a.eval ++ cap')⟩) w := by
        simp only [execOp, Sem.run_bind, hres, Result.andThen_ok, invoke]
        rw [hcf]
        congr 2
        apply Array.ext'
        simp
      rw [hex]
      exact ⟨fun hh => (by cases hh), hcall⟩
    · refine ⟨fun _ _ => trivial, ?_⟩
      rw [Oper.semAt_eq _ _ _ hd]
      have hex : (execOp a.eval ⟨dst, .call ⟨.value f, args, ats⟩, ty, pos, after, guard⟩).run P w = .ok (.round l fid tms as bd) w := by
        simp only [execOp, Sem.run_bind, hres, Result.andThen_ok, invoke, List.nil_append]
        exact hy
      rw [hex]
      exact ⟨fun hh => (by cases hh), hround⟩
    · refine wpIn_value hd (Or.inl ?_) hR
      simp only [execOp, Sem.run_bind, hres, Result.andThen_ok, invoke]
      rw [← hcf]
      congr 2
      apply Array.ext'
      simp
theorem VR.bool_inv {E : Env} {x : Value} {b : Bool} (h : VR E x (.bool b)) : x = .bool b := by
  cases h with
  | flat => rfl
  | any _ hb => exact absurd rfl (hb b)
theorem wantedK_ok {ops : Array Oper} {g : Option (Nat × Bool)} {tm : T Value} {c : Bool → An R} (hq : wantedK ops.toList g tm c = .ok r) :
    ∃ b, c b = .ok r ∧ ∀ E n (a : Array Value) (o : Oper), o.guard = g → TR E tm n a → Region.wanted o (yielded ops a) = b := by
  rw [wantedK_eq] at hq
  unfold wantedK' at hq
  split at hq
  · exact ⟨_, hq, fun E n a o ho _ => by simp [Region.wanted, ho]⟩
  · rename_i j want
    have key : ∀ (E : Env) (n : Nat) (a : Array Value) (b : Option Bool), TR E tm n a → (match ops.toList[j]? with
      | some o => (match o.dst with
        | some d => (match tm.find d with | some (.bool b) => some b | _ => none)
        | none => none)
      | none => none) = b → yielded ops a j = b := fun E n a b ht hb => by
      subst hb
      unfold yielded
      rw [Array.getElem?_toList]
      cases hj : ops[j]? with
      | none => simp
      | some o =>
        simp only [Option.bind_some]
        cases hd : o.dst with
        | none => simp
        | some d =>
          simp only [Option.bind_some]
          cases ha : a[d]? with
          | none =>
            have : tmGet tm d = Go.undef := ht.out d (by rw [← ht.size]; exact Array.getElem?_eq_none_iff.1 ha)
            unfold tmGet at this
            cases hf : tm.find d with
            | none => rfl
            | some v => rw [hf] at this; simp only at this; subst this; rfl
          | some v =>
            have hv := ht.val d v ha
            unfold tmGet at hv
            cases hf : tm.find d with
            | none =>
              rw [hf] at hv
              simp only at hv
              cases v <;> first | rfl | (have := hv.bool_inv; simp [Go.undef] at this)
            | some u =>
              rw [hf] at hv
              simp only at hv
              cases u with
              | bool b => rw [hv.inv_bool]
              | _ => all_goals (cases v <;> first | rfl | (have := hv.bool_inv; cases this))
    split at hq
    · rename_i o ho
      split at hq
      · rename_i d hd
        split at hq
        · rename_i b hb
          refine ⟨_, hq, fun E n a o' ho' ht => ?_⟩
          have := key E n a (some b) ht (by rw [ho]; simp only [hd, hb])
          simp only [Region.wanted, ho', this]
          cases b <;> cases want <;> rfl
        · rename_i hb
          refine ⟨_, hq, fun E n a o' ho' ht => ?_⟩
          have := key E n a none ht (by rw [ho]; simp only [hd])
          simp only [Region.wanted, ho', this]
          rfl
      · rename_i hd
        refine ⟨_, hq, fun E n a o' ho' ht => ?_⟩
        have := key E n a none ht (by rw [ho]; simp only [hd])
        simp only [Region.wanted, ho', this]
        rfl
    · rename_i ho
      refine ⟨_, hq, fun E n a o' ho' ht => ?_⟩
      have := key E n a none ht (by rw [ho])
      simp only [Region.wanted, ho', this]
      rfl
theorem putTm_ok {tm : T Value} {d : Option Tmp} {ntm : Nat} {v : Value} {c : T Value → An R} (hq : putTm tm d ntm v c = .ok r) :
    ∃ tm', c tm' = .ok r ∧ ∀ E (a : Act) v', TR E tm ntm a.tmps → VR E v v' → TR E tm' ntm (a.put d v').tmps ∧ (a.put d v').defers = a.defers := by
  rw [putTm_eq] at hq
  unfold putTm' at hq
  split at hq
  · exact ⟨_, hq, fun E a v' h _ => ⟨h, rfl⟩⟩
  · rename_i d
    split at hq
    case h_2 => exact absurd hq no_ok
    rename_i hd
    have hd : d < ntm := Nat.le_of_ble_eq_true hd
    rw [T.putK_eq] at hq
    exact ⟨_, hq, fun E a v' h hv => ⟨h.put d hd hv, rfl⟩⟩
theorem ops_wp (hB : TabOK P B) {J : R → R → Bool} (hJ : JOK J) {call : CallK R} (hc : CallOK P call r) {ops : Array Oper} {ntm : Nat} {G : Ctx} {ro : Option Nat} {m : Nat} {Q : Exit → Act → World → Prop} : ∀ (rest : List Oper) (i : Nat) (tm : T Value) (h : Hp) (c : T Value → Hp → An R),
    (∀ j : Nat, j < rest.length → ops[i + j]? = rest[j]?) → opsK B J call ops.toList ntm rest tm h c = .ok r → ∀ (E : Env) (a : Act) (w : World), TR E tm ntm a.tmps → WR G E h.t w → Fresh G E h.next →
    (∀ tm' h' E' a' w', c tm' h' = .ok r → E.le E' → TR E' tm' ntm a'.tmps → WR G E' h'.t w' → Fresh G E' h'.next → a'.defers = a.defers → Q .normal a' w') →
    wpOpsIn (Fw ro) m P ops Q (List.range' i rest.length) a w
  | [], i, tm, h, c, _, hq, E, a, w, ht, hw, hf, hQ => hQ tm h E a w hq (Env.le.refl E) ht hw hf rfl
  | o :: rest, i, tm, h, c, hops, hq, E, a, w, ht, hw, hf, hQ => by
    rw [opsK_cons] at hq
    have ho : ops[i]? = some o := by have := hops 0 (by simp); simpa using this
    have hnext : ∀ j : Nat, j < rest.length → ops[i + 1 + j]? = rest[j]? := fun j hj => by
      have := hops (j + 1) (by simpa using hj)
      rw [show i + (j + 1) = i + 1 + j by omega] at this
      simpa using this
    simp only [List.length_cons, List.range'_succ, wpOpsIn, ho]
    obtain ⟨b, hq, hb⟩ := wantedK_ok hq
    rw [hb E ntm a.tmps o rfl ht]
    cases b with
    | true =>
      simp only at hq
      rw [if_pos rfl]
      refine op_wp hB hJ hc hq (Ops.of ht o.op) hw hf (fun v h' E' v' w' h1 h2 h3 h4 h5 => ?_)
      obtain ⟨tm', h1, h6⟩ := putTm_ok h1
      obtain ⟨h7, h8⟩ := h6 E' a v' (ht.mono h2) h5
      exact ops_wp hB hJ hc rest (i + 1) tm' h' c hnext h1 E' _ w' h7 h4 h3 (fun tm'' h'' E'' a'' w'' x1 x2 x3 x4 x5 x6 => hQ tm'' h'' E'' a'' w'' x1 (h2.trans x2) x3 x4 x5 (x6.trans h8))
    | false =>
      simp only at hq
      rw [if_neg (by simp)]
      refine ⟨fun _ _ => trivial, ?_⟩
      obtain ⟨tm', h1, h6⟩ := putTm_ok hq
      obtain ⟨h7, h8⟩ := h6 E a Go.undef ht (VR.undef E)
      exact ops_wp hB hJ hc rest (i + 1) tm' h c hnext h1 E _ w h7 hw hf (fun tm'' h'' E'' a'' w'' x1 x2 x3 x4 x5 x6 => hQ tm'' h'' E'' a'' w'' x1 x2 x3 x4 x5 (x6.trans h8))
end
end Go.Ev
