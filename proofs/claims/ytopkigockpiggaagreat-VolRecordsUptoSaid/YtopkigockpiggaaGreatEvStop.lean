/-
  The evaluator, that stops at calls, loops and drawn regions: for walks with unknown values. (The stops are variables there: so neither Lean nor its kernel runs on behind them.)
-/
import Derived.Test.YtopkigockpiggaaGreatEvSym
set_option linter.unusedVariables false
set_option linter.unusedSimpArgs false
namespace Go.Ev
structure Stops where
  E : (R : Type) → (R → R → Bool) → Nat → FuncId → List Value → Hp → (Value → Hp → An R) → An R
  W : (R : Type) → (R → R → Bool) → Nat → Code → St → (Exit → St → An R) → An R
  D : (R : Type) → CallK R → CallK (Value × Hp) → List Oper → Nat → T Value → Hp → (T Value → Hp → An R) → An R
  X : (R : Type) → CallK R → CallK (Value × Hp) → List Oper → T Nat → Nat → Nat → List Oper → Nat → T Value → Hp → Nat → Option Nat → List Al → (List Row → T Value → Hp → Nat → List Al → An R) → An R
  B2 : (R : Type) → BinOp → TypeId → Value → Value → Hp → (Value → An R) → An R
  EV : (R : Type) → (R → R → Bool) → Nat → Code → St → (Exit → St → An R) → An R
  BK : (R : Type) → Value → (Unit → An R) → (Unit → An R) → An R
  CV : (R : Type) → TypeId → TypeId → Value → Hp → (Value → Hp → An R) → An R
variable (B : Tab)
/-- they are what they stand for. -/
structure Stops.Real (S : Stops) : Prop where
  E : ∀ R J n f l h c, S.E R J n f l h c = enterK B (ev B n R J) f l h c
  W : ∀ R J n b st K, S.W R J n b st K = ev B n R J (.loop b) st K
  D : ∀ R call call1 ops ntm tm h c, S.D R call call1 ops ntm tm h c = drawK B call call1 ops ntm tm h c
  X : ∀ R call call1 all ms ntm base l i tm h cm last als c, S.X R call call1 all ms ntm base l i tm h cm last als c = rowsK B call call1 all ms ntm base l i tm h cm last als c
  B2 : ∀ R op t x y h c, S.B2 R op t x y h c = binK B op t x y h c
  EV : ∀ R J n c st K, S.EV R J n c st K = ev B n R J c st K
  BK : ∀ R v a b, S.BK R v a b = boolK v a b
  CV : ∀ R s d x h c, S.CV R s d x h c = convK B s d x h c
noncomputable def stops : Stops := ⟨fun R J n f l h c => enterK B (ev B n R J) f l h c, fun R J n b st K => ev B n R J (.loop b) st K, fun R call call1 ops ntm tm h c => drawK B call call1 ops ntm tm h c,
  fun R call call1 all ms ntm base l i tm h cm last als c => rowsK B call call1 all ms ntm base l i tm h cm last als c, fun R op t x y h c => binK B op t x y h c, fun R J n c st K => ev B n R J c st K, fun R v a b => boolK v a b, fun R s d x h c => convK B s d x h c⟩
theorem stops_real : (stops B).Real B := ⟨fun _ _ _ _ _ _ _ => rfl, fun _ _ _ _ _ _ => rfl, fun _ _ _ _ _ _ _ _ => rfl, fun _ _ _ _ _ _ _ _ _ _ _ _ _ _ _ => rfl, fun _ _ _ _ _ _ _ => rfl, fun _ _ _ _ _ _ => rfl, fun _ _ _ _ => rfl, fun _ _ _ _ _ _ => rfl⟩
section
variable {R : Type} (S : Stops)
noncomputable def callS (ev : EvK R) (J : R → R → Bool) (n : Nat) : CallK R := fun fn first args cap h c =>
  match fn with
  | .func f => (match B.ext.contains f with
   | true => cloneK (first ++ (args ++ cap)) h c
   | false => match B.ins.contains f, first, args, cap with
    | true, [], [s, i, v], [] => (match B.fn.find f with
      | some fd => (match fd.params.toList with | [sT, _, _] => insertK B sT s i v h c | _ => no 101)
      | none => no 102)
    | true, [], [x], [] => memoK B f x h c
    | true, [], [], [] => tellK B f [] h c
    | true, [], [x, y], [] => tellR B f [x, y] h c
    | _, _, _, _ => S.E R J n f (first ++ (args ++ cap)) h c)
  | .yield l => (match first, cap with | [], [] => roundK ev l args h c | _, _ => no 107)
  | _ => no 108
theorem callS_eq (hS : S.Real B) (J : R → R → Bool) (n : Nat) : callS B S (ev B n R J) J n = callK B (ev B n R J) := by
  funext fn first args cap h c
  unfold callS callK
  simp only [hS.E]
  rfl
noncomputable def execS (J : R → R → Bool) (call : CallK R) (tm : T Value) (h : Hp) (o : Op) (ty : TypeId) (c : Value → Hp → An R) : An R :=
  match o with
  | .binOp op t x y _ => opd tm x fun x => opd tm y fun y => S.B2 R op t x y h fun v => c v h
  | .convert s d x => opd tm x fun x => S.CV R s d x h c
  | o => execK B J call tm h o ty c
theorem execS_eq (hS : S.Real B) (J : R → R → Bool) (call : CallK R) (tm : T Value) (h : Hp) (o : Op) (ty : TypeId) (c : Value → Hp → An R) : execS B S J call tm h o ty c = execK B J call tm h o ty c := by
  unfold execS
  cases o <;> first | rfl | (simp only [hS.B2, hS.CV]; rfl)
noncomputable def opsS (J : R → R → Bool) (call : CallK R) (all : List Oper) (ntm : Nat) : List Oper → T Value → Hp → (T Value → Hp → An R) → An R
  | [], tm, h, c => c tm h
  | o :: r, tm, h, c => wantedK all o.guard tm fun w => match w with
    | true => execS B S J call tm h o.op o.type fun v h => putTm tm o.dst ntm v fun tm => opsS J call all ntm r tm h c
    | false => putTm tm o.dst ntm undef fun tm => opsS J call all ntm r tm h c
theorem opsS_eq (hS : S.Real B) (J : R → R → Bool) (call : CallK R) (all : List Oper) (ntm : Nat) : ∀ (l : List Oper) (tm : T Value) (h : Hp) (c : T Value → Hp → An R), opsS B S J call all ntm l tm h c = opsK B J call all ntm l tm h c
  | [], tm, h, c => rfl
  | o :: r, tm, h, c => by
    rw [opsK_cons]
    unfold opsS
    congr 1
    funext w
    cases w with
    | true =>
      show execS B S J call tm h o.op o.type _ = _
      rw [execS_eq B S hS]
      congr 1
      funext v h
      congr 1
      funext tm
      exact opsS_eq hS J call all ntm r tm h c
    | false =>
      show putTm _ _ _ _ _ = _
      congr 1
      funext tm
      exact opsS_eq hS J call all ntm r tm h c
theorem EV_fun (hS : S.Real B) (J : R → R → Bool) (n : Nat) : S.EV R J n = ev B n R J := by
  funext c st K
  exact hS.EV _ _ _ _ _ _
section steps
variable {n : Nat} {J : R → R → Bool} {st : St} {K : Exit → St → An R} {a b : Code} {id : Nat} {ops : Array Oper} {tm : T Value} {hp : Hp} {ntm : Nat} {fn : FuncId} {round : Option Nat} {defers : List Nat}
theorem V_skip (hS : S.Real B) : S.EV R J (n + 1) .skip st K = K .normal st := by rw [hS.EV, ev_succ, evFn_eq]; rfl
theorem V_seq (hS : S.Real B) : S.EV R J (n + 1) (.seq a b) st K = S.EV R J n a st fun e st => match e with | .normal => S.EV R J n b st K | e => K e st := by
  rw [hS.EV, ev_succ, evFn_eq, EV_fun B S hS]; rfl
theorem V_cond (hS : S.Real B) {c : Operand} : S.EV R J (n + 1) (.cond c a b) st K = opd st.tm c fun v => S.BK R v (fun _ => S.EV R J n a st K) (fun _ => S.EV R J n b st K) := by
  rw [hS.EV, ev_succ, evFn_eq, EV_fun B S hS]; simp only [hS.BK]; rfl
theorem V_block (hS : S.Real B) : S.EV R J (n + 1) (.block id b) st K = S.EV R J n b st fun e st => match e with | .exit j => (match Nat.beq j id with | true => K .normal st | false => K (.exit j) st) | e => K e st := by
  rw [hS.EV, ev_succ, evFn_eq, EV_fun B S hS]; rfl
theorem V_loop (hS : S.Real B) : S.EV R J (n + 1) (.loop b) st K = S.W R J (n + 1) b st K := by rw [hS.EV, hS.W]
theorem V_exit (hS : S.Real B) : S.EV R J (n + 1) (.exit id) st K = K (.exit id) st := by rw [hS.EV, ev_succ, evFn_eq]; rfl
theorem V_ret (hS : S.Real B) : S.EV R J (n + 1) .ret st K = K .ret st := by rw [hS.EV, ev_succ, evFn_eq]; rfl
theorem V_reg (hS : S.Real B) : S.EV R J (n + 1) (.region id ops false) ⟨tm, hp, ntm, fn, round, defers⟩ K = opsS B S J (callS B S (S.EV R J n) J n) ops.toList ntm ops.toList tm hp fun tm h => K .normal ⟨tm, h, ntm, fn, round, defers⟩ := by
  rw [hS.EV, ev_succ, evFn_eq, EV_fun B S hS, callS_eq B S hS, opsS_eq B S hS]; rfl
theorem V_draw (hS : S.Real B) : S.EV R J (n + 1) (.region id ops true) ⟨tm, hp, ntm, fn, round, defers⟩ K =
    S.D R (callS B S (S.EV R J n) J n) (callS B S (S.EV (Value × Hp) never n) never n) ops.toList ntm tm hp fun tm h => K .normal ⟨tm, h, ntm, fn, round, defers⟩ := by
  rw [hS.EV, ev_succ, evFn_eq, EV_fun B S hS, EV_fun B S hS, callS_eq B S hS, callS_eq B S hS, hS.D]; rfl
end steps
noncomputable def enterS (J : R → R → Bool) (n : Nat) (f : FuncId) (vs : List Value) (h : Hp) (c : Value → Hp → An R) : An R :=
  match B.fn.find f with
  | some fd => (match fd.body with
    | some b => match Nat.ble vs.length fd.ntmps with
      | true => initTm vs 0 (fullT (depthOf fd.ntmps)) fun tm => S.EV R J n b ⟨tm, h, fd.ntmps, f, none, []⟩ fun e st => match e with
        | .normal | .ret => popK st.defers st.hp fun h => resultK B fd.results.toList st.tm h fun l => tupleK l fun v => c v h
        | _ => no 103
      | false => no 115
    | none => no (1000 + f))
  | none => no (1000 + f)
theorem enterS_eq (hS : S.Real B) (J : R → R → Bool) (n : Nat) (f : FuncId) (vs : List Value) (h : Hp) (c : Value → Hp → An R) : enterS B S J n f vs h c = enterK B (ev B n R J) f vs h c := by
  unfold enterS enterK
  rw [EV_fun B S hS]
  rfl
end
/-- how a walk begins. -/
theorem runs_of {f : FuncId} {l : List Value} {h : Hp} {v : Value} {h' : Hp} (N : Nat) (hq : ∀ (S : Stops), S.Real B → ∀ m, N ≤ m → ∀ (R : Type) (J : R → R → Bool) (c : Value → Hp → An R), enterS B S J (m + 60) f l h c = c v h') : Runs B f l h v h' := by
  refine ⟨N + 60, fun n hn R J c => ?_⟩
  obtain ⟨m, rfl⟩ : ∃ m, n = m + 60 := ⟨n - 60, by omega⟩
  rw [← enterS_eq B (stops B) (stops_real B)]
  exact hq (stops B) (stops_real B) m (by omega) R J c
section
variable {B} {S : Stops} {R : Type}
theorem S_draw (hS : S.Real B) {call : CallK R} {call1 : CallK (Value × Hp)} {ops : List Oper} {ntm : Nat} {tm : T Value} {h : Hp} {c : T Value → Hp → An R} (hp : planB ops = true) (ha : ops.any mayAlloc = false) :
    S.D R call call1 ops ntm tm h c = S.X R call call1 ops (planMs ops) ntm h.next ops 0 tm h 0 none [] fun rows tm' h' cm als =>
          match stillRows rows with
          | true => c tm' h'
          | false => readsK B call (planMs ops) h (loudsOf rows 0) (loudMask (loudsOf rows 0)) als rows ops 0 <|
            allK cm als h'.t fun t => c tm' ⟨t, h'.next⟩ := by
  rw [hS.D, draw_eq hp ha, hS.X]
  rfl
theorem draw_eq2 {call : CallK R} {call1 : CallK (Value × Hp)} {ops : List Oper} {ntm : Nat} {tm : T Value} {h : Hp} {c : T Value → Hp → An R} (hp : planB ops = true) (ha : ops.any mayAlloc = true) :
    drawK B call call1 ops ntm tm h c = rowsK B call call1 ops (planMs ops) ntm h.next ops 0 tm ⟨h.t, h.next + ops.length⟩ 0 none [] fun rows tm' h' cm als =>
          match stillRows rows with
          | true => c tm' h'
          | false => readsK B call (planMs ops) ⟨h.t, h.next + ops.length⟩ (loudsOf rows 0) (loudMask (loudsOf rows 0)) als rows ops 0 <|
            allK cm als h'.t fun t => c tm' ⟨t, h'.next⟩ := by
  cases hm : planOf ops with
  | ok ms =>
    have : planMs ops = ms := by unfold planMs; rw [hm]
    rw [this]
    unfold drawK
    rw [hm]
    simp only [fN_eq, ha]
    rfl
  | error x =>
    unfold planB at hp
    rw [hm] at hp
    cases hp
/-- does it call? -/
noncomputable def callsB (ops : List Oper) : Bool := ops.any fun o => match o.op with | .call cl => (match cl.callee with | .builtin _ => false | _ => true) | _ => false
theorem S_draw0 (hS : S.Real B) {call : CallK R} {call1 : CallK (Value × Hp)} {ops : List Oper} {ntm : Nat} {tm : T Value} {h : Hp} {c : T Value → Hp → An R} (hc : callsB ops = false) (hp : planB ops = true) (ha : ops.any mayAlloc = false) :
    S.D R call call1 ops ntm tm h c = S.X R call call1 ops (planMs ops) ntm h.next ops 0 tm h 0 none [] fun rows tm' h' cm als =>
          match stillRows rows with
          | true => c tm' h'
          | false => readsK B call (planMs ops) h (loudsOf rows 0) (loudMask (loudsOf rows 0)) als rows ops 0 <|
            allK cm als h'.t fun t => c tm' ⟨t, h'.next⟩ := S_draw hS hp ha
/-- .. whose masks are these. -/
theorem S_drawP (hS : S.Real B) (P : T Nat) {call : CallK R} {call1 : CallK (Value × Hp)} {ops : List Oper} {ntm : Nat} {tm : T Value} {h : Hp} {c : T Value → Hp → An R} (hp : planB ops = true) (ha : ops.any mayAlloc = false) (hP : planMs ops = P) :
    S.D R call call1 ops ntm tm h c = S.X R call call1 ops P ntm h.next ops 0 tm h 0 none [] fun rows tm' h' cm als =>
          match stillRows rows with
          | true => c tm' h'
          | false => readsK B call P h (loudsOf rows 0) (loudMask (loudsOf rows 0)) als rows ops 0 <|
            allK cm als h'.t fun t => c tm' ⟨t, h'.next⟩ := by
  rw [← hP]
  exact S_draw hS hp ha
theorem S_draw2 (hS : S.Real B) {call : CallK R} {call1 : CallK (Value × Hp)} {ops : List Oper} {ntm : Nat} {tm : T Value} {h : Hp} {c : T Value → Hp → An R} (hp : planB ops = true) (ha : ops.any mayAlloc = true) :
    S.D R call call1 ops ntm tm h c = S.X R call call1 ops (planMs ops) ntm h.next ops 0 tm ⟨h.t, h.next + ops.length⟩ 0 none [] fun rows tm' h' cm als =>
          match stillRows rows with
          | true => c tm' h'
          | false => readsK B call (planMs ops) ⟨h.t, h.next + ops.length⟩ (loudsOf rows 0) (loudMask (loudsOf rows 0)) als rows ops 0 <|
            allK cm als h'.t fun t => c tm' ⟨t, h'.next⟩ := by
  rw [hS.D, draw_eq2 hp ha, hS.X]
/-- what comes of a call, looked at. -/
noncomputable def okK (x : An (Value × Hp)) (f : Value → Hp → An R) : An R := match x with | .ok (v, h2) => f v h2 | .error e => .error e
theorem ok_t {x : An (Value × Hp)} {v : Value} {h2 : Hp} (hx : x = .ok (v, h2)) (f : Value → Hp → An R) : okK x f = f v h2 := by subst hx; rfl
section
variable {call : CallK R} {ms : T Nat} {h0 : Hp} {louds : List (Nat × Hp)} {lm : Nat} {als : List Al} {rows : List Row} {o : Oper} {ops : List Oper} {i bits e : Nat} {c : An R} {tm : T Value} {v : Value} {h : Hp} {r : List (Nat × Hp)}
theorem reads_nil : readsK B call ms h0 louds lm als [] ops i c = c := by cases ops <;> rfl
theorem reads_off : readsK B call ms h0 louds lm als (.off :: rows) (o :: ops) i c = readsK B call ms h0 louds lm als rows ops (Nat.succ i) c := rfl
theorem reads_pure : readsK B call ms h0 louds lm als (.pure :: rows) (o :: ops) i c = readsK B call ms h0 louds lm als rows ops (Nat.succ i) c := rfl
theorem reads_alloc {k : Nat} {b : Blk} : readsK B call ms h0 louds lm als (.alloc k b :: rows) (o :: ops) i c = readsK B call ms h0 louds lm als rows ops (Nat.succ i) c := rfl
theorem reads_loud : readsK B call ms h0 louds lm als (.loud h :: rows) (o :: ops) i c = readsK B call ms h0 louds lm als rows ops (Nat.succ i) c := rfl
theorem reads_0 (hb : Nat.beq (Nat.land (maskOf ms i) lm) 0 = true) : readsK B call ms h0 louds lm als (.read tm v :: rows) (o :: ops) i c =
    againK B call (maskOf ms i) 0 tm o v als h0 (stagesK B call ms i (Nat.land (maskOf ms i) lm) tm o v als louds (readsK B call ms h0 louds lm als rows ops (Nat.succ i) c)) := by
  conv => lhs; unfold readsK
  rw [fN_eq, hb]
theorem reads_1 (hb : Nat.beq (Nat.land (maskOf ms i) lm) 0 = false) : readsK B call ms h0 louds lm als (.read tm v :: rows) (o :: ops) i c =
    stagesK B call ms i (Nat.land (maskOf ms i) lm) tm o v als louds (readsK B call ms h0 louds lm als rows ops (Nat.succ i) c) := by
  conv => lhs; unfold readsK
  rw [fN_eq, hb]
theorem reads_lm (L : Nat) {a : Nat} (h : a = L) : readsK B call ms h0 louds a als rows ops i c = readsK B call ms h0 louds L als rows ops i c := by rw [h]
theorem stages_nil : stagesK B call ms i bits tm o v als [] c = c := rfl
theorem stages_yes (h1 : Nat.testBit (maskOf ms e) i = false) (h2 : Nat.blt bits (Nat.shiftLeft 1 (Nat.succ e)) = true) : stagesK B call ms i bits tm o v als ((e, h) :: r) c =
    againK B call (maskOf ms i) (maskOf ms e) tm o v als h (stagesK B call ms i bits tm o v als r c) := by
  conv => lhs; unfold stagesK
  rw [h1, h2]
theorem stages_no (h1 : (!(Nat.testBit (maskOf ms e) i) && Nat.blt bits (Nat.shiftLeft 1 (Nat.succ e))) = false) : stagesK B call ms i bits tm o v als ((e, h) :: r) c = stagesK B call ms i bits tm o v als r c := by
  conv => lhs; unfold stagesK
  cases e1 : Nat.testBit (maskOf ms e) i with
  | true => rfl
  | false =>
    cases e2 : Nat.blt bits (Nat.shiftLeft 1 (Nat.succ e)) with
    | true => rw [e1, e2] at h1; cases h1
    | false => rfl
/-- alike? -/
noncomputable def eqvK (x y : Value) (c : An R) : An R := match eqV x y with | true => c | false => no 120
theorem eqv_t {x y : Value} (h : eqV x y = true) (c : An R) : eqvK x y c = c := by unfold eqvK; rw [h]
theorem eqV_str (l : List UInt8) : eqV (.string ⟨⟨l⟩⟩) (.string ⟨⟨l⟩⟩) = true := by simp [eqV, eqS, eq0]
theorem eqV_int (k : IntKind) (n : Int) : eqV (.int k n) (.int k n) = true := by simp [eqV, eqS, eq0]
theorem eqV_bool (b : Bool) : eqV (.bool b) (.bool b) = true := by simp [eqV, eqS, eq0]
/-- a reading again. -/
theorem again_s (hS : S.Real B) {m cm : Nat} : againK B call m cm tm o v [] h c = execS B S never call tm ⟨h.t, h.next⟩ o.op o.type fun v' _ => eqvK v v' c := by
  rw [execS_eq B S hS]
  rfl
end
/-- one call behind the other. -/
noncomputable def lastK (b : Bool) (x : An R) : An R := match b with | true => x | false => no 123
theorem last_t {b : Bool} (h : b = true) (x : An R) : lastK b x = x := by subst h; rfl
theorem S_nil (hS : S.Real B) {call : CallK R} {call1 : CallK (Value × Hp)} {all : List Oper} {ms : T Nat} {ntm base i : Nat} {tm : T Value} {h : Hp} {cm : Nat} {last : Option Nat} {als : List Al} {c : List Row → T Value → Hp → Nat → List Al → An R} :
    S.X R call call1 all ms ntm base [] i tm h cm last als c = c [] tm h cm als := by rw [hS.X]; rfl
/-- the names do not go back. -/
noncomputable def leK (a b : Nat) (x : An R) : An R := match Nat.ble a b with | true => x | false => no 126
theorem le_t {a b : Nat} (h : a ≤ b) (x : An R) : leK a b x = x := by unfold leK; rw [ble_tt h]
theorem S_cons (hS : S.Real B) {call : CallK R} {call1 : CallK (Value × Hp)} {all : List Oper} {ms : T Nat} {ntm base i : Nat} {tm : T Value} {h : Hp} {cm : Nat} {last : Option Nat} {als : List Al} {c : List Row → T Value → Hp → Nat → List Al → An R} {o : Oper} {r : List Oper} :
    S.X R call call1 all ms ntm base (o :: r) i tm h cm last als c = wantedK all o.guard tm fun w => match w with
    | false => putTm tm o.dst ntm undef fun tm => S.X R call call1 all ms ntm base r (Nat.succ i) tm h cm last als fun rows => c (.off :: rows)
    | true => clsK B o.op fun k => match k with
      | .pure => execS B S never call tm h o.op o.type fun v _ => putTm tm o.dst ntm v fun tm => S.X R call call1 all ms ntm base r (Nat.succ i) tm h cm last als fun rows => c (.pure :: rows)
      | .read => addK (maskOf ms i) cm als h.t fun t => execS B S never call tm ⟨t, h.next⟩ o.op o.type fun v _ =>
          putTm tm o.dst ntm v fun tm' => S.X R call call1 all ms ntm base r (Nat.succ i) tm' h cm last als fun rows => c (.read tm v :: rows)
      | .alloc => fN (Nat.add base i) fun k => execS B S never call tm ⟨.nil, k⟩ o.op o.type fun v h' => match h'.t.find k with
          | some b => putTm tm o.dst ntm v fun tm => S.X R call call1 all ms ntm base r (Nat.succ i) tm h cm last ((i, k, b) :: als) fun rows => c (.alloc k b :: rows)
          | none => no 122
      | .loud => lastK (match last with | none => true | some e => Nat.testBit (maskOf ms i) e) (addK (maskOf ms i) cm als h.t fun t => okK (execS B S never call1 tm ⟨t, h.next⟩ o.op o.type (fun v h2 => .ok (v, h2))) fun v h2 =>
          leK h.next h2.next (putTm tm o.dst ntm v fun tm => S.X R call call1 all ms ntm base r (Nat.succ i) tm h2 (maskOf ms i) (some i) als fun rows => c (.loud h2 :: rows))) := by
  rw [hS.X, rows_cons]
  simp only [hS.X, execS_eq B S hS]
  rfl
theorem b2 (hS : S.Real B) {op : BinOp} {t : TypeId} {x y : Value} {h : Hp} {c : Value → An R} {r : An R} (e : binK B op t x y h c = r) : S.B2 R op t x y h c = r := (hS.B2 _ _ _ _ _ _ _).trans e
theorem bk (hS : S.Real B) {v : Value} {a b : Unit → An R} {r : An R} (e : boolK v a b = r) : S.BK R v a b = r := (hS.BK _ _ _ _).trans e
theorem cv (hS : S.Real B) {s d : TypeId} {x : Value} {h : Hp} {c : Value → Hp → An R} {r : An R} (e : convK B s d x h c = r) : S.CV R s d x h c = r := (hS.CV _ _ _ _ _ _).trans e
theorem S_loop (hS : S.Real B) {J : R → R → Bool} {n : Nat} {b : Code} {st : St} {K : Exit → St → An R} :
    S.W R J (n + 1) b st K = S.EV R J n b st fun e st => match e with | .normal => S.W R J n b st K | e => K e st := by
  rw [hS.W, ev_succ, evFn_eq, hS.EV]
  simp only [hS.W]
  rfl
theorem S_call (hS : S.Real B) {J : R → R → Bool} {n : Nat} {f : FuncId} {l : List Value} {h : Hp} {c : Value → Hp → An R} {v : Value} {h' : Hp} (hr : ∀ (R : Type) (J : R → R → Bool) (c : Value → Hp → An R), enterK B (ev B n R J) f l h c = c v h') :
    S.E R J n f l h c = c v h' := by rw [hS.E]; exact hr R J c
end
end Go.Ev
set_option linter.unusedVariables false
namespace Go.Ev
/-- all temporaries are there. -/
noncomputable def isFull : Nat → T Value → Bool
  | 0, .nil => true
  | d + 1, .node l (some _) r => isFull d l && isFull d r
  | _, _ => false
noncomputable def ofFun : Nat → (Nat → Value) → T Value
  | 0, _ => .nil
  | d + 1, f => .node (ofFun d fun i => f (2 * i + 1)) (some (f 0)) (ofFun d fun i => f (2 * i + 2))
noncomputable def look (g : Nat → Value) : List (Nat × Value) → Nat → Value
  | [], i => g i
  | (k, v) :: r, i => match Nat.beq k i with | true => v | false => look g r i
theorem full_of : ∀ {d : Nat} {tm : T Value}, isFull d tm = true → tm = ofFun d fun i => (tm.find i).getD undef
  | 0, .nil, _ => rfl
  | 0, .node _ none _, h => by cases h
  | 0, .node _ (some _) _, h => by cases h
  | 0, .shift _ _, h => by cases h
  | d + 1, .nil, h => by cases h
  | d + 1, .node _ none _, h => by cases h
  | d + 1, .shift _ _, h => by cases h
  | d + 1, .node l (some v) r, h => by
    simp only [isFull, Bool.and_eq_true] at h
    have hl := full_of h.1
    have hr := full_of h.2
    unfold ofFun
    congr 1
    · conv => lhs; rw [hl]
      congr 1
      funext i
      show _ = ((T.node l (some v) r).find (2 * i + 1)).getD undef
      rw [T.find_succ, if_pos (by omega)]
      congr 2
      omega
    · conv => lhs; rw [hr]
      congr 1
      funext i
      show _ = ((T.node l (some v) r).find (2 * i + 1 + 1)).getD undef
      rw [T.find_succ, if_neg (by omega)]
      congr 2
      omega
theorem look_same (g : Nat → Value) : ∀ (l : List (Nat × Value)), (∀ p ∈ l, g p.1 = p.2) → g = look g l
  | [], _ => rfl
  | (k, v) :: r, h => by
    funext i
    unfold look
    cases e : Nat.beq k i with
    | true =>
      have := Nat.eq_of_beq_eq_true e
      subst this
      exact h (k, v) (List.mem_cons_self ..)
    | false => exact congrFun (look_same g r fun p hp => h p (List.mem_cons_of_mem _ hp)) i
theorem full_look {d : Nat} {tm : T Value} (hf : isFull d tm = true) (l : List (Nat × Value)) (hl : ∀ p ∈ l, tm.find p.1 = some p.2) : ∃ g, tm = ofFun d (look g l) := by
  refine ⟨fun i => (tm.find i).getD undef, ?_⟩
  rw [← look_same _ l fun p hp => by rw [hl p hp]; rfl]
  exact full_of hf
/-- a loop that was run ahead of the walk. -/
theorem S_run {B : Tab} {S : Stops} (hS : S.Real B) {R : Type} {J : R → R → Bool} {n : Nat} {b : Code} {st : St} {K : Exit → St → An R} {x : An R} (hr : (stops B).W R J n b st K = x) : S.W R J n b st K = x := by
  rw [hS.W]
  exact hr
/-- the loops' bodies, as they stand. -/
noncomputable def loopsOf : Code → List Code
  | .seq a b => loopsOf a ++ loopsOf b
  | .cond _ a b => loopsOf a ++ loopsOf b
  | .block _ b => loopsOf b
  | .loop b => b :: loopsOf b
  | .rangeFunc _ _ a b => loopsOf a ++ loopsOf b
  | _ => []
/-- loop k of a function. -/
noncomputable def loopB (B : Tab) (f : FuncId) (k : Nat) : Code := match B.fn.find f with
  | some fd => (match fd.body with | some c => (match (loopsOf c)[k]? with | some b => b | none => .skip) | none => .skip)
  | none => .skip
end Go.Ev
set_option linter.unusedVariables false
namespace Go.Ev
section
variable {R : Type} {B : Tab} {t : TypeId} {h : Hp} {m n : Nat} {j : IntKind} (c : Value → An R)
theorem wrap_u64 {x : Nat} (hx : x < 18446744073709551616) : IntKind.wrap .u64 (x : Int) = (x : Int) := by
  unfold IntKind.wrap
  simp only [IntKind.bits, IntKind.signed, Bool.false_and]
  rw [if_neg (by simp)]
  omega
theorem shl_n (e : m * 2 ^ n < 18446744073709551616) (f : n < 64) : binK B .shl t (.int .u64 (.ofNat m)) (.int j (.ofNat n)) h c = c (.int .u64 (.ofNat (m * 2 ^ n))) := by
  refine bin_int (v := .int .u64 (.ofNat (m * 2 ^ n))) ?_ (.inl ⟨_, _, rfl⟩) c
  show Op.shift .shl .u64 (Int.ofNat m) j (Int.ofNat n) = _
  unfold Op.shift
  rw [if_neg (by have := Int.natCast_nonneg n; show ¬ ((n : Int) < 0); omega)]
  have e1 : min (Int.ofNat n).toNat (IntKind.bits .u64) = n := by
    show min n 64 = n
    omega
  simp only [e1]
  have e2 : (Int.ofNat m * 2 ^ n : Int) = ((m * 2 ^ n : Nat) : Int) := by
    simp
  rw [e2, wrap_u64 e]
  rfl
theorem rem_n (e : m < 9223372036854775808) (f : 0 < n) {k : IntKind} : binK B .rem t (.int k (.ofNat m)) (.int k (.ofNat n)) h c = c (.int k (.ofNat (m % n))) := by
  refine bin_int (v := .int k (.ofNat (m % n))) ?_ (.inl ⟨_, _, rfl⟩) c
  have e1 : Go.binOp .rem t (.int k (.ofNat m)) (.int k (.ofNat n)) = Op.intDiv .rem k (Int.ofNat m) (Int.ofNat n) := by
    show (if k ≠ k then _ else _) = _
    rw [if_neg (by simp)]
  rw [e1]
  unfold Op.intDiv
  rw [if_neg (by show ¬ ((n : Int) = 0); omega)]
  rfl
theorem rem_u (f : 0 < n) {k : IntKind} : binK B .rem t (.int k (.ofNat m)) (.int k (.ofNat n)) h c = c (.int k (.ofNat (m % n))) := by
  refine bin_int (v := .int k (.ofNat (m % n))) ?_ (.inl ⟨_, _, rfl⟩) c
  have e1 : Go.binOp .rem t (.int k (.ofNat m)) (.int k (.ofNat n)) = Op.intDiv .rem k (Int.ofNat m) (Int.ofNat n) := by
    show (if k ≠ k then _ else _) = _
    rw [if_neg (by simp)]
  rw [e1]
  unfold Op.intDiv
  rw [if_neg (by show ¬ ((n : Int) = 0); omega)]
  rfl
theorem quo_u (e : m < 18446744073709551616) (f : 0 < n) : binK B .quo t (.int .u64 (.ofNat m)) (.int .u64 (.ofNat n)) h c = c (.int .u64 (.ofNat (m / n))) := by
  refine bin_int (v := .int .u64 (.ofNat (m / n))) ?_ (.inl ⟨_, _, rfl⟩) c
  have e1 : Go.binOp .quo t (.int .u64 (.ofNat m)) (.int .u64 (.ofNat n)) = Op.intDiv .quo .u64 (Int.ofNat m) (Int.ofNat n) := rfl
  rw [e1]
  unfold Op.intDiv
  rw [if_neg (by show ¬ ((n : Int) = 0); omega)]
  have e2 : (Int.ofNat m).tdiv (Int.ofNat n) = ((m / n : Nat) : Int) := rfl
  simp only [e2]
  rw [wrap_u64 (Nat.lt_of_le_of_lt (Nat.div_le_self _ _) e)]
  rfl
/-- one below nothing. -/
theorem sub_01 : binK B .sub t (.int .i64 (.ofNat 0)) (.int .i64 (.ofNat 1)) h c = c (.int .i64 (.negSucc 0)) :=
  bin_int (v := .int .i64 (.negSucc 0)) rfl (.inl ⟨_, _, rfl⟩) c
theorem geq_neg : binK B .geq t (.int .i64 (.negSucc m)) (.int .i64 (.ofNat 0)) h c = c (.bool false) := by
  refine bin_int (v := .bool false) ?_ (.inr ⟨_, rfl⟩) c
  show Op.intCmp .geq _ _ = _
  unfold Op.intCmp
  have : ¬ ((Int.negSucc m) ≥ (Int.ofNat 0)) := by
    have := Int.negSucc_lt_zero m
    show ¬ ((0 : Int) ≤ Int.negSucc m)
    omega
  simp
  rfl
end
section
variable {R : Type} {B : Tab} {S : Stops}
/-- a comparison that holds, one that does not. -/
noncomputable def cmpP (op : BinOp) (m n : Nat) : Prop := match op with | .lss => m < n | .gtr => n < m | .leq => m ≤ n | .geq => n ≤ m | .eql => m = n | .neq => m ≠ n | _ => False
noncomputable def cmpN (op : BinOp) (m n : Nat) : Prop := match op with | .lss => n ≤ m | .gtr => m ≤ n | .leq => n < m | .geq => m < n | .eql => m ≠ n | .neq => m = n | _ => False
theorem cmp_t (hS : S.Real B) {op : BinOp} {t : TypeId} {k : IntKind} {m n : Nat} {h : Hp} {c : Value → An R} (e : cmpP op m n) : S.B2 R op t (.int k (.ofNat m)) (.int k (.ofNat n)) h c = c (.bool true) := by
  rw [hS.B2]
  cases op <;> first | exact lss_t c e | exact gtr_t c e | exact leq_t c e | exact geq_t c e | exact eql_t c e | exact neq_t c e | exact e.elim
theorem cmp_f (hS : S.Real B) {op : BinOp} {t : TypeId} {k : IntKind} {m n : Nat} {h : Hp} {c : Value → An R} (e : cmpN op m n) : S.B2 R op t (.int k (.ofNat m)) (.int k (.ofNat n)) h c = c (.bool false) := by
  rw [hS.B2]
  cases op <;> first | exact lss_f c e | exact gtr_f c e | exact leq_f c e | exact geq_f c e | exact eql_f c e | exact neq_f c e | exact e.elim
/-- one step of a function's code. -/
noncomputable def evStep (B : Tab) (S : Stops) (n : Nat) (J : R → R → Bool) (cd : Code) (st : St) (K : Exit → St → An R) : An R :=
  match cd with
  | .skip => K .normal st
  | .seq a b => S.EV R J n a st fun e st => match e with | .normal => S.EV R J n b st K | e => K e st
  | .cond c a b => opd st.tm c fun v => S.BK R v (fun _ => S.EV R J n a st K) (fun _ => S.EV R J n b st K)
  | .block id b => S.EV R J n b st fun e st => match e with | .exit j => (match Nat.beq j id with | true => K .normal st | false => K (.exit j) st) | e => K e st
  | .loop b => S.W R J (n + 1) b st K
  | .exit id => K (.exit id) st
  | .ret => K .ret st
  | .region id ops draw => match st with
    | ⟨tm, hp, ntm, fn, round, defers⟩ => match draw with
      | false => opsS B S J (callS B S (S.EV R J n) J n) ops.toList ntm ops.toList tm hp fun tm h => K .normal ⟨tm, h, ntm, fn, round, defers⟩
      | true => S.D R (callS B S (S.EV R J n) J n) (callS B S (S.EV (Value × Hp) never n) never n) ops.toList ntm tm hp fun tm h => K .normal ⟨tm, h, ntm, fn, round, defers⟩
  | cd => S.EV R J (n + 1) cd st K
theorem V_all (hS : S.Real B) {n : Nat} {J : R → R → Bool} {cd : Code} {st : St} {K : Exit → St → An R} : S.EV R J (n + 1) cd st K = evStep B S n J cd st K := by
  cases cd with
  | skip => exact V_skip B S hS
  | seq a b => exact V_seq B S hS
  | cond c a b => exact V_cond B S hS
  | block id b => exact V_block B S hS
  | loop b => exact V_loop B S hS
  | exit id => exact V_exit B S hS
  | ret => exact V_ret B S hS
  | region id ops draw =>
    cases st
    cases draw
    · exact V_reg B S hS
    · exact V_draw B S hS
  | _ => rfl
end
/-! ### the same, with what they ask shown by themselves -/
section
variable {R : Type} {B : Tab} {S : Stops} {t : TypeId} {k j : IntKind} {m n : Nat} {h : Hp} {c : Value → An R} {q : Value → Hp → An R} {x : Value} {l : List UInt8}
instance {op : BinOp} {m n : Nat} : Decidable (cmpP op m n) := by unfold cmpP; cases op <;> infer_instance
instance {op : BinOp} {m n : Nat} : Decidable (cmpN op m n) := by unfold cmpN; cases op <;> infer_instance
theorem nxT (hS : S.Real B) {op : BinOp} (e : cmpP op m n := by first | decide | (simp only [cmpP]; done) | (simp only [cmpP]; omega)) : S.B2 R op t (.int k (.ofNat m)) (.int k (.ofNat n)) h c = c (.bool true) := cmp_t hS e
theorem nxF (hS : S.Real B) {op : BinOp} (e : cmpN op m n := by first | decide | (simp only [cmpN]; done) | (simp only [cmpN]; omega)) : S.B2 R op t (.int k (.ofNat m)) (.int k (.ofNat n)) h c = c (.bool false) := cmp_f hS e
theorem nxAdd (hS : S.Real B) (e : m + n < kindLim k := by first | decide | omega | (simp only [kindLim]; omega)) : S.B2 R .add t (.int k (.ofNat m)) (.int k (.ofNat n)) h c = c (.int k (.ofNat (m + n))) := b2 hS (add_n _ e)
theorem nxSub (hS : S.Real B) (e : n ≤ m := by first | decide | omega | (simp only [kindLim]; omega)) (f : m < kindLim k := by first | decide | omega | (simp only [kindLim]; omega)) : S.B2 R .sub t (.int k (.ofNat m)) (.int k (.ofNat n)) h c = c (.int k (.ofNat (m - n))) := b2 hS (sub_n _ e f)
theorem nxMul (hS : S.Real B) (e : m * n < kindLim k := by first | decide | omega | (simp only [kindLim]; omega)) : S.B2 R .mul t (.int k (.ofNat m)) (.int k (.ofNat n)) h c = c (.int k (.ofNat (m * n))) := b2 hS (mul_n _ e)
theorem nxShr (hS : S.Real B) (e : m < kindLim k := by first | decide | omega | (simp only [kindLim]; omega)) (f : n < 64 := by first | decide | omega | (simp only [kindLim]; omega)) : S.B2 R .shr t (.int k (.ofNat m)) (.int j (.ofNat n)) h c = c (.int k (.ofNat (m >>> n))) := b2 hS (shr_n _ e f)
theorem nxShl (hS : S.Real B) (e : m * 2 ^ n < 18446744073709551616 := by first | decide | omega | (simp only [kindLim]; omega)) (f : n < 64 := by first | decide | omega | (simp only [kindLim]; omega)) : S.B2 R .shl t (.int .u64 (.ofNat m)) (.int j (.ofNat n)) h c = c (.int .u64 (.ofNat (m * 2 ^ n))) := b2 hS (shl_n _ e f)
theorem nxRem (hS : S.Real B) (f : 0 < n := by first | decide | omega | (simp only [kindLim]; omega)) : S.B2 R .rem t (.int k (.ofNat m)) (.int k (.ofNat n)) h c = c (.int k (.ofNat (m % n))) := b2 hS (rem_u _ f)
theorem nxQuo (hS : S.Real B) (e : m < 18446744073709551616 := by first | decide | omega | (simp only [kindLim]; omega)) (f : 0 < n := by first | decide | omega | (simp only [kindLim]; omega)) : S.B2 R .quo t (.int .u64 (.ofNat m)) (.int .u64 (.ofNat n)) h c = c (.int .u64 (.ofNat (m / n))) := b2 hS (quo_u _ e f)
theorem nxOr (hS : S.Real B) (e : m < kindLim k := by first | decide | omega | (simp only [kindLim]; omega)) (f : n < kindLim k := by first | decide | omega | (simp only [kindLim]; omega)) : S.B2 R .or t (.int k (.ofNat m)) (.int k (.ofNat n)) h c = c (.int k (.ofNat (m ||| n))) := b2 hS (or_n _ e f)
theorem nxAnd (hS : S.Real B) (e : m < kindLim k := by first | decide | omega | (simp only [kindLim]; omega)) (f : n < kindLim k := by first | decide | omega | (simp only [kindLim]; omega)) : S.B2 R .and t (.int k (.ofNat m)) (.int k (.ofNat n)) h c = c (.int k (.ofNat (m &&& n))) := b2 hS (and_n _ e f)
theorem nxCv (hS : S.Real B) {s d : TypeId} {ds : TypeDesc} (hs : B.un.find s = some ds := by rfl) (hd : B.un.find d = some (.int k) := by rfl) (e : m < kindLim k := by first | decide | omega | (simp only [kindLim]; omega)) : S.CV R s d (.int j (.ofNat m)) h q = q (.int k (.ofNat m)) h := cv hS (conv_n hs hd e _)
theorem nxC8 (hS : S.Real B) {s d : TypeId} {ds : TypeDesc} (hs : B.un.find s = some ds := by rfl) (hd : B.un.find d = some (.int .u8) := by rfl) : S.CV R s d (.int j (.ofNat m)) h q = q (.int .u8 (.ofNat (m % 256))) h := cv hS (conv_u8 hs hd _)
theorem nxB1 (hS : S.Real B) {a b : Unit → An R} : S.BK R (.bool true) a b = a () := bk hS (bool_t _ _)
theorem nxB0 (hS : S.Real B) {a b : Unit → An R} : S.BK R (.bool false) a b = b () := bk hS (bool_f _ _)
theorem nxNc {el : TypeId} {z : Nat} {vs : List Value} {c : Nat → Hp → An R} (hok : vs.all cellOk = true := by rfl) : newCells el z vs h c = c h.next ⟨h.t.put h.next (some (.cells vs.length el z true true undef (putL vs 0 .nil))), h.next + 1⟩ := newCells_eq hok
theorem nxLe {a : Nat} {x : An R} : leK a a x = x := le_t (Nat.le_refl _) _
theorem nxPn (hS : S.Real B) {e : TypeId} {b o : Nat} (hu : B.un.find t = some (.pointer e) := by rfl) : S.B2 R .eql t (.pointer (some ⟨b, o, none⟩)) (.pointer none) h c = c (.bool false) := b2 hS (ptr_nil hu _)
theorem nxLs {e : TypeId} {b : Option Addr} {cap : Nat} (hu : B.un.find t = some (.slice e) := by rfl) : lenK B (.slice b n cap) t h c = c (.int .i64 (.ofNat n)) := len_slice hu _
theorem nxLt (hu : B.un.find t = some .string := by rfl) : lenK B (.string ⟨⟨l⟩⟩) t h c = c (.int .i64 (.ofNat l.length)) := len_str hu _
theorem nxZ {e : TypeInfo} {zv : Value} (he : B.ty.find t = some e := by rfl) (hz : e.zero = some zv := by rfl) (hf : isFlat zv = true := by rfl) : zeroOf B t c = c zv := zeroOf_eq he hz hf _
theorem nxAt {el : TypeId} {e : TypeInfo} {p off cap i : Nat} (hu : B.un.find t = some (.slice el) := by rfl) (he : B.ty.find el = some e := by rfl) (hi : i < n := by first | decide | omega | (simp only [kindLim]; omega) | (simp; done)) : indexAddrK B t (.slice (some ⟨p, off, none⟩) n cap) (.int j (.ofNat i)) c = c (.pointer (some ⟨p, off + i * e.size, none⟩)) := at_slice hu he hi _
theorem nxEq {x y : Value} {d : An R} (e : eqV x y = true := by first | exact eqV_str _ | exact eqV_int _ _ | exact eqV_bool _) : eqvK x y d = d := eqv_t e _
theorem nxLa {b : Bool} {x : An R} (e : b = true := by rfl) : lastK b x = x := last_t e _
end
theorem and127 (c : Nat) : c &&& 127 = c % 128 := Nat.and_two_pow_sub_one_eq_mod c 7
/-- bytes as digits, the least first. -/
noncomputable def hor : List UInt8 → Nat
  | [] => 0
  | c :: r => hor r * 128 + c.toNat % 128
theorem hor_lt : ∀ (l : List UInt8), hor l < 128 ^ l.length
  | [] => by simp [hor]
  | c :: r => by
    have := hor_lt r
    simp only [hor, List.length_cons, Nat.pow_succ]
    omega
theorem hor_snoc : ∀ (l : List UInt8) (c : UInt8), hor (l ++ [c]) = hor l + (c.toNat % 128) * 128 ^ l.length
  | [], c => by simp [hor]
  | a :: r, c => by
    simp only [List.cons_append, hor, hor_snoc r c, List.length_cons, Nat.pow_succ]
    rw [Nat.add_mul, Nat.mul_assoc]
    omega
theorem hor_drop : ∀ (l : List UInt8) (j : Nat), hor (l.drop j) ≤ hor l
  | l, 0 => by simp
  | [], j + 1 => by simp
  | c :: r, j + 1 => by
    have := hor_drop r j
    simp only [List.drop_succ_cons, hor]
    omega
theorem pow128 (i : Nat) : 128 ^ i = 2 ^ (7 * i) := by rw [Nat.pow_mul]
theorem hor_or {a i c : Nat} (ha : a < 128 ^ i) : a ||| (c &&& 127) * 2 ^ (7 * i) = a + (c % 128) * 128 ^ i := by
  rw [pow128] at ha ⊢
  rw [and127, Nat.or_comm, ← Nat.shiftLeft_eq, ← Nat.shiftLeft_add_eq_or_of_lt ha, Nat.add_comm]
/-- how many bytes the varint at the beginning has; i of them are behind us. -/
noncomputable def rlen (i : Nat) : List UInt8 → Option Nat
  | [] => none
  | c :: r => if i = 9 ∧ c.toNat ≠ 1 then none
    else if c.toNat < 128 then (if c.toNat = 0 ∧ 0 < i then none else some (i + 1))
    else rlen (i + 1) r
theorem rlen_ok : ∀ {s : List UInt8} {i k : Nat}, rlen i s = some k → i < k ∧ k ≤ i + s.length
  | [], i, k, h => by cases h
  | c :: r, i, k, h => by
    unfold rlen at h
    split at h
    · cases h
    · split at h
      · split at h
        · cases h
        · cases h
          simp
      · have := rlen_ok h
        simp only [List.length_cons]
        omega
/-- the text at the beginning of bytes; what is behind it. -/
noncomputable def rtext (s : List UInt8) : Option (List UInt8 × List UInt8) :=
  match rlen 0 s with
  | none => none
  | some k => if (s.drop k).length < hor (s.take k) then none else some ((s.drop k).take (hor (s.take k)), (s.drop k).drop (hor (s.take k)))
theorem rtext_lt {s x y : List UInt8} (h : rtext s = some (x, y)) : y.length < s.length ∧ x.length ≤ s.length := by
  unfold rtext at h
  split at h
  · cases h
  · rename_i k hk
    have := rlen_ok hk
    split at h
    · cases h
    · cases h
      simp only [List.length_drop, List.length_take]
      omega
/-- a key, a value, whether it is gone. -/
abbrev Entr := List UInt8 × List UInt8 × Bool
/-- a key that may not come behind these. -/
noncomputable def badKey (acc : List Entr) (key : List UInt8) : Bool := match acc.getLast? with | some e => !(Op.bytesLess e.1 key) | none => false
/-- bytes as entries, behind these. -/
noncomputable def rents : Nat → List Entr → List UInt8 → Option (List Entr)
  | _, acc, [] => some acc
  | 0, _, _ :: _ => none
  | f + 1, acc, c :: r =>
    if c.toNat = 1 then
      match rtext r with
      | none => none
      | some (key, rest) => match rtext rest with
        | none => none
        | some (val, rest') => if badKey acc key then none else rents f (acc ++ [(key, val, false)]) rest'
    else if c.toNat = 2 then
      match rtext r with
      | none => none
      | some (key, rest) => if badKey acc key then none else rents f (acc ++ [(key, [], true)]) rest
    else none
theorem less_tri : ∀ (x y : List UInt8), (!(Op.bytesLess x y)) = (Op.bytesLess y x || y == x)
  | [], [] => rfl
  | [], _ :: _ => rfl
  | _ :: _, [] => rfl
  | a :: x, b :: y => by
    have ih := less_tri x y
    simp only [Op.bytesLess]
    by_cases h1 : a < b
    · have h2 : ¬ b < a := fun h => by
        have h1 := UInt8.lt_iff_toNat_lt.1 h1
        have h := UInt8.lt_iff_toNat_lt.1 h
        omega
      have h3 : (b == a) = false := by
        rw [beq_eq_false_iff_ne]
        intro e
        subst e
        exact h2 h1
      have h4 : (b :: y == a :: x) = false := by
        rw [beq_eq_false_iff_ne]
        intro e
        cases e
        exact h2 h1
      simp [h1, h2, h3, h4]
    · by_cases h2 : b < a
      · have h3 : (a == b) = false := by
          rw [beq_eq_false_iff_ne]
          intro e
          subst e
          exact h1 h2
        simp [h1, h2, h3]
      · have h3 : a = b := by
          apply UInt8.toNat_inj.1
          have h1 : ¬ a.toNat < b.toNat := fun h => h1 (UInt8.lt_iff_toNat_lt.2 h)
          have h2 : ¬ b.toNat < a.toNat := fun h => h2 (UInt8.lt_iff_toNat_lt.2 h)
          omega
        subst h3
        have h4 : (a :: y == a :: x) = (y == x) := by
          rw [List.cons_beq_cons]
          simp
        simp [h1, h4, ih]
noncomputable def cellsE (l : List Entr) : List Value := l.flatMap fun e => [.string ⟨⟨e.1⟩⟩, .string ⟨⟨e.2.1⟩⟩, .bool e.2.2]
theorem cellsE_length : ∀ (l : List Entr), (cellsE l).length = l.length * 3
  | [] => rfl
  | e :: l => by
    show ([_, _, _] ++ cellsE l).length = _
    rw [List.length_append, cellsE_length l]
    show 3 + l.length * 3 = (l.length + 1) * 3
    omega
theorem cellsE_ok (l : List Entr) : (cellsE l).all cellOk = true := by
  rw [List.all_eq_true]
  intro x hx
  simp only [cellsE, List.mem_flatMap] at hx
  obtain ⟨e, _, hx⟩ := hx
  simp only [List.mem_cons, List.mem_nil_iff, or_false] at hx
  rcases hx with rfl | rfl | rfl <;> rfl
theorem cellsE_at : ∀ {l : List Entr} {i : Nat} {e : Entr}, l[i]? = some e → (cellsE l)[i * 3]? = some (.string ⟨⟨e.1⟩⟩) ∧ (cellsE l)[i * 3 + 1]? = some (.string ⟨⟨e.2.1⟩⟩) ∧ (cellsE l)[i * 3 + 2]? = some (.bool e.2.2)
  | [], i, e, h => by simp at h
  | a :: l, 0, e, h => by
    simp only [List.getElem?_cons_zero, Option.some.injEq] at h
    subst h
    exact ⟨rfl, rfl, rfl⟩
  | a :: l, i + 1, e, h => by
    simp only [List.getElem?_cons_succ] at h
    have := cellsE_at h
    have e3 : (i + 1) * 3 = i * 3 + 3 := by omega
    rw [e3]
    exact this
/-- how much room a record is given. -/
noncomputable def sizeE : List Entr → Nat
  | [] => 0
  | e :: l => e.1.length + e.2.1.length + 21 + sizeE l
theorem drop_cons {α : Type} {l rest : List α} {e : α} {i : Nat} (h : l.drop i = e :: rest) : l[i]? = some e ∧ l.drop (i + 1) = rest := by
  constructor
  · have := congrArg (·[0]?) h
    simpa using this
  · have := congrArg List.tail h
    simpa using this
end Go.Ev
