/-
  Operations that only read: at the operation's grain.
-/
import Derived.Test.YtopkigockpiggaaGreatEvQuiet5
set_option linter.unusedVariables false
set_option linter.unusedSimpArgs false
namespace Go.Ev
section
variable {R : Type} {P : Program} {B : Tab} {r : R}
noncomputable def isSliceD : TypeDesc → Bool | .slice _ => true | _ => false
noncomputable def PureOp (P : Program) : Op → Prop
  | .move _ | .assign _ | .pick .. | .nilCheck _ | .unOp .. | .fieldAddr .. | .field .. | .indexAddr .. | .index .. | .extract .. | .makeInterface .. | .makeFunc .. | .slice .. | .build .. => True
  | .binOp op .. => op ≠ .eql ∧ op ≠ .neq
  | .convert s d _ => ∃ ds dd, P.underlying s = some ds ∧ P.underlying d = some dd ∧ isSliceD ds = false ∧ isSliceD dd = false
  | .call cl => cl.callee = .builtin .cap ∨ cl.callee = .builtin .min ∨ cl.callee = .builtin .max
  | _ => False
noncomputable def ReadOp (P : Program) : Op → Prop
  | .binOp op .. => op = .eql ∨ op = .neq
  | .load .. => True
  | .convert s d _ => ∃ ds dd, P.underlying s = some ds ∧ P.underlying d = some dd ∧ isSliceD ds = true ∧ isSliceD dd = false
  | .call cl => cl.callee = .builtin .len
  | _ => False
noncomputable def AllocOp (P : Program) : Op → Prop
  | .alloc .. | .box .. | .buildSlice .. | .makeSlice .. | .makeMap .. => True
  | .convert s d _ => ∃ ds dd, P.underlying s = some ds ∧ P.underlying d = some dd ∧ isSliceD ds = false ∧ isSliceD dd = true
  | _ => False
noncomputable def Ops (E : Env) (tm : T Value) (o : Op) (ρ : Operand → Value) : Prop := ∀ x ∈ o.operands, OpR E tm x (ρ x)
noncomputable def Pure (P : Program) (o : Oper) (tm : T Value) (v : Value) : Prop := ∀ E ρ w, Ops E tm o.op ρ → ∃ v', (execOp ρ o).run P w = .ok (.value v') w ∧ VR E v v'
noncomputable def Quiet (P : Program) (o : Oper) (tm : T Value) (h : T Blk) (v : Value) : Prop := ∀ G E ρ w, WR G E h w → Ops E tm o.op ρ → ∃ v', (execOp ρ o).run P w = .ok (.value v') w ∧ VR E v v'
theorem isPureV {s : Sem Value} {v : Value} {w : World} (h : s.run P w = .ok v w) : (do pure (.value (← s)) : Sem Next).run P w = .ok (.value v) w := by simp [h]
theorem opdO_ok {tm : T Value} {x : Option Operand} {c : Option Value → An R} (hq : opdO tm x c = .ok r) : ∃ v, c v = .ok r ∧ ∀ E ρ, (∀ y, x = some y → OpR E tm y (ρ y)) → ORel E v (x.map ρ) := by
  unfold opdO at hq
  split at hq
  · exact ⟨none, hq, fun E ρ _ => trivial⟩
  · rename_i y
    obtain ⟨v, hq, hv⟩ := opd_ok hq
    exact ⟨some v, hq, fun E ρ h => hv E _ (h y rfl)⟩
theorem run_builtin_op (ρ : Operand → Value) (w : World) (dst : Option Tmp) (b : Builtin) (args : Array Operand) (ats : Array TypeId) (ty : TypeId) (pos : String) (after : Array Edge) (guard : Option (Nat × Bool)) :
    ∃ cs, (execOp ρ ⟨dst, .call ⟨.builtin b, args, ats⟩, ty, pos, after, guard⟩).run P w = (builtin b ats ty cs (args.map ρ)).run P w :=
  ⟨_, by simp only [execOp, resolve, invoke, Sem.run_bind, Sem.run_pure, Result.andThen_ok]; rfl⟩
theorem map_of_toList {args : Array Operand} {ρ : Operand → Value} {l : List Value} (h : args.toList.map ρ = l) : args.map ρ = ⟨l⟩ := by apply Array.ext'; simpa using h
theorem pure_ok (hB : TabOK P B) {J : R → R → Bool} {call : CallK R} {tm : T Value} {h : Hp} {o : Oper} {c : Value → Hp → An R} (hk : PureOp P o.op) (hq : execK B J call tm h o.op o.type c = .ok r) :
    ∃ v, c v h = .ok r ∧ Pure P o tm v := by
  obtain ⟨dst, op, ty, pos, after, guard⟩ := o
  simp only at hk hq
  cases op
  case move x =>
    simp only [execK, opFn_eq, opFn'] at hq
    obtain ⟨v, hq, hv⟩ := opd_ok hq
    exact ⟨v, hq, fun E ρ w ho => ⟨ρ x, rfl, hv E _ (ho x (by simp [Op.operands]))⟩⟩
  case assign x =>
    simp only [execK, opFn_eq, opFn'] at hq
    obtain ⟨v, hq, hv⟩ := opd_ok hq
    exact ⟨v, hq, fun E ρ w ho => ⟨ρ x, rfl, hv E _ (ho x (by simp [Op.operands]))⟩⟩
  case pick b x y =>
    simp only [execK, opFn_eq, opFn'] at hq
    obtain ⟨bv, hq, hb⟩ := opd_ok hq
    split at hq
    · obtain ⟨v, hq, hv⟩ := opd_ok hq
      refine ⟨v, hq, fun E ρ w ho => ⟨ρ x, ?_, hv E _ (ho x (by simp [Op.operands]))⟩⟩
      have := (hb E _ (ho b (by simp [Op.operands]))).inv_bool
      simp [execOp, this, asBool]
    · obtain ⟨v, hq, hv⟩ := opd_ok hq
      refine ⟨v, hq, fun E ρ w ho => ⟨ρ y, ?_, hv E _ (ho y (by simp [Op.operands]))⟩⟩
      have := (hb E _ (ho b (by simp [Op.operands]))).inv_bool
      simp [execOp, this, asBool]
    · exact absurd hq no_ok
  case nilCheck x =>
    simp only [execK, opFn_eq, opFn'] at hq
    obtain ⟨xv, hq, hx⟩ := opd_ok hq
    split at hq
    · rename_i a
      refine ⟨_, hq, fun E ρ w ho => ⟨ρ x, ?_, hx E _ (ho x (by simp [Op.operands]))⟩⟩
      obtain ⟨k, o, s⟩ := a
      obtain ⟨e, _, _, hv⟩ := (hx E _ (ho x (by simp [Op.operands]))).inv_ptr
      simp [execOp, hv]
    · refine ⟨_, hq, fun E ρ w ho => ⟨ρ x, ?_, hx E _ (ho x (by simp [Op.operands]))⟩⟩
      obtain ⟨u, _, hv⟩ := (hx E _ (ho x (by simp [Op.operands]))).inv_iface
      simp [execOp, hv]
    · rename_i f a cc
      obtain ⟨a⟩ := a; obtain ⟨cc⟩ := cc
      refine ⟨_, hq, fun E ρ w ho => ⟨ρ x, ?_, hx E _ (ho x (by simp [Op.operands]))⟩⟩
      obtain ⟨g, a', c', hf, _, _, hv⟩ := (hx E _ (ho x (by simp [Op.operands]))).inv_func
      simp only [FR] at hf
      subst hf
      simp [execOp, hv]
    · rename_i f a cc
      obtain ⟨a⟩ := a; obtain ⟨cc⟩ := cc
      refine ⟨_, hq, fun E ρ w ho => ⟨ρ x, ?_, hx E _ (ho x (by simp [Op.operands]))⟩⟩
      obtain ⟨g, a', c', hf, _, _, hv⟩ := (hx E _ (ho x (by simp [Op.operands]))).inv_func
      obtain ⟨e, _, rfl⟩ := hf
      simp [execOp, hv]
    · exact absurd hq no_ok
  case unOp op t x =>
    simp only [execK, opFn_eq, opFn'] at hq
    obtain ⟨xv, hq, hx⟩ := opd_ok hq
    split at hq
    · obtain ⟨v, hs, hq, hf⟩ := fS_ok hq
      refine ⟨v, hq, fun E ρ w ho => ⟨v, ?_, .flat hf⟩⟩
      have := (hx E _ (ho x (by simp [Op.operands]))).inv_int
      simp [execOp, this, hs, Sem.run]
    · obtain ⟨v, hs, hq, hf⟩ := fS_ok hq
      refine ⟨v, hq, fun E ρ w ho => ⟨v, ?_, .flat hf⟩⟩
      have := (hx E _ (ho x (by simp [Op.operands]))).inv_bool
      simp [execOp, this, hs, Sem.run]
    · exact absurd hq no_ok
  case binOp op t x y yt =>
    simp only [execK, opFn_eq, opFn'] at hq
    obtain ⟨xv, hq, hx⟩ := opd_ok hq
    obtain ⟨yv, hq, hy⟩ := opd_ok hq
    obtain ⟨v, hq, hf, hv⟩ := binK_ok hB hq
    refine ⟨v, hq, fun E ρ w ho => ⟨v, isPureV (hv ⟨w, fun _ => False, fun _ => False, fun _ h => h, fun _ => False⟩ E w _ _ x y (fun h => ?_) (hx E _ (ho x (by simp [Op.operands]))) (hy E _ (ho y (by simp [Op.operands])))), .flat hf⟩⟩
    rcases h with h | h
    · exact absurd h hk.1
    · exact absurd h hk.2
  case convert s d x =>
    obtain ⟨ds, dd, hs, hd, hs1, hd1⟩ := hk
    simp only [execK, opFn_eq, opFn'] at hq
    obtain ⟨xv, hq, hx⟩ := opd_ok hq
    unfold convK at hq
    replace hq := und_ok hB hq
    obtain ⟨ds', hs', hq⟩ := hq
    rw [hs] at hs'; cases hs'
    replace hq := und_ok hB hq
    obtain ⟨dd', hd', hq⟩ := hq
    rw [hd] at hd'; cases hd'
    split at hq
    · replace hq := convIntK_ok hq
      refine ⟨_, hq, fun E ρ w ho => ⟨_, ?_, .flat rfl⟩⟩
      have e1 := (hx E _ (ho x (by simp [Op.operands]))).inv_int
      simp only [execOp, e1]
      refine isPureV ?_
      simp only [convert, Sem.run_bind, run_underlying hs, run_underlying hd, Result.andThen_ok]
      simp [Conv.intToInt]
    · refine ⟨_, hq, fun E ρ w ho => ⟨_, ?_, .flat rfl⟩⟩
      have e1 := (hx E _ (ho x (by simp [Op.operands]))).inv_str
      simp only [execOp, e1]
      refine isPureV ?_
      simp [convert, run_underlying hs, run_underlying hd]
    · simp [isSliceD] at hs1
    · simp [isSliceD] at hd1
    · simp [isSliceD] at hd1
    · exact absurd hq no_ok
  case fieldAddr s x f =>
    simp only [execK, opFn_eq, opFn'] at hq
    obtain ⟨xv, hq, hx⟩ := opd_ok hq
    split at hq
    case h_2 => exact absurd hq no_ok
    rename_i k off
    obtain ⟨fs, fd, i, hu, hfd, hi, hq⟩ := fieldOff_ok hB hq
    split at hq
    case h_1 => exact absurd hq no_ok
    rename_i z hz
    replace hq := addOff_ok hq
    refine ⟨_, hq, fun E ρ w ho => ?_⟩
    obtain ⟨v', h1, h2⟩ := fieldAt_ok hu hfd hi hz (w := w) (hx E _ (ho x (by simp [Op.operands])))
    exact ⟨v', isPureV h1, h2⟩
  case field s x f =>
    simp only [execK, opFn_eq, opFn'] at hq
    obtain ⟨xv, hq, hx⟩ := opd_ok hq
    split at hq
    case h_2 => exact absurd hq no_ok
    rename_i l
    obtain ⟨fs, fd, i, hu, hfd, hi, hq⟩ := fieldOff_ok hB hq
    obtain ⟨v, hq, hv⟩ := partK_ok hB hq
    refine ⟨_, hq, fun E ρ w ho => ?_⟩
    obtain ⟨l', hl, e1⟩ := (hx E _ (ho x (by simp [Op.operands]))).inv_agg
    obtain ⟨v', h1, h2⟩ := hv E w l' hl
    refine ⟨v', ?_, h2⟩
    simp only [execOp, e1]
    refine isPureV ?_
    simp only [Instr.field, Sem.run_bind, run_underlying hu, Result.andThen_ok, hfd, asAgg, Sem.run_pure, h1]
  case indexAddr t x ix =>
    simp only [execK, opFn_eq, opFn'] at hq
    obtain ⟨xv, hq, hx⟩ := opd_ok hq
    obtain ⟨iv, hq, hi⟩ := opd_ok hq
    obtain ⟨v, hq, hv⟩ := indexAddrK_ok hB hq
    refine ⟨_, hq, fun E ρ w ho => ?_⟩
    obtain ⟨v', h1, h2⟩ := hv E w _ _ (hx E _ (ho x (by simp [Op.operands]))) (hi E _ (ho ix (by simp [Op.operands])))
    exact ⟨v', isPureV h1, h2⟩
  case index t x ix =>
    simp only [execK, opFn_eq, opFn'] at hq
    obtain ⟨xv, hq, hx⟩ := opd_ok hq
    obtain ⟨iv, hq, hi⟩ := opd_ok hq
    obtain ⟨v, hq, hv⟩ := indexK_ok hB hq
    refine ⟨_, hq, fun E ρ w ho => ?_⟩
    obtain ⟨v', h1, h2⟩ := hv E w _ _ (hx E _ (ho x (by simp [Op.operands]))) (hi E _ (ho ix (by simp [Op.operands])))
    exact ⟨v', isPureV h1, h2⟩
  case extract x i =>
    simp only [execK, opFn_eq, opFn'] at hq
    obtain ⟨xv, hq, hx⟩ := opd_ok hq
    split at hq
    case h_2 => exact absurd hq no_ok
    rename_i l
    split at hq
    case h_2 => exact absurd hq no_ok
    rename_i v hv
    refine ⟨_, hq, fun E ρ w ho => ?_⟩
    obtain ⟨l', hl, e1⟩ := (hx E _ (ho x (by simp [Op.operands]))).inv_tuple
    obtain ⟨v', h1, h2⟩ := hl.get hv
    refine ⟨v', ?_, h2⟩
    simp [execOp, e1, Instr.extract, h1]
  case makeInterface t x =>
    simp only [execK, opFn_eq, opFn'] at hq
    obtain ⟨xv, hq, hx⟩ := opd_ok hq
    replace hq := und_ok hB hq
    obtain ⟨ds, hu, hq⟩ := hq
    split at hq
    · exact absurd hq no_ok
    · rename_i hni
      refine ⟨_, hq, fun E ρ w ho => ⟨_, ?_, .iface (hx E _ (ho x (by simp [Op.operands])))⟩⟩
      simp only [execOp]
      refine isPureV ?_
      simp only [Instr.makeInterface, Sem.run_bind, run_underlying hu, Result.andThen_ok]
      first
        | rfl
        | (split
           · exact absurd rfl (hni _)
           · rfl)
  case makeFunc f a b =>
    cases f with
    | func f =>
      simp only [execK, opFn_eq, opFn'] at hq
      obtain ⟨av, hq, ha⟩ := opds_ok hq
      obtain ⟨bv, hq, hb⟩ := opds_ok hq
      refine ⟨_, hq, fun E ρ w ho => ?_⟩
      have h1 := ha E ρ (fun x hx => ho x (by simp only [Op.operands]; simp; exact Or.inl (by simpa using hx)))
      have h2 := hb E ρ (fun x hx => ho x (by simp only [Op.operands]; simp; exact Or.inr (by simpa using hx)))
      refine ⟨.func (.func f) ⟨a.toList.map ρ⟩ ⟨b.toList.map ρ⟩, ?_, .func rfl h1.1 h1.2 h2.1 h2.2⟩
      have e1 : (⟨a.toList.map ρ⟩ : Array Value) = a.map ρ := by apply Array.ext'; simp
      have e2 : (⟨b.toList.map ρ⟩ : Array Value) = b.map ρ := by apply Array.ext'; simp
      rw [e1, e2]
      simp [execOp, Instr.makeFunc]
    | _ => simp only [execK, opFn_eq, opFn'] at hq; exact absurd hq no_ok
  case slice t x lo hi mx =>
    simp only [execK, opFn_eq, opFn'] at hq
    obtain ⟨xv, hq, hx⟩ := opd_ok hq
    obtain ⟨lv, hq, hl⟩ := opdO_ok hq
    obtain ⟨hv, hq, hh⟩ := opdO_ok hq
    obtain ⟨mv, hq, hm⟩ := opdO_ok hq
    obtain ⟨v, hq, hv⟩ := sliceK_ok hB hq
    refine ⟨_, hq, fun E ρ w ho => ?_⟩
    obtain ⟨v', h1, h2⟩ := hv E w _ _ _ _ (hx E _ (ho x (by simp [Op.operands]))) (hl E ρ (fun y hy => ho y (by simp [Op.operands, hy]))) (hh E ρ (fun y hy => ho y (by simp [Op.operands, hy]))) (hm E ρ (fun y hy => ho y (by simp [Op.operands, hy])))
    exact ⟨v', isPureV h1, h2⟩
  case build t ps =>
    simp only [execK, opFn_eq, opFn'] at hq
    obtain ⟨vs, hq, hvs⟩ := opds_ok hq
    obtain ⟨v, hq, hv⟩ := buildK_ok hB hq
    refine ⟨_, hq, fun E ρ w ho => ?_⟩
    have h1 := hvs E ρ (fun x hx => ho x (by simpa [Op.operands] using hx))
    have h2 := PR.zip (is := ps.toList.map (·.1)) h1
    have h3 : (ps.map fun (i, x) => (i, ρ x)).toList = (ps.toList.map (·.1)).zip ((ps.toList.map (·.2)).map ρ) := by
      simp only [Array.toList_map, List.map_map, List.zip_map']
      rfl
    obtain ⟨v', h4, h5⟩ := hv E w (ps.map fun (i, x) => (i, ρ x)) (by rw [h3]; exact h2)
    exact ⟨v', isPureV h4, h5⟩
  case call cl =>
    obtain ⟨callee, args, ats⟩ := cl
    simp only [PureOp] at hk
    rcases hk with rfl | rfl | rfl
    · simp only [execK, opFn_eq, opFn', builtinK, bFn_eq, bFn'] at hq
      replace hq := opds_ok hq
      obtain ⟨vs, hq, hvs⟩ := hq
      split at hq
      case h_2 => exact absurd hq no_ok
      rename_i x t ht
      unfold capK at hq
      replace hq := und_ok hB hq
      obtain ⟨ds, hu, hq⟩ := hq
      split at hq
      case h_2 => exact absurd hq no_ok
      split at hq
      · rename_i k off l cap
        split at hq
        case h_2 => exact absurd hq no_ok
        rename_i hcap
        have hcap : cap < 4611686018427387904 := Nat.le_of_ble_eq_true hcap
        refine ⟨_, hq, fun E ρ w ho => ⟨_, ?_, .flat rfl⟩⟩
        obtain ⟨x', m, hm, hx, hmn⟩ := (hvs E ρ (fun y hy => ho y (by simp [Op.operands, Call.operands]; simpa using hy))).uncons
        rw [hmn.unnil] at hm
        obtain ⟨en, c', _, hcr, _, rfl⟩ := hx.inv_sl
        have hc' : c' = cap := by rcases hcr with ⟨_, h⟩ | ⟨h, _⟩; exact h; omega
        subst hc'
        obtain ⟨cs, hr⟩ := run_builtin_op (P := P) ρ w dst .cap args ats ty pos after guard
        rw [hr, map_of_toList hm, builtin]
        exact isPureV (by simp [Builtin.cap_, show ats[0]? = some t from by rw [← Array.getElem?_toList, ht]; rfl, run_underlying hu, goInt])
      · rename_i l cap
        refine ⟨_, hq, fun E ρ w ho => ⟨_, ?_, .flat rfl⟩⟩
        obtain ⟨x', m, hm, hx, hmn⟩ := (hvs E ρ (fun y hy => ho y (by simp [Op.operands, Call.operands]; simpa using hy))).uncons
        rw [hmn.unnil] at hm
        obtain rfl := hx.inv_slnil
        obtain ⟨cs, hr⟩ := run_builtin_op (P := P) ρ w dst .cap args ats ty pos after guard
        rw [hr, map_of_toList hm, builtin]
        exact isPureV (by simp [Builtin.cap_, show ats[0]? = some t from by rw [← Array.getElem?_toList, ht]; rfl, run_underlying hu, goInt])
      · exact absurd hq no_ok
    all_goals (
      simp only [execK, opFn_eq, opFn', builtinK, bFn_eq, bFn'] at hq
      replace hq := opds_ok hq
      obtain ⟨vs, hq, hvs⟩ := hq
      split at hq
      case h_2 => exact absurd hq no_ok
      rename_i x y
      first | unfold minK at hq | unfold maxK at hq
      split at hq
      case h_2 => exact absurd hq no_ok
      rename_i k a j b
      obtain ⟨hq, hf⟩ := fV_ok hq
      refine ⟨_, hq, fun E ρ w ho => ⟨_, ?_, .flat hf⟩⟩
      obtain ⟨x', m, hm, hx, hmn⟩ := (hvs E ρ (fun y hy => ho y (by simp [Op.operands, Call.operands]; simpa using hy))).uncons
      obtain ⟨y', m', hm', hy, hmn'⟩ := hmn.uncons
      rw [hm', hmn'.unnil] at hm
      obtain rfl := hx.inv_int
      obtain rfl := hy.inv_int
      first
        | (obtain ⟨cs, hr⟩ := run_builtin_op (P := P) ρ w dst .min args ats ty pos after guard
           rw [hr, map_of_toList hm, builtin]
           exact isPureV (by simp [Builtin.min_, Builtin.min2]))
        | (obtain ⟨cs, hr⟩ := run_builtin_op (P := P) ρ w dst .max args ats ty pos after guard
           rw [hr, map_of_toList hm, builtin]
           exact isPureV (by simp [Builtin.max_, Builtin.max2])))
  all_goals exact hk.elim
end
end Go.Ev
