/-
  Every operation but a call of a function value.
-/
import Derived.Test.YtopkigockpiggaaGreatEvMap
set_option linter.unusedVariables false
set_option linter.unusedSimpArgs false
namespace Go.Ev
section
variable {R : Type} {P : Program} {B : Tab} {r : R}
noncomputable def isCallV : Op → Bool
  | .call cl => match cl.callee with | .value _ => true | .invoke _ _ => true | _ => false
  | .next _ _ => true
  | _ => false
theorem isU {s : Sem Unit} {w w' : World} (h : s.run P w = .ok () w') : (do s; pure .skip : Sem Next).run P w = .ok .skip w' := by simp [h]
theorem op_does (hB : TabOK P B) {J : R → R → Bool} {call : CallK R} {tm : T Value} {h : Hp} {o : Oper} {c : Value → Hp → An R} (hk : isCallV o.op = false) (hq : execK B J call tm h o.op o.type c = .ok r) :
    ∃ v h', c v h' = .ok r ∧ Does P o tm h v h' := by
  have viaPure : PureOp P o.op → ∃ v h', c v h' = .ok r ∧ Does P o tm h v h' := fun hp => by
    obtain ⟨v, h1, h2⟩ := pure_ok hB hp hq
    exact ⟨v, h, h1, h2.quiet.does⟩
  have viaRead : ReadOp P o.op → ∃ v h', c v h' = .ok r ∧ Does P o tm h v h' := fun hp => by
    obtain ⟨v, h1, h2⟩ := read_ok hB hp hq
    exact ⟨v, h, h1, h2.does⟩
  have viaAlloc : AllocOp P o.op → ∃ v h', c v h' = .ok r ∧ Does P o tm h v h' := fun hp => by
    obtain ⟨v, blk, h1, h2⟩ := alloc_ok hB hp hq
    exact ⟨v, _, h1, h2.does⟩
  obtain ⟨dst, op, ty, pos, after, guard⟩ := o
  simp only at hk hq viaPure viaRead viaAlloc
  cases op
  case move => exact viaPure trivial
  case pick => exact viaPure trivial
  case nilCheck => exact viaPure trivial
  case unOp => exact viaPure trivial
  case fieldAddr => exact viaPure trivial
  case field => exact viaPure trivial
  case indexAddr => exact viaPure trivial
  case index => exact viaPure trivial
  case extract => exact viaPure trivial
  case makeInterface => exact viaPure trivial
  case makeFunc => exact viaPure trivial
  case slice => exact viaPure trivial
  case build => exact viaPure trivial
  case load => exact viaRead trivial
  case alloc => exact viaAlloc trivial
  case box => exact viaAlloc trivial
  case buildSlice => exact viaAlloc trivial
  case makeSlice => exact viaAlloc trivial
  case makeMap => exact viaAlloc trivial
  case binOp op t x y yt =>
    by_cases h1 : op = .eql
    · exact viaRead (Or.inl h1)
    · by_cases h2 : op = .neq
      · exact viaRead (Or.inr h2)
      · exact viaPure ⟨h1, h2⟩
  case assign x =>
    simp only [execK, opFn_eq, opFn'] at hq
    obtain ⟨v, hq, hv⟩ := opd_ok hq
    exact ⟨v, h, hq, fun G E ρ w hw hf ho => ⟨E, ρ x, w, Env.le.refl E, hf, hw, hv E _ (ho x (by simp [Op.operands])), Or.inl rfl⟩⟩
  case store t a x =>
    simp only [execK, opFn_eq, opFn'] at hq
    obtain ⟨av, hq, ha⟩ := opd_ok hq
    obtain ⟨xv, hq, hx⟩ := opd_ok hq
    replace hq := storeAt_ok hB hq
    obtain ⟨h', hq, hn, hr⟩ := hq
    refine ⟨_, h', hq, fun G E ρ w hw hf ho => ?_⟩
    obtain ⟨w', h1, h2⟩ := hr G E w _ _ hw (ha E _ (ho a (by simp [Op.operands]))) (hx E _ (ho x (by simp [Op.operands])))
    exact ⟨E, Go.undef, w', Env.le.refl E, hn ▸ hf, h2, VR.undef E, Or.inr ⟨isU h1, rfl⟩⟩
  case convert s d x =>
    have hq0 := hq
    simp only [execK, opFn_eq, opFn'] at hq
    obtain ⟨xv, hq, hx⟩ := opd_ok hq
    unfold convK at hq
    replace hq := und_ok hB hq
    obtain ⟨ds, hs, hq⟩ := hq
    replace hq := und_ok hB hq
    obtain ⟨dd, hd, hq⟩ := hq
    cases h1 : isSliceD ds <;> cases h2 : isSliceD dd
    · exact viaPure ⟨ds, dd, hs, hd, h1, h2⟩
    · exact viaAlloc ⟨ds, dd, hs, hd, h1, h2⟩
    · exact viaRead ⟨ds, dd, hs, hd, h1, h2⟩
    · split at hq
      · simp [isSliceD] at h2
      · simp [isSliceD] at h2
      · simp [isSliceD] at h2
      · simp [isSliceD] at h1
      · rename_i e1 e2 k o l cp
        split at hq
        case h_2 => exact absurd hq no_ok
        rename_i hsd
        have hsd := Nat.eq_of_beq_eq_true hsd
        replace hq := und_ok hB hq
        obtain ⟨de, he, hq⟩ := hq
        split at hq
        case h_2 => exact absurd hq no_ok
        split at hq
        case h_2 => exact absurd hq no_ok
        rename_i n el ez pl dv tr hk2
        rw [T.putK_eq] at hq
        refine ⟨_, _, hq, fun G E ρ w hw hf ho => ?_⟩
        have hv := hx E _ (ho x (by simp [Op.operands]))
        obtain ⟨en, c', hen, hcr, hl, e3⟩ := hv.inv_sl
        obtain ⟨f, hf', hb, hnf⟩ := hw.blk k _ hk2
        rw [hen] at hf'; cases hf'
        obtain ⟨cs, fr, g1, g2, g3, g4, g5⟩ := hb
        have hsh : w.shape? en.b = some (el, cs.size) := by simp [World.shape?, g1]
        have hms : (markStringish ⟨en.b, en.o + o, none⟩).run P w = .ok () (w.freeze ⟨en.b, cs.size, none⟩ 1) := by
          simp [markStringish, shape, Sem.run, hsh, freeze]
        have hfz : (w.freeze ⟨en.b, cs.size, none⟩ 1).heap[en.b]? = some (.cells cs el (cs.size, cs.size + 1)) := by
          rcases g4 rfl with rfl | rfl
          · simp [World.freeze, Array.getElem?_modify, g1]
          · simp [World.freeze, Array.getElem?_modify, g1]
        have hfo : ∀ j, j ≠ en.b → (w.freeze ⟨en.b, cs.size, none⟩ 1).heap[j]? = w.heap[j]? := fun j hj => by
          simp [World.freeze, Array.getElem?_modify, Ne.symm hj]
        refine ⟨E, ρ x, _, Env.le.refl E, hf, hw.set hk2 hen rfl (.cells n el ez true false dv tr) rfl (by simp [World.freeze]) hfo ⟨cs, _, hfz, g2, g3, fun _ => Or.inr rfl, fun h => (by cases h), g5.2⟩ rfl rfl rfl, hv, Or.inl ?_⟩
        simp only [execOp]
        refine isV ?_
        rw [e3]
        subst hsd
        rw [hs] at hd
        cases hd
        have hbeq : (s == s) = true := by simp
        simp only [convert, Sem.run_bind, run_underlying hs, Result.andThen_ok, run_underlying he, hbeq, hms, Sem.run_pure]
      · exact absurd hq no_ok
  case lookup t x i ok =>
    simp only [execK, opFn_eq, opFn'] at hq
    obtain ⟨xv, hq, hx⟩ := opd_ok hq
    obtain ⟨iv, hq, hi⟩ := opd_ok hq
    obtain ⟨v, hq, hr⟩ := lookupK_ok hB hq
    refine ⟨v, h, hq, fun G E ρ w hw hf ho => ?_⟩
    obtain ⟨v', h1, h2⟩ := hr G E w _ _ hw (hx E _ (ho x (by simp [Op.operands]))) (hi E _ (ho i (by simp [Op.operands])))
    exact ⟨E, v', w, Env.le.refl E, hf, hw, h2, Or.inl (isV h1)⟩
  case mapUpdate t m k x =>
    simp only [execK, opFn_eq, opFn'] at hq
    obtain ⟨mv, hq, hm⟩ := opd_ok hq
    obtain ⟨kv, hq, hk⟩ := opd_ok hq
    obtain ⟨xv, hq, hx⟩ := opd_ok hq
    obtain ⟨h', hq, hn, hr⟩ := mapPutK_ok hB hq
    refine ⟨_, h', hq, fun G E ρ w hw hf ho => ?_⟩
    obtain ⟨w', h1, h2⟩ := hr G E w _ _ _ hw (hm E _ (ho m (by simp [Op.operands]))) (hk E _ (ho k (by simp [Op.operands]))) (hx E _ (ho x (by simp [Op.operands])))
    exact ⟨E, Go.undef, w', Env.le.refl E, hn ▸ hf, h2, VR.undef E, Or.inr ⟨isU h1, rfl⟩⟩
  case insert t m k x =>
    simp only [execK, opFn_eq, opFn'] at hq
    obtain ⟨mv, hq, hm⟩ := opd_ok hq
    obtain ⟨kv, hq, hk⟩ := opd_ok hq
    obtain ⟨xv, hq, hx⟩ := opd_ok hq
    obtain ⟨h', hq, hn, hr⟩ := mapPutK_ok hB hq
    refine ⟨_, h', hq, fun G E ρ w hw hf ho => ?_⟩
    obtain ⟨w', h1, h2⟩ := hr G E w _ _ _ hw (hm E _ (ho m (by simp [Op.operands]))) (hk E _ (ho k (by simp [Op.operands]))) (hx E _ (ho x (by simp [Op.operands])))
    exact ⟨E, Go.undef, w', Env.le.refl E, hn ▸ hf, h2, VR.undef E, Or.inr ⟨isU h1, rfl⟩⟩
  case mapEntry t m k =>
    simp only [execK, opFn_eq, opFn'] at hq
    obtain ⟨mv, hq, hm⟩ := opd_ok hq
    obtain ⟨kv, hq, hk⟩ := opd_ok hq
    obtain ⟨v, h', hq, hn, hr⟩ := mapEntryK_ok hB hq
    refine ⟨v, h', hq, fun G E ρ w hw hf ho => ?_⟩
    obtain ⟨v', w', h1, h2, h3⟩ := hr G E w _ _ hw (hm E _ (ho m (by simp [Op.operands]))) (hk E _ (ho k (by simp [Op.operands])))
    exact ⟨E, v', w', Env.le.refl E, hn ▸ hf, h2, h3, Or.inl (isV h1)⟩
  case entryStore t m s x =>
    simp only [execK, opFn_eq, opFn'] at hq
    obtain ⟨mv, hq, hm⟩ := opd_ok hq
    obtain ⟨sv, hq, hs⟩ := opd_ok hq
    obtain ⟨xv, hq, hx⟩ := opd_ok hq
    obtain ⟨h', hq, hn, hr⟩ := entryStoreK_ok (P := P) hq
    refine ⟨_, h', hq, fun G E ρ w hw hf ho => ?_⟩
    obtain ⟨w', h1, h2⟩ := hr G E w t _ _ _ hw (hm E _ (ho m (by simp [Op.operands]))) (hs E _ (ho s (by simp [Op.operands]))) (hx E _ (ho x (by simp [Op.operands])))
    exact ⟨E, Go.undef, w', Env.le.refl E, hn ▸ hf, h2, VR.undef E, Or.inr ⟨isU h1, rfl⟩⟩
  case range t x =>
    simp only [execK, opFn_eq, opFn'] at hq
    obtain ⟨xv, hq, hx⟩ := opd_ok hq
    obtain ⟨v, h', hq, hr⟩ := iterK_ok hB hq
    refine ⟨v, h', hq, fun G E ρ w hw hf ho => ?_⟩
    obtain ⟨E', v', w', h1, h2, h3, h4, h5⟩ := hr G E w _ hw hf (hx E _ (ho x (by simp [Op.operands])))
    exact ⟨E', v', w', h1, h2, h4, h5, Or.inl (isV h3)⟩
  case next it isS => simp [isCallV] at hk
  case typeAssert x xT t ok =>
    simp only [execK, opFn_eq, opFn'] at hq
    obtain ⟨xv, hq, hx⟩ := opd_ok hq
    obtain ⟨v, hq, hr⟩ := assertK_ok hB hq
    refine ⟨v, h, hq, fun G E ρ w hw hf ho => ?_⟩
    obtain ⟨v', h1, h2⟩ := hr E w xT _ (hx E _ (ho x (by simp [Op.operands])))
    exact ⟨E, v', w, Env.le.refl E, hf, hw, h2, Or.inl (isV h1)⟩
  case entry it =>
    simp only [execK, opFn_eq, opFn'] at hq
    obtain ⟨xv, hq, hx⟩ := opd_ok hq
    obtain ⟨v, hq, hr⟩ := entryK_ok (P := P) hq
    refine ⟨v, h, hq, fun G E ρ w hw hf ho => ?_⟩
    obtain ⟨v', h1, h2⟩ := hr G E w _ hw (hx E _ (ho it (by simp [Op.operands])))
    exact ⟨E, v', w, Env.le.refl E, hf, hw, h2, Or.inl (isV h1)⟩
  case call cl =>
    obtain ⟨callee, args, ats⟩ := cl
    cases callee with
    | value f => simp [isCallV] at hk
    | invoke rv m => simp [isCallV] at hk
    | builtin b =>
      have ats0 : ∀ {t : TypeId} {l : List TypeId}, ats.toList = t :: l → ats[0]? = some t := fun h => by rw [← Array.getElem?_toList, h]; rfl
      cases b
      case len => exact viaRead rfl
      case cap => exact viaPure (Or.inl rfl)
      case min => exact viaPure (Or.inr (Or.inl rfl))
      case max => exact viaPure (Or.inr (Or.inr rfl))
      case append =>
        simp only [execK, opFn_eq, opFn', builtinK, bFn_eq, bFn'] at hq
        replace hq := opds_ok hq
        obtain ⟨vs, hq, hvs⟩ := hq
        split at hq
        case h_2 => exact absurd hq no_ok
        rename_i s x sT xT ht
        replace hq := appendK_ok hB hq
        obtain ⟨v, h', hq, hr⟩ := hq
        refine ⟨v, h', hq, fun G E ρ w hw hf ho => ?_⟩
        obtain ⟨s', m, hm, hs, hmn⟩ := (hvs E ρ (fun y hy => ho y (by simp [Op.operands, Call.operands]; simpa using hy))).uncons
        obtain ⟨x', m', hm', hx, hmn'⟩ := hmn.uncons
        rw [hm', hmn'.unnil] at hm
        obtain ⟨E', v', w', h1, h2, h3, h4, h5⟩ := hr G E w s' x' ats ty (ats0 ht) (by rw [← Array.getElem?_toList, ht]; rfl) hw hf hs hx
        obtain ⟨cs, hrn⟩ := run_builtin_op (P := P) ρ w dst .append args ats ty pos after guard
        refine ⟨E', v', w', h1, h2, h3, h4, Or.inl ?_⟩
        rw [hrn, map_of_toList hm, builtin]
        exact isV h5
      case copy =>
        simp only [execK, opFn_eq, opFn', builtinK, bFn_eq, bFn'] at hq
        replace hq := opds_ok hq
        obtain ⟨vs, hq, hvs⟩ := hq
        split at hq
        case h_2 => exact absurd hq no_ok
        rename_i d s dT sT ht
        replace hq := copyK_ok hB hq
        obtain ⟨v, h', hq, hfl, hn, hr⟩ := hq
        refine ⟨v, h', hq, fun G E ρ w hw hf ho => ?_⟩
        obtain ⟨s', m, hm, hs, hmn⟩ := (hvs E ρ (fun y hy => ho y (by simp [Op.operands, Call.operands]; simpa using hy))).uncons
        obtain ⟨x', m', hm', hx, hmn'⟩ := hmn.uncons
        rw [hm', hmn'.unnil] at hm
        obtain ⟨w', h1, h2⟩ := hr G E w s' x' ats ty (ats0 ht) hw hs hx
        obtain ⟨cs, hrn⟩ := run_builtin_op (P := P) ρ w dst .copy args ats ty pos after guard
        refine ⟨E, v, w', Env.le.refl E, hn ▸ hf, h2, .flat hfl, Or.inl ?_⟩
        rw [hrn, map_of_toList hm, builtin]
        exact isV h1
      case delete =>
        simp only [execK, opFn_eq, opFn', builtinK, bFn_eq, bFn'] at hq
        replace hq := opds_ok hq
        obtain ⟨vs, hq, hvs⟩ := hq
        split at hq
        case h_2 => exact absurd hq no_ok
        rename_i m k t ts ht
        replace hq := mapDelK_ok hB hq
        obtain ⟨h', hq, hn, hr⟩ := hq
        refine ⟨_, h', hq, fun G E ρ w hw hf ho => ?_⟩
        obtain ⟨s', mm, hm, hs, hmn⟩ := (hvs E ρ (fun y hy => ho y (by simp [Op.operands, Call.operands]; simpa using hy))).uncons
        obtain ⟨x', m', hm', hx, hmn'⟩ := hmn.uncons
        rw [hm', hmn'.unnil] at hm
        obtain ⟨w', h1, h2⟩ := hr G E w s' x' ats ty (ats0 ht) hw hs hx
        obtain ⟨cs, hrn⟩ := run_builtin_op (P := P) ρ w dst .delete args ats ty pos after guard
        refine ⟨E, Go.undef, w', Env.le.refl E, hn ▸ hf, h2, VR.undef E, Or.inl ?_⟩
        rw [hrn, map_of_toList hm, builtin]
        exact isV h1
      case clear =>
        simp only [execK, opFn_eq, opFn', builtinK, bFn_eq, bFn'] at hq
        replace hq := opds_ok hq
        obtain ⟨vs, hq, hvs⟩ := hq
        split at hq
        case h_2 => exact absurd hq no_ok
        rename_i x t ht
        replace hq := clearK_ok hB hq
        obtain ⟨h', hq, hn, hr⟩ := hq
        refine ⟨_, h', hq, fun G E ρ w hw hf ho => ?_⟩
        obtain ⟨s', m, hm, hs, hmn⟩ := (hvs E ρ (fun y hy => ho y (by simp [Op.operands, Call.operands]; simpa using hy))).uncons
        rw [hmn.unnil] at hm
        obtain ⟨w', h1, h2⟩ := hr G E w s' ats ty (ats0 ht) hw hs
        obtain ⟨cs, hrn⟩ := run_builtin_op (P := P) ρ w dst .clear args ats ty pos after guard
        refine ⟨E, Go.undef, w', Env.le.refl E, hn ▸ hf, h2, VR.undef E, Or.inl ?_⟩
        rw [hrn, map_of_toList hm, builtin]
        exact isV h1
      all_goals (simp only [execK, opFn_eq, opFn', builtinK, bFn_eq, bFn'] at hq; replace hq := opds_ok hq; obtain ⟨vs, hq, _⟩ := hq; exact absurd hq no_ok)
  all_goals (simp only [execK, opFn_eq, opFn'] at hq; exact absurd hq no_ok)
end
end Go.Ev
