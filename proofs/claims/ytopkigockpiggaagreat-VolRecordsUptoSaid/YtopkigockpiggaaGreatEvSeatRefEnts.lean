/-
  dedupref25.Entries, walked.
-/
import Derived.Test.YtopkigockpiggaaGreatEvSeatRefRound
import Derived.Test.YtopkigockpiggaaGreatEvSeatEnts
set_option maxRecDepth 100000
set_option linter.unusedVariables false
set_option linter.unusedSimpArgs false
open Go Go.Ev
namespace Go.Proofs.YtopkigockpiggaaGreat
attribute [local irreducible] loadAt storeAt newBlk newCells writeAt appendK binK indexAddrK indexK sliceK lenK convK fN fV fL boolK maxK zeroOf enterK drawK rowsK leK okK readsK stagesK lastK againK eqvK
/-- how the rounds of dedupref25.Entries end. -/
noncomputable def RefsEnd (S : Stops) (f : Nat) (acc : List Entr) (s : List UInt8) (tm : T Value) (h : Hp) (out : Value) : Prop :=
  ∃ ex tm' h', isFull 7 tm' = true ∧ (∀ l, rents f acc s = some l → ex = .exit 0 ∧ ∃ out', tm'.find 4 = some out' ∧ Mine h' out' 33 3 l.length (cellsE l) ∧ ∀ j, blkOf out' = some j → h.next ≤ j ∨ blkOf out = some j) ∧
    (rents f acc s = none → ex = .ret ∧ tm'.find 2 = some (.slice none 0 0) ∧ tm'.find 3 = some (.int .i64 (.ofNat 250))) ∧ Same (fun j => blkOf out = some j) h h' ∧
    ∃ N, ∀ m, N ≤ m → ∀ R J K, S.W R J m (loopB B1 16 0) ⟨tm, h, 67, 16, none, []⟩ K = K ex ⟨tm', h', 67, 16, none, []⟩
theorem refs_stop {S : Stops} {f N : Nat} {acc : List Entr} {s : List UInt8} {tm : T Value} {h h4 : Hp} {out : Value} (hr : rents f acc s = none) (hP : Same (fun j => blkOf out = some j ∨ h.next ≤ j) h h4)
    (hstep : ∃ tm', isFull 7 tm' = true ∧ tm'.find 2 = some (.slice none 0 0) ∧ tm'.find 3 = some (.int .i64 (.ofNat 250)) ∧ ∀ m, N ≤ m → ∀ R J K, S.W R J (m + 20) (loopB B1 16 0) ⟨tm, h, 67, 16, none, []⟩ K = K .ret ⟨tm', h4, 67, 16, none, []⟩) : RefsEnd S f acc s tm h out := by
  obtain ⟨tm', a1, a2, a3, a4⟩ := hstep
  refine ⟨.ret, tm', h4, a1, fun l e => (by rw [hr] at e; cases e), fun _ => ⟨rfl, a2, a3⟩, hP.mono fun j hj e => ?_, N + 20, fun m hm R J K => ?_⟩
  · rcases e with e | e
    · exact e
    · omega
  · obtain ⟨q, rfl⟩ : ∃ q, m = q + 20 := ⟨m - 20, by omega⟩
    exact a4 q (by omega) R J K
theorem refs_next {S : Stops} {f N : Nat} {acc : List Entr} {e : Entr} {s rest : List UInt8} {tm : T Value} {h h6 : Hp} {out s2 : Value} (hr : rents (f + 1) acc s = rents f (acc ++ [e]) rest) (hP : Same (fun j => blkOf out = some j ∨ h.next ≤ j) h h6)
    (hb6 : ∀ j, blkOf s2 = some j → h.next ≤ j ∨ blkOf out = some j)
    (hstep : ∃ tm2, isFull 7 tm2 = true ∧ tm2.find 0 = some (.string ⟨⟨rest⟩⟩) ∧ tm2.find 4 = some s2 ∧ ∀ m, N ≤ m → ∀ R J K, S.W R J (m + 20) (loopB B1 16 0) ⟨tm, h, 67, 16, none, []⟩ K = S.W R J (m + 19) (loopB B1 16 0) ⟨tm2, h6, 67, 16, none, []⟩ K)
    (ih : ∀ tm2, isFull 7 tm2 = true → tm2.find 0 = some (.string ⟨⟨rest⟩⟩) → tm2.find 4 = some s2 → RefsEnd S f (acc ++ [e]) rest tm2 h6 s2) : RefsEnd S (f + 1) acc s tm h out := by
  obtain ⟨tm2, a1, a2, a3, a4⟩ := hstep
  obtain ⟨ex, tm', h', b1, b2, b3, b4, N', b5⟩ := ih tm2 a1 a2 a3
  have hn := hP.1
  have hP' : Same (fun j => blkOf out = some j ∨ h.next ≤ j) h h' := hP.trans (b4.mono fun j hj e => (hb6 j e).symm)
  refine ⟨ex, tm', h', b1, fun l e => ?_, fun e => b3 (hr ▸ e), hP'.mono fun j hj e => ?_, N + N' + 20, fun m hm R J K => ?_⟩
  · obtain ⟨c1, out', c2, c3, c4⟩ := b2 l (hr ▸ e)
    refine ⟨c1, out', c2, c3, fun j hj => ?_⟩
    rcases c4 j hj with e | e
    · exact .inl (Nat.le_trans hn e)
    · exact hb6 j e
  · rcases e with e | e
    · exact e
    · omega
  · obtain ⟨q, rfl⟩ : ∃ q, m = q + 20 := ⟨m - 20, by omega⟩
    rw [a4 q (by omega)]
    exact b5 _ (by omega) R J K
theorem refs_end {S : Stops} (hS : S.Real B1) {tm : T Value} {h : Hp} {out : Value} (hf : isFull 7 tm = true) (h0 : tm.find 0 = some (.string ⟨⟨[]⟩⟩)) (h4 : tm.find 4 = some out) :
    ∃ tm', isFull 7 tm' = true ∧ tm'.find 4 = some out ∧ ∀ m R J K, S.W R J (m + 20) (loopB B1 16 0) ⟨tm, h, 67, 16, none, []⟩ K = K (.exit 0) ⟨tm', h, 67, 16, none, []⟩ := by
  obtain ⟨g, rfl⟩ := full_look hf [(0, .string ⟨⟨[]⟩⟩), (4, out)] (by simp [h0, h4])
  refine ⟨?tm, ?_, ?_, ?walk⟩
  case walk =>
    intro m R J K
    refine (S_loop hS).trans ?_
    conv => lhs; whnf
    repeat ((first
      | refine (V_all hS).trans ?_ | refine (fV_bool _ _).trans ?_ | refine (fN_eq _ _).trans ?_ | refine (S_cons hS).trans ?_ | refine (S_nil hS).trans ?_ | refine (nxB1 hS).trans ?_ | refine (nxB0 hS).trans ?_ | refine (newBlk_eq _ _ _).trans ?_ | refine (nxNc).trans ?_ | refine (nxLe).trans ?_ | refine (nxPn hS).trans ?_ | refine (nxLs).trans ?_ | refine (nxLt).trans ?_ | refine (S_draw0 hS (by rfl) (by kernel_rfl) (by rfl)).trans ?_ | refine (S_draw2 hS (by kernel_rfl) (by rfl)).trans ?_ | refine (nxZ).trans ?_ | refine (nxT hS).trans ?_ | refine (nxF hS).trans ?_ | refine (nxAdd hS).trans ?_ | refine (nxSub hS).trans ?_ | refine (nxMul hS).trans ?_ | refine (nxShr hS).trans ?_ | refine (nxShl hS).trans ?_ | refine (nxRem hS).trans ?_ | refine (nxQuo hS).trans ?_ | refine (nxOr hS).trans ?_ | refine (nxAnd hS).trans ?_ | refine (nxCv hS).trans ?_ | refine (nxC8 hS).trans ?_
      | refine (reads_nil).trans ?_ | refine (reads_off).trans ?_ | refine (reads_pure).trans ?_ | refine (reads_loud).trans ?_ | refine (reads_alloc).trans ?_ | refine (reads_0 (by rfl)).trans ?_ | refine (reads_1 (by rfl)).trans ?_ | refine (stages_nil).trans ?_ | refine (stages_yes (by rfl) (by rfl)).trans ?_ | refine (stages_no (by rfl)).trans ?_ | refine (nxLa).trans ?_ | refine (again_s hS).trans ?_ | refine (nxEq).trans ?_ | refine (fL_eq _ _).trans ?_ | refine (nxAt).trans ?_); (conv => lhs; whnf))
    first | done | rfl
  all_goals rfl
theorem skip_same (S : Nat → Prop) (h : Hp) (n : Nat) : Same S h ⟨h.t, h.next + n⟩ := ⟨Nat.le_add_right _ _, fun _ _ _ => rfl⟩
theorem refs_loop {S : Stops} (hS : S.Real B1) : ∀ (f : Nat) {s : List UInt8} {acc : List Entr} {tm : T Value} {h : Hp} {out : Value}, s.length ≤ f → acc.length + s.length < 1073741824 → Mine h out 33 3 acc.length (cellsE acc) →
    isFull 7 tm = true → tm.find 0 = some (.string ⟨⟨s⟩⟩) → tm.find 4 = some out → RefsEnd S f acc s tm h out := by
  intro f
  induction f with
  | zero =>
    intro s acc tm h out hf hlen o hfull h0 h4
    obtain rfl : s = [] := by cases s <;> simp_all
    obtain ⟨tm', a1, a2, a3⟩ := refs_end (h := h) hS hfull h0 h4
    refine ⟨.exit 0, tm', h, a1, fun l e => ⟨rfl, out, a2, ?_, fun j hj => .inr hj⟩, fun e => (by cases e), Same.refl h, 20, fun m hm R J K => ?_⟩
    · cases e
      exact o
    · obtain ⟨q, rfl⟩ : ∃ q, m = q + 20 := ⟨m - 20, by omega⟩
      exact a3 q R J K
  | succ f ih =>
    intro s acc tm h out hf hlen o hfull h0 h4
    cases s with
    | nil =>
      obtain ⟨tm', a1, a2, a3⟩ := refs_end (h := h) hS hfull h0 h4
      refine ⟨.exit 0, tm', h, a1, fun l e => ⟨rfl, out, a2, ?_, fun j hj => .inr hj⟩, fun e => (by cases e), Same.refl h, 20, fun m hm R J K => ?_⟩
      · cases e
        exact o
      · obtain ⟨q, rfl⟩ : ∃ q, m = q + 20 := ⟨m - 20, by omega⟩
        exact a3 q R J K
    | cons c r' =>
      simp only [List.length_cons] at hf hlen
      have hsl : 0 < (c :: r').length := by simp
      have hx : ByteAt (c :: r') 0 c.toNat := byteAt (by rfl)
      have hr' : (c :: r').drop 1 = r' := rfl
      obtain ⟨ob, on, oc, hout⟩ := slice_form o
      have hnew : ∀ j, blkOf out = some j → j < h.next := own_old o
      by_cases c1 : c.toNat = 1
      · rw [c1] at hx
        have hrn : rtext r' = none → rents (f + 1) acc (c :: r') = none := fun e => by unfold rents; rw [if_pos c1, e]
        cases ht : rtext r' with
        | none =>
          obtain ⟨NT, rT⟩ := refread_none (by omega) ht h
          subst hout
          exact refs_stop (hrn ht) (Same.refl h) (refents_1_t1 (key := []) (rest := []) hS hfull h0 h4 hsl hx hr' rT)
        | some p =>
          obtain ⟨key, rest⟩ := p
          have hlt := rtext_lt ht
          obtain ⟨NT, rT⟩ := refread_some (by omega) ht h
          let hT : Hp := ⟨h.t, h.next + 16⟩
          have sT : Same (fun _ => False) h hT := skip_same _ h 16
          have oT := o.same sT fun _ _ e => e
          let hE : Hp := withE hT (key, [], false)
          have sE : Same (fun _ => False) hT hE := withE_same _ hT _
          let hV : Hp := ⟨hE.t, hE.next + 16⟩
          have sV : Same (fun _ => False) hE hV := skip_same _ hE 16
          have hbV : hV.t.find hT.next = some (.cells 3 33 1 true true undef (putL [.string ⟨⟨key⟩⟩, .string ⟨⟨[]⟩⟩, .bool false] 0 (putL [.string ⟨⟨[]⟩⟩, .string ⟨⟨[]⟩⟩, .bool false] 0 .nil))) := withE_at hT (key, [], false)
          have hTn : hT.next = h.next + 16 := rfl
          have hVn : hV.next = h.next + 16 + 1 + 16 := rfl
          have sa : Same (fun j => blkOf out = some j ∨ h.next ≤ j) h hV := ((sT.trans sE).trans sV).mono fun _ _ e => e.elim
          have hrn2 : rtext rest = none → rents (f + 1) acc (c :: r') = none := fun e => by unfold rents; rw [if_pos c1, ht]; simp only; rw [e]
          have hrb : badKey acc key = true → rents (f + 1) acc (c :: r') = none := fun e => by
            cases ht2 : rtext rest with
            | none => exact hrn2 ht2
            | some p2 =>
              conv => lhs; unfold rents
              rw [if_pos c1, ht]
              simp only
              rw [ht2]
              simp only
              rw [e, if_pos rfl]
          rcases key_cases oT key with ⟨hnil, hbk⟩ | ⟨ok, last, hsome, hp, l1, ⟨hq, hbk⟩ | ⟨hq, hbk⟩⟩
          · subst hnil
            cases ht2 : rtext rest with
            | none =>
              obtain ⟨NV, rV⟩ := refread_none (by omega) ht2 hE
              have s4 := wr_same hE hT.next (.cells 3 33 1 true true undef (putL [.string ⟨⟨[]⟩⟩] 1 (putL [.string ⟨⟨key⟩⟩, .string ⟨⟨[]⟩⟩, .bool false] 0 (putL [.string ⟨⟨[]⟩⟩, .string ⟨⟨[]⟩⟩, .bool false] 0 .nil))))
              exact refs_stop (N := NT + NV) (hrn2 ht2) (((sT.trans sE).mono fun _ _ e => e.elim).trans (s4.mono fun j _ e => .inr (by omega))) (refents_1_first_t2 hS hfull h0 h4 hsl hx hr' (Gives.le rT (by omega)) (withE_at hT (key, [], false)) (Gives.le rV (by omega)))
            | some p2 =>
              obtain ⟨val, rest2⟩ := p2
              have hlt2 := rtext_lt ht2
              obtain ⟨NV, rV⟩ := refread_some (by omega) ht2 hE
              have s4 := wr_same hV hT.next (.cells 3 33 1 true true undef (putL [.string ⟨⟨val⟩⟩] 1 (putL [.string ⟨⟨key⟩⟩, .string ⟨⟨[]⟩⟩, .bool false] 0 (putL [.string ⟨⟨[]⟩⟩, .string ⟨⟨[]⟩⟩, .bool false] 0 .nil))))
              have h4at := wr_at hV hT.next (.cells 3 33 1 true true undef (putL [.string ⟨⟨val⟩⟩] 1 (putL [.string ⟨⟨key⟩⟩, .string ⟨⟨[]⟩⟩, .bool false] 0 (putL [.string ⟨⟨[]⟩⟩, .string ⟨⟨[]⟩⟩, .bool false] 0 .nil))))
              have sb := sa.trans (s4.mono fun j _ e => .inr (by omega))
              have o4 := ((oT.same sE fun _ _ e => e).same sV fun _ _ e => e).same s4 (fun j e => by cases e)
              have hreq : rents (f + 1) acc (c :: r') = rents f (acc ++ [(key, val, false)]) rest2 := by
                conv => lhs; unfold rents
                rw [if_pos c1, ht]
                simp only
                rw [ht2]
                simp only
                rw [hbk, if_neg (by simp)]
              obtain ⟨s2v, h6, ha, o6, s6, hb6⟩ := ent_append (a := key) (b := val) (g := false) o4 (by omega)
              exact refs_next (N := NT + NV) hreq (sb.trans (s6.mono fun j _ e => .inl e)) (fun j e => (hb6 j e).imp (fun e => by have e : hV.next ≤ j := e; omega) id)
                (refents_1_first_ok hS hfull h0 h4 hsl hx hr' (Gives.le rT (by omega)) hbV (Gives.le rV (by omega)) (loadsE h4at (by rfl) (by rfl) (by rfl)) ha)
                (fun tm2 a b d => ih (by omega) (by simp; omega) o6 a b d)
          · subst hsome
            have hq' : (Op.bytesLess key last || key == last) = false := by rw [← less_tri, hq]; rfl
            cases ht2 : rtext rest with
            | none =>
              obtain ⟨NV, rV⟩ := refread_none (by omega) ht2 hE
              have s4 := wr_same hE hT.next (.cells 3 33 1 true true undef (putL [.string ⟨⟨[]⟩⟩] 1 (putL [.string ⟨⟨key⟩⟩, .string ⟨⟨[]⟩⟩, .bool false] 0 (putL [.string ⟨⟨[]⟩⟩, .string ⟨⟨[]⟩⟩, .bool false] 0 .nil))))
              exact refs_stop (N := NT + NV) (hrn2 ht2) (((sT.trans sE).mono fun _ _ e => e.elim).trans (s4.mono fun j _ e => .inr (by omega))) (refents_1_ok_t2 hS hp (by omega) hfull h0 h4 hsl hx hr' (Gives.le rT (by omega)) l1 hq' (withE_at hT (key, [], false)) (Gives.le rV (by omega)))
            | some p2 =>
              obtain ⟨val, rest2⟩ := p2
              have hlt2 := rtext_lt ht2
              obtain ⟨NV, rV⟩ := refread_some (by omega) ht2 hE
              have s4 := wr_same hV hT.next (.cells 3 33 1 true true undef (putL [.string ⟨⟨val⟩⟩] 1 (putL [.string ⟨⟨key⟩⟩, .string ⟨⟨[]⟩⟩, .bool false] 0 (putL [.string ⟨⟨[]⟩⟩, .string ⟨⟨[]⟩⟩, .bool false] 0 .nil))))
              have h4at := wr_at hV hT.next (.cells 3 33 1 true true undef (putL [.string ⟨⟨val⟩⟩] 1 (putL [.string ⟨⟨key⟩⟩, .string ⟨⟨[]⟩⟩, .bool false] 0 (putL [.string ⟨⟨[]⟩⟩, .string ⟨⟨[]⟩⟩, .bool false] 0 .nil))))
              have sb := sa.trans (s4.mono fun j _ e => .inr (by omega))
              have o4 := ((oT.same sE fun _ _ e => e).same sV fun _ _ e => e).same s4 (fun j e => fun e' => by have := hnew j e; omega)
              have hreq : rents (f + 1) acc (c :: r') = rents f (acc ++ [(key, val, false)]) rest2 := by
                conv => lhs; unfold rents
                rw [if_pos c1, ht]
                simp only
                rw [ht2]
                simp only
                rw [hbk, if_neg (by simp)]
              obtain ⟨s2v, h6, ha, o6, s6, hb6⟩ := ent_append (a := key) (b := val) (g := false) o4 (by omega)
              exact refs_next (N := NT + NV) hreq (sb.trans (s6.mono fun j _ e => .inl e)) (fun j e => (hb6 j e).imp (fun e => by have e : hV.next ≤ j := e; omega) id)
                (refents_1_ok_ok hS hp (by omega) hfull h0 h4 hsl hx hr' (Gives.le rT (by omega)) l1 hq' hbV (Gives.le rV (by omega)) (loadsE h4at (by rfl) (by rfl) (by rfl)) ha)
                (fun tm2 a b d => ih (by omega) (by simp; omega) o6 a b d)
          · subst hsome
            have hq' : (Op.bytesLess key last || key == last) = true := by rw [← less_tri, hq]; rfl
            exact refs_stop (hrb hbk) (sT.mono fun _ _ e => e.elim) (refents_1_bad hS hp (by omega) hfull h0 h4 hsl hx hr' rT l1 hq')
      · by_cases c2 : c.toNat = 2
        · rw [c2] at hx
          cases ht : rtext r' with
          | none =>
            obtain ⟨NT, rT⟩ := refread_none (by omega) ht h
            subst hout
            exact refs_stop (by unfold rents; rw [if_neg c1, if_pos c2, ht]) (Same.refl h) (refents_2_t1 (key := []) (rest := []) hS hfull h0 h4 hsl hx hr' rT)
          | some p =>
            obtain ⟨key, rest⟩ := p
            have hlt := rtext_lt ht
            obtain ⟨NT, rT⟩ := refread_some (by omega) ht h
            let hT : Hp := ⟨h.t, h.next + 16⟩
            have sT : Same (fun _ => False) h hT := skip_same _ h 16
            have oT := o.same sT fun _ _ e => e
            let hE : Hp := withE hT (key, [], true)
            have sE : Same (fun _ => False) hT hE := withE_same _ hT _
            have hEn : hE.next = h.next + 16 + 1 := rfl
            have h4at := withE_at hT (key, [], true)
            have oE := oT.same sE fun _ _ e => e
            have sa : Same (fun j => blkOf out = some j ∨ h.next ≤ j) h hE := (sT.trans sE).mono fun _ _ e => e.elim
            have hreq : badKey acc key = false → rents (f + 1) acc (c :: r') = rents f (acc ++ [(key, [], true)]) rest := fun e => by
              conv => lhs; unfold rents
              rw [if_neg c1, if_pos c2, ht]
              simp only
              rw [e, if_neg (by simp)]
            have hrb : badKey acc key = true → rents (f + 1) acc (c :: r') = none := fun e => by
              conv => lhs; unfold rents
              rw [if_neg c1, if_pos c2, ht]
              simp only
              rw [e, if_pos rfl]
            obtain ⟨s2v, h6, ha, o6, s6, hb6⟩ := ent_append (a := key) (b := []) (g := true) oE (by omega)
            rcases key_cases oT key with ⟨hnil, hbk⟩ | ⟨ok, last, hsome, hp, l1, ⟨hq, hbk⟩ | ⟨hq, hbk⟩⟩
            · subst hnil
              exact refs_next (N := NT) (hreq hbk) (sa.trans (s6.mono fun j _ e => .inl e)) (fun j e => (hb6 j e).imp (fun e => by have e : hE.next ≤ j := e; omega) id)
                (refents_2_first hS hfull h0 h4 hsl hx hr' rT (loadsE h4at (by rfl) (by rfl) (by rfl)) ha) (fun tm2 a b d => ih (by omega) (by simp; omega) o6 a b d)
            · subst hsome
              have hq' : (Op.bytesLess key last || key == last) = false := by rw [← less_tri, hq]; rfl
              exact refs_next (N := NT) (hreq hbk) (sa.trans (s6.mono fun j _ e => .inl e)) (fun j e => (hb6 j e).imp (fun e => by have e : hE.next ≤ j := e; omega) id)
                (refents_2_ok hS hp (by omega) hfull h0 h4 hsl hx hr' rT l1 hq' (loadsE h4at (by rfl) (by rfl) (by rfl)) ha) (fun tm2 a b d => ih (by omega) (by simp; omega) o6 a b d)
            · subst hsome
              have hq' : (Op.bytesLess key last || key == last) = true := by rw [← less_tri, hq]; rfl
              exact refs_stop (hrb hbk) (sT.mono fun _ _ e => e.elim) (refents_2_bad hS hp (by omega) hfull h0 h4 hsl hx hr' rT l1 hq')
        · subst hout
          exact refs_stop (N := 0) (by unfold rents; rw [if_neg c1, if_neg c2]) (Same.refl h) (refents_x_bad hS c1 c2 hfull h0 h4 hsl hx hr')
/-- dedupref25.Entries: the same. -/
theorem refents_does {s : List UInt8} (hs : s.length < 1073741824) (h : Hp) :
    (∀ l, rents s.length [] s = some l → ∃ out h', Runs B1 16 [.string ⟨⟨s⟩⟩] h (.tuple ⟨[out, .int .i64 (.ofNat 0)]⟩) h' ∧ Mine h' out 33 3 l.length (cellsE l) ∧ Same (fun _ => False) h h' ∧ ∀ j, blkOf out = some j → h.next ≤ j) ∧
    (rents s.length [] s = none → ∃ h', Runs B1 16 [.string ⟨⟨s⟩⟩] h (.tuple ⟨[.slice none 0 0, .int .i64 (.ofNat 250)]⟩) h' ∧ Same (fun _ => False) h h') := by
  let tm0 : T Value := ((((fullT 7).put 0 (some (.string ⟨⟨s⟩⟩))).put 2 (some (.slice none 0 0))).put 3 (some (.int .i64 (.ofNat 0)))).put 4 (some (.slice none 0 0))
  obtain ⟨ex, tm', h', b1, b2, b3, b4, N, b5⟩ := refs_loop (stops_real B1) s.length (tm := tm0) (acc := []) (Nat.le_refl _) (by simpa using hs) (Mine.nil h 33 3) rfl rfl rfl
  have sAll : Same (fun _ => False) h h' := b4.mono fun j _ e => by cases e
  constructor
  · intro l hl
    obtain ⟨rfl, out, c1, c2, c3⟩ := b2 l hl
    refine ⟨out, h', ?_, c2, sAll, fun j hj => ?_⟩
    · obtain ⟨g, rfl⟩ := full_look b1 [(4, out)] (by simp [c1])
      refine runs_of B1 N fun S hS m hm R J c => ?_
      unfold enterS
      conv => lhs; whnf
      repeat ((first
        | refine (V_all hS).trans ?_ | refine (fV_bool _ _).trans ?_ | refine (fN_eq _ _).trans ?_ | refine (S_cons hS).trans ?_ | refine (S_nil hS).trans ?_ | refine (nxB1 hS).trans ?_ | refine (nxB0 hS).trans ?_ | refine (newBlk_eq _ _ _).trans ?_ | refine (nxNc).trans ?_ | refine (nxLe).trans ?_ | refine (nxPn hS).trans ?_ | refine (nxLs).trans ?_ | refine (nxLt).trans ?_ | refine (S_draw0 hS (by rfl) (by kernel_rfl) (by rfl)).trans ?_ | refine (S_draw2 hS (by kernel_rfl) (by rfl)).trans ?_ | refine (nxZ).trans ?_ | refine (nxT hS).trans ?_ | refine (nxF hS).trans ?_ | refine (nxAdd hS).trans ?_ | refine (nxSub hS).trans ?_ | refine (nxMul hS).trans ?_ | refine (nxShr hS).trans ?_ | refine (nxShl hS).trans ?_ | refine (nxRem hS).trans ?_ | refine (nxQuo hS).trans ?_ | refine (nxOr hS).trans ?_ | refine (nxAnd hS).trans ?_ | refine (nxCv hS).trans ?_ | refine (nxC8 hS).trans ?_
        | refine (reads_nil).trans ?_ | refine (reads_off).trans ?_ | refine (reads_pure).trans ?_ | refine (reads_loud).trans ?_ | refine (reads_alloc).trans ?_ | refine (reads_0 (by rfl)).trans ?_ | refine (reads_1 (by rfl)).trans ?_ | refine (stages_nil).trans ?_ | refine (stages_yes (by rfl) (by rfl)).trans ?_ | refine (stages_no (by rfl)).trans ?_ | refine (nxLa).trans ?_ | refine (again_s hS).trans ?_ | refine (nxEq).trans ?_ | refine (fL_eq _ _).trans ?_ | refine (nxAt).trans ?_); (conv => lhs; whnf))
      refine (S_run hS (x := ?_) ?_).trans ?_
      rotate_left
      · refine b5 _ ?_ R J _
        omega
      conv => lhs; whnf
      repeat ((first
        | refine (V_all hS).trans ?_ | refine (fV_bool _ _).trans ?_ | refine (fN_eq _ _).trans ?_ | refine (S_cons hS).trans ?_ | refine (S_nil hS).trans ?_ | refine (nxB1 hS).trans ?_ | refine (nxB0 hS).trans ?_ | refine (newBlk_eq _ _ _).trans ?_ | refine (nxNc).trans ?_ | refine (nxLe).trans ?_ | refine (nxPn hS).trans ?_ | refine (nxLs).trans ?_ | refine (nxLt).trans ?_ | refine (S_draw0 hS (by rfl) (by kernel_rfl) (by rfl)).trans ?_ | refine (S_draw2 hS (by kernel_rfl) (by rfl)).trans ?_ | refine (nxZ).trans ?_ | refine (nxT hS).trans ?_ | refine (nxF hS).trans ?_ | refine (nxAdd hS).trans ?_ | refine (nxSub hS).trans ?_ | refine (nxMul hS).trans ?_ | refine (nxShr hS).trans ?_ | refine (nxShl hS).trans ?_ | refine (nxRem hS).trans ?_ | refine (nxQuo hS).trans ?_ | refine (nxOr hS).trans ?_ | refine (nxAnd hS).trans ?_ | refine (nxCv hS).trans ?_ | refine (nxC8 hS).trans ?_
        | refine (reads_nil).trans ?_ | refine (reads_off).trans ?_ | refine (reads_pure).trans ?_ | refine (reads_loud).trans ?_ | refine (reads_alloc).trans ?_ | refine (reads_0 (by rfl)).trans ?_ | refine (reads_1 (by rfl)).trans ?_ | refine (stages_nil).trans ?_ | refine (stages_yes (by rfl) (by rfl)).trans ?_ | refine (stages_no (by rfl)).trans ?_ | refine (nxLa).trans ?_ | refine (again_s hS).trans ?_ | refine (nxEq).trans ?_ | refine (fL_eq _ _).trans ?_ | refine (nxAt).trans ?_); (conv => lhs; whnf))
      rfl
    · rcases c3 j hj with e | e
      · exact e
      · cases e
  · intro hl
    obtain ⟨rfl, c1, c2⟩ := b3 hl
    refine ⟨h', ?_, sAll⟩
    obtain ⟨g, rfl⟩ := full_look b1 [(2, .slice none 0 0), (3, .int .i64 (.ofNat 250))] (by simp [c1, c2])
    refine runs_of B1 N fun S hS m hm R J c => ?_
    unfold enterS
    conv => lhs; whnf
    repeat ((first
      | refine (V_all hS).trans ?_ | refine (fV_bool _ _).trans ?_ | refine (fN_eq _ _).trans ?_ | refine (S_cons hS).trans ?_ | refine (S_nil hS).trans ?_ | refine (nxB1 hS).trans ?_ | refine (nxB0 hS).trans ?_ | refine (newBlk_eq _ _ _).trans ?_ | refine (nxNc).trans ?_ | refine (nxLe).trans ?_ | refine (nxPn hS).trans ?_ | refine (nxLs).trans ?_ | refine (nxLt).trans ?_ | refine (S_draw0 hS (by rfl) (by kernel_rfl) (by rfl)).trans ?_ | refine (S_draw2 hS (by kernel_rfl) (by rfl)).trans ?_ | refine (nxZ).trans ?_ | refine (nxT hS).trans ?_ | refine (nxF hS).trans ?_ | refine (nxAdd hS).trans ?_ | refine (nxSub hS).trans ?_ | refine (nxMul hS).trans ?_ | refine (nxShr hS).trans ?_ | refine (nxShl hS).trans ?_ | refine (nxRem hS).trans ?_ | refine (nxQuo hS).trans ?_ | refine (nxOr hS).trans ?_ | refine (nxAnd hS).trans ?_ | refine (nxCv hS).trans ?_ | refine (nxC8 hS).trans ?_
      | refine (reads_nil).trans ?_ | refine (reads_off).trans ?_ | refine (reads_pure).trans ?_ | refine (reads_loud).trans ?_ | refine (reads_alloc).trans ?_ | refine (reads_0 (by rfl)).trans ?_ | refine (reads_1 (by rfl)).trans ?_ | refine (stages_nil).trans ?_ | refine (stages_yes (by rfl) (by rfl)).trans ?_ | refine (stages_no (by rfl)).trans ?_ | refine (nxLa).trans ?_ | refine (again_s hS).trans ?_ | refine (nxEq).trans ?_ | refine (fL_eq _ _).trans ?_ | refine (nxAt).trans ?_); (conv => lhs; whnf))
    refine (S_run hS (x := ?_) ?_).trans ?_
    rotate_left
    · refine b5 _ ?_ R J _
      omega
    conv => lhs; whnf
    repeat ((first
      | refine (V_all hS).trans ?_ | refine (fV_bool _ _).trans ?_ | refine (fN_eq _ _).trans ?_ | refine (S_cons hS).trans ?_ | refine (S_nil hS).trans ?_ | refine (nxB1 hS).trans ?_ | refine (nxB0 hS).trans ?_ | refine (newBlk_eq _ _ _).trans ?_ | refine (nxNc).trans ?_ | refine (nxLe).trans ?_ | refine (nxPn hS).trans ?_ | refine (nxLs).trans ?_ | refine (nxLt).trans ?_ | refine (S_draw0 hS (by rfl) (by kernel_rfl) (by rfl)).trans ?_ | refine (S_draw2 hS (by kernel_rfl) (by rfl)).trans ?_ | refine (nxZ).trans ?_ | refine (nxT hS).trans ?_ | refine (nxF hS).trans ?_ | refine (nxAdd hS).trans ?_ | refine (nxSub hS).trans ?_ | refine (nxMul hS).trans ?_ | refine (nxShr hS).trans ?_ | refine (nxShl hS).trans ?_ | refine (nxRem hS).trans ?_ | refine (nxQuo hS).trans ?_ | refine (nxOr hS).trans ?_ | refine (nxAnd hS).trans ?_ | refine (nxCv hS).trans ?_ | refine (nxC8 hS).trans ?_
      | refine (reads_nil).trans ?_ | refine (reads_off).trans ?_ | refine (reads_pure).trans ?_ | refine (reads_loud).trans ?_ | refine (reads_alloc).trans ?_ | refine (reads_0 (by rfl)).trans ?_ | refine (reads_1 (by rfl)).trans ?_ | refine (stages_nil).trans ?_ | refine (stages_yes (by rfl) (by rfl)).trans ?_ | refine (stages_no (by rfl)).trans ?_ | refine (nxLa).trans ?_ | refine (again_s hS).trans ?_ | refine (nxEq).trans ?_ | refine (fL_eq _ _).trans ?_ | refine (nxAt).trans ?_); (conv => lhs; whnf))
    rfl
end Go.Proofs.YtopkigockpiggaaGreat
