/-
  vol.Entries, walked.
-/
import Derived.Test.YtopkigockpiggaaGreatEvSeatRecord2
set_option maxRecDepth 100000
set_option linter.unusedVariables false
set_option linter.unusedSimpArgs false
open Go Go.Ev
namespace Go.Proofs.YtopkigockpiggaaGreat
attribute [local irreducible] loadAt storeAt newBlk newCells writeAt appendK binK indexAddrK indexK sliceK lenK convK fN fV fL boolK maxK zeroOf enterK drawK rowsK leK okK readsK stagesK lastK againK eqvK
theorem loadsE {h : Hp} {k : Nat} {el : TypeId} {z : Nat} {mu pl : Bool} {d : Value} {tr : T Value} {x y : List UInt8} {g : Bool} (hb : h.t.find k = some (.cells 3 el z mu pl d tr)) (h0 : tr.find 0 = some (.string ⟨⟨x⟩⟩)) (h1 : tr.find 1 = some (.string ⟨⟨y⟩⟩)) (h2 : tr.find 2 = some (.bool g)) : LoadsE h k x y g :=
  fun R c => load_agg (t := 33) (by rfl) (by rfl) (by rfl) hb (by decide) (by rfl) (fun i hi => by
    have hi : i < 3 := hi
    have : i = 0 ∨ i = 1 ∨ i = 2 := by omega
    unfold blkGet
    rcases this with rfl | rfl | rfl
    · rw [Nat.zero_add, h0]; rfl
    · rw [Nat.zero_add, h1]; rfl
    · rw [Nat.zero_add, h2]; rfl) c
/-- a row of one entry. -/
theorem rowE_span (h : Hp) (v : List Value) (hv : v.length = 3) (cap : Nat) : Span (rowE h v) (.slice (some ⟨h.next, 0, none⟩) 1 cap) 3 1 v :=
  ⟨hv, .inr ⟨h.next, 0, cap, 3, 33, true, true, undef, _, rfl, Nat.lt_succ_self _, by show (h.t.put _ _).find _ = _; rw [T.find_put, if_pos rfl], by decide, fun i hi => by rw [Nat.zero_add]; exact putL_row hv i hi⟩⟩
theorem rowE_same (S : Nat → Prop) (h : Hp) (v : List Value) : Same S h (rowE h v) := same_new S h _
theorem cellsE_snoc (l : List Entr) (a b : List UInt8) (g : Bool) : cellsE (l ++ [(a, b, g)]) = cellsE l ++ [.string ⟨⟨a⟩⟩, .string ⟨⟨b⟩⟩, .bool g] := by simp [cellsE]
/-- an entry is put behind the others. -/
theorem ent_append {h : Hp} {out : Value} {acc : List Entr} {a b : List UInt8} {g : Bool} (o : Mine h out 33 3 acc.length (cellsE acc)) (hn : acc.length + 1 ≤ 1073741824) :
    ∃ s2 h6, (∀ (R : Type) (c : Value → Hp → An R), appendK B1 27 27 out (.slice (some ⟨h.next, 0, none⟩) 1 1) (rowE h [.string ⟨⟨a⟩⟩, .string ⟨⟨b⟩⟩, .bool g]) c = c s2 h6) ∧ Mine h6 s2 33 3 (acc ++ [(a, b, g)]).length (cellsE (acc ++ [(a, b, g)])) ∧
      Same (fun j => blkOf out = some j) h h6 ∧ ∀ k, blkOf s2 = some k → h.next ≤ k ∨ blkOf out = some k := by
  obtain ⟨s2, h6, ha, hm, hs, hnx, hb⟩ := append_span A33 u27 (o.same (rowE_same (fun _ => False) h _) fun _ _ e => e) (rowE_span h [.string ⟨⟨a⟩⟩, .string ⟨⟨b⟩⟩, .bool g] rfl 1) (cellsE_ok _) rfl hn
  refine ⟨s2, h6, ha, ?_, ((rowE_same _ h _).trans hs), fun k hk => ?_⟩
  · rw [cellsE_snoc]
    have : (acc ++ [(a, b, g)]).length = acc.length + 1 := by simp
    rw [this]
    exact hm
  · rcases hb k hk with e | e
    · left; rw [e]; exact Nat.le_succ _
    · exact .inr e
/-- the last of some entries' keys. -/
theorem last_load {h : Hp} {ok : Nat} {acc : List Entr} {e : Entr} (o : Mine h (.slice (some ⟨ok, 0, none⟩) acc.length TOP) 33 3 acc.length (cellsE acc)) (he : acc.getLast? = some e) : LoadsS h ok (0 + (acc.length - 1) * 3) e.1 := by
  rw [List.getLast?_eq_getElem?] at he
  obtain ⟨c0, _, _⟩ := cellsE_at he
  have hp : 0 < acc.length := by
    cases acc with
    | nil => cases he
    | cons a l => simp
  obtain ⟨hl, hx⟩ := o
  rcases hx with ⟨h0, _⟩ | ⟨k, d, tr, hx, _, hk, hf, hL⟩
  · omega
  · cases hx
    have h3 := hL ((acc.length - 1) * 3) (by omega)
    rw [c0] at h3
    exact fun R c => load_one (t := 9) u9 (by rfl) hf (by omega) (by rw [Nat.zero_add]; exact (Option.some.inj h3).symm) c
/-- either none, or the last one's block. -/
theorem mine_cases {h : Hp} {out : Value} {acc : List Entr} (o : Mine h out 33 3 acc.length (cellsE acc)) : (acc = [] ∧ out = .slice none 0 0) ∨ (∃ ok e, out = .slice (some ⟨ok, 0, none⟩) acc.length TOP ∧ acc.getLast? = some e ∧ 0 < acc.length ∧ ok < h.next) := by
  rcases o.2 with ⟨h0, rfl⟩ | ⟨k, d, tr, rfl, hp, hk, _⟩
  · exact .inl ⟨by cases acc <;> simp_all, rfl⟩
  · right
    have : acc ≠ [] := by intro e; subst e; simp at hp
    exact ⟨k, acc.getLast this, rfl, List.getLast?_eq_some_getLast this, hp, hk⟩
theorem slice_form {h : Hp} {out : Value} {acc : List Entr} (o : Mine h out 33 3 acc.length (cellsE acc)) : ∃ ob on oc, out = .slice ob on oc := by
  rcases mine_cases o with ⟨_, rfl⟩ | ⟨_, _, rfl, _⟩ <;> exact ⟨_, _, _, rfl⟩
theorem badKey_nil (key : List UInt8) : badKey [] key = false := rfl
theorem badKey_last {acc : List Entr} {e : Entr} (he : acc.getLast? = some e) (key : List UInt8) : badKey acc key = !(Op.bytesLess e.1 key) := by unfold badKey; rw [he]
/-- how the rounds of vol.Entries end. -/
noncomputable def EntsEnd (S : Stops) (k f : Nat) (acc : List Entr) (s : List UInt8) (tm : T Value) (h : Hp) (out : Value) : Prop :=
  ∃ ex tm' h', isFull 6 tm' = true ∧ (∀ l, rents f acc s = some l → ex = .exit 0 ∧ ∃ out', tm'.find 5 = some out' ∧ Mine h' out' 33 3 l.length (cellsE l) ∧ ∀ j, blkOf out' = some j → h.next ≤ j ∨ blkOf out = some j) ∧
    (rents f acc s = none → ex = .ret ∧ tm'.find 2 = some (.slice none 0 0) ∧ tm'.find 3 = some (.int .i64 (.ofNat 250))) ∧ Same (fun j => j = k ∨ blkOf out = some j) h h' ∧
    ∃ N, ∀ m, N ≤ m → ∀ R J K, S.W R J m (loopB B1 11 0) ⟨tm, h, 59, 11, none, []⟩ K = K ex ⟨tm', h', 59, 11, none, []⟩
theorem ents_stop {S : Stops} {k f N : Nat} {acc : List Entr} {s : List UInt8} {tm : T Value} {h h4 : Hp} {out : Value} (hr : rents f acc s = none) (hP : Same (fun j => (j = k ∨ blkOf out = some j) ∨ h.next ≤ j) h h4)
    (hstep : ∃ tm', isFull 6 tm' = true ∧ tm'.find 2 = some (.slice none 0 0) ∧ tm'.find 3 = some (.int .i64 (.ofNat 250)) ∧ ∀ m, N ≤ m → ∀ R J K, S.W R J (m + 20) (loopB B1 11 0) ⟨tm, h, 59, 11, none, []⟩ K = K .ret ⟨tm', h4, 59, 11, none, []⟩) : EntsEnd S k f acc s tm h out := by
  obtain ⟨tm', a1, a2, a3, a4⟩ := hstep
  refine ⟨.ret, tm', h4, a1, fun l e => (by rw [hr] at e; cases e), fun _ => ⟨rfl, a2, a3⟩, hP.mono fun j hj e => ?_, N + 20, fun m hm R J K => ?_⟩
  · rcases e with e | e
    · exact e
    · omega
  · obtain ⟨q, rfl⟩ : ∃ q, m = q + 20 := ⟨m - 20, by omega⟩
    exact a4 q (by omega) R J K
theorem ents_next {S : Stops} {k f N : Nat} {acc : List Entr} {e : Entr} {s rest : List UInt8} {tm : T Value} {h h6 : Hp} {out s2 : Value} (hr : rents (f + 1) acc s = rents f (acc ++ [e]) rest) (hP : Same (fun j => (j = k ∨ blkOf out = some j) ∨ h.next ≤ j) h h6)
    (hb6 : ∀ j, blkOf s2 = some j → h.next ≤ j ∨ blkOf out = some j)
    (hstep : ∃ tm2, isFull 6 tm2 = true ∧ tm2.find 4 = some (ptr k) ∧ tm2.find 5 = some s2 ∧ ∀ m, N ≤ m → ∀ R J K, S.W R J (m + 20) (loopB B1 11 0) ⟨tm, h, 59, 11, none, []⟩ K = S.W R J (m + 19) (loopB B1 11 0) ⟨tm2, h6, 59, 11, none, []⟩ K)
    (ih : ∀ tm2, isFull 6 tm2 = true → tm2.find 4 = some (ptr k) → tm2.find 5 = some s2 → EntsEnd S k f (acc ++ [e]) rest tm2 h6 s2) : EntsEnd S k (f + 1) acc s tm h out := by
  obtain ⟨tm2, a1, a2, a3, a4⟩ := hstep
  obtain ⟨ex, tm', h', b1, b2, b3, b4, N', b5⟩ := ih tm2 a1 a2 a3
  have hn := hP.1
  have hP' : Same (fun j => (j = k ∨ blkOf out = some j) ∨ h.next ≤ j) h h' := hP.trans (b4.mono fun j hj e => by
    rcases e with e | e
    · exact .inl (.inl e)
    · rcases hb6 j e with e | e
      · exact .inr e
      · exact .inl (.inr e))
  refine ⟨ex, tm', h', b1, fun l e => ?_, fun e => b3 (hr ▸ e), hP'.mono fun j hj e => ?_, N + N' + 20, fun m hm R J K => ?_⟩
  · obtain ⟨c1, out', c2, c3, c4⟩ := b2 l (hr ▸ e)
    refine ⟨c1, out', c2, c3, fun j hj => ?_⟩
    rcases c4 j hj with e | e
    · exact .inl (Nat.le_trans hn e)
    · exact hb6 j e
  · rcases e with e | e
    · exact e
    · omega
  · obtain ⟨q, rfl⟩ : ∃ q, m = q + 20 := ⟨m - 20, by omega⟩
    rw [a4 q (by omega)]
    exact b5 _ (by omega) R J K
theorem ents_end {S : Stops} (hS : S.Real B1) {tm : T Value} {h : Hp} {k N : Nat} {out : Value} (hf : isFull 6 tm = true) (h4 : tm.find 4 = some (ptr k)) (h5 : tm.find 5 = some out) (rL : Gives N 42 [ptr k] h (.int .i64 (.ofNat 0)) h) :
    ∃ tm', isFull 6 tm' = true ∧ tm'.find 5 = some out ∧ ∀ m, N ≤ m → ∀ R J K, S.W R J (m + 20) (loopB B1 11 0) ⟨tm, h, 59, 11, none, []⟩ K = K (.exit 0) ⟨tm', h, 59, 11, none, []⟩ := by
  obtain ⟨g, rfl⟩ := full_look hf [(4, ptr k), (5, out)] (by simp [h4, h5])
  refine ⟨?tm, ?_, ?_, ?walk⟩
  case walk =>
    intro m hm R J K
    refine (S_loop hS).trans ?_
    conv => lhs; whnf
    repeat ((first
      | refine (V_all hS).trans ?_ | refine (fV_bool _ _).trans ?_ | refine (fN_eq _ _).trans ?_ | refine (S_cons hS).trans ?_ | refine (S_nil hS).trans ?_ | refine (nxB1 hS).trans ?_ | refine (nxB0 hS).trans ?_ | refine (newBlk_eq _ _ _).trans ?_ | refine (nxNc).trans ?_ | refine (nxLe).trans ?_ | refine (nxPn hS).trans ?_ | refine (nxLs).trans ?_ | refine (nxLt).trans ?_ | refine (S_draw0 hS (by rfl) (by kernel_rfl) (by rfl)).trans ?_ | refine (S_draw2 hS (by kernel_rfl) (by rfl)).trans ?_ | refine (nxZ).trans ?_ | refine (nxT hS).trans ?_ | refine (nxF hS).trans ?_ | refine (nxAdd hS).trans ?_ | refine (nxSub hS).trans ?_ | refine (nxMul hS).trans ?_ | refine (nxShr hS).trans ?_ | refine (nxShl hS).trans ?_ | refine (nxRem hS).trans ?_ | refine (nxQuo hS).trans ?_ | refine (nxOr hS).trans ?_ | refine (nxAnd hS).trans ?_ | refine (nxCv hS).trans ?_ | refine (nxC8 hS).trans ?_
      | refine (reads_nil).trans ?_ | refine (reads_off).trans ?_ | refine (reads_pure).trans ?_ | refine (reads_loud).trans ?_ | refine (reads_alloc).trans ?_ | refine (reads_0 (by rfl)).trans ?_ | refine (reads_1 (by rfl)).trans ?_ | refine (stages_nil).trans ?_ | refine (stages_yes (by rfl) (by rfl)).trans ?_ | refine (stages_no (by rfl)).trans ?_ | refine (nxLa).trans ?_ | refine (again_s hS).trans ?_ | refine (nxEq).trans ?_ | refine (fL_eq _ _).trans ?_ | refine (nxAt).trans ?_ | refine (S_call hS fun R J c => rL _ (by omega) R J c).trans ?_); (conv => lhs; whnf))
  all_goals rfl
/-- an entry that is put behind the others, or may not be. -/
theorem key_cases {h : Hp} {out : Value} {acc : List Entr} (o : Mine h out 33 3 acc.length (cellsE acc)) (key : List UInt8) :
    (out = .slice none 0 0 ∧ badKey acc key = false) ∨
    (∃ ok last, out = .slice (some ⟨ok, 0, none⟩) acc.length TOP ∧ 0 < acc.length ∧ LoadsS h ok (0 + (acc.length - 1) * 3) last ∧ ((Op.bytesLess last key = true ∧ badKey acc key = false) ∨ (Op.bytesLess last key = false ∧ badKey acc key = true))) := by
  rcases mine_cases o with ⟨rfl, rfl⟩ | ⟨ok, e, rfl, he, hp, _⟩
  · exact .inl ⟨rfl, rfl⟩
  · refine .inr ⟨ok, e.1, rfl, hp, last_load o he, ?_⟩
    rw [badKey_last he]
    cases Op.bytesLess e.1 key
    · exact .inr ⟨rfl, rfl⟩
    · exact .inl ⟨rfl, rfl⟩
theorem ents_loop {S : Stops} (hS : S.Real B1) {k : Nat} : ∀ (f : Nat) {s : List UInt8} {acc : List Entr} {tm : T Value} {h : Hp} {out : Value}, s.length ≤ f → acc.length + s.length < 1073741824 → Rd h k s 0 → Mine h out 33 3 acc.length (cellsE acc) → blkOf out ≠ some k →
    isFull 6 tm = true → tm.find 4 = some (ptr k) → tm.find 5 = some out → EntsEnd S k f acc s tm h out := by
  intro f
  induction f with
  | zero =>
    intro s acc tm h out hf hlen r o hk hfull h4 h5
    obtain rfl : s = [] := by cases s <;> simp_all
    obtain ⟨N, rL⟩ := left_does r
    obtain ⟨tm', a1, a2, a3⟩ := ents_end hS hfull h4 h5 rL
    refine ⟨.exit 0, tm', h, a1, fun l e => ⟨rfl, out, a2, ?_, fun j hj => .inr hj⟩, fun e => (by cases e), Same.refl h, N + 20, fun m hm R J K => ?_⟩
    · cases e
      exact o
    · obtain ⟨q, rfl⟩ : ∃ q, m = q + 20 := ⟨m - 20, by omega⟩
      exact a3 q (by omega) R J K
  | succ f ih =>
    intro s acc tm h out hf hlen r o hk hfull h4 h5
    have hkn : k < h.next := by obtain ⟨_, _, _, _, _, _, _, _, hn⟩ := r; exact hn
    cases s with
    | nil =>
      obtain ⟨N, rL⟩ := left_does r
      obtain ⟨tm', a1, a2, a3⟩ := ents_end hS hfull h4 h5 rL
      refine ⟨.exit 0, tm', h, a1, fun l e => ⟨rfl, out, a2, ?_, fun j hj => .inr hj⟩, fun e => (by cases e), Same.refl h, N + 20, fun m hm R J K => ?_⟩
      · cases e
        exact o
      · obtain ⟨q, rfl⟩ : ∃ q, m = q + 20 := ⟨m - 20, by omega⟩
        exact a3 q (by omega) R J K
    | cons c r' =>
      simp only [List.length_cons] at hf hlen
      obtain ⟨NL, rL⟩ := left_does r
      obtain ⟨h1, ⟨NU, rU⟩, r1, s1⟩ := ru8_does r
      have s1' : Same (fun j => (j = k ∨ blkOf out = some j) ∨ h.next ≤ j) h h1 := s1.mono fun j _ e => .inl (.inl e)
      have hsl : 0 < (c :: r').length := by simp
      obtain ⟨ob, on, oc, hout⟩ := slice_form o
      by_cases c1 : c.toNat = 1
      · rw [c1] at rU
        have hrn : rtext r' = none → rents (f + 1) acc (c :: r') = none := fun e => by unfold rents; rw [if_pos c1, e]
        cases ht : rtext r' with
        | none =>
          obtain ⟨h2, s', e, he, he2, ⟨NT, rT⟩, r2, s2⟩ := rtext_none r1 (by omega) ht
          have sE : Same (fun _ => False) h2 (withE h2 ([], [], false)) := withE_same _ h2 _
          have rE := r2.same sE fun e => e
          obtain ⟨NV, rV⟩ := rtext_bad rE he
          have s3 := wr_same (withE h2 ([], [], false)) h2.next (.cells 3 33 1 true true undef (putL [.string ⟨⟨[]⟩⟩] 1 (putL [.string ⟨⟨[]⟩⟩, .string ⟨⟨[]⟩⟩, .bool false] 0 (putL [.string ⟨⟨[]⟩⟩, .string ⟨⟨[]⟩⟩, .bool false] 0 .nil))))
          have hk2 : k < h2.next := Nat.lt_of_lt_of_le hkn (Nat.le_trans s1.1 s2.1)
          obtain ⟨NE, rEr⟩ := err_does (rE.same s3 (by omega))
          have hn2 : h.next ≤ h2.next := Nat.le_trans s1.1 s2.1
          subst hout
          refine ents_stop (N := NL + NU + NT + NV + NE) (hrn ht) ?_ (ents_1_err hS hfull h4 h5 hsl (Gives.le rL (by omega)) (Gives.le rU (by omega)) (Gives.le rT (by omega)) (Gives.le rV (by omega)) (withE_at h2 ([], [], false)) (Gives.le rEr (by omega)) he he2)
          exact (s1'.trans (s2.mono fun j _ e => .inl (.inl e))).trans ((sE.mono fun _ _ e => e.elim).trans (s3.mono fun j _ e => .inr (by omega)))
        | some p =>
          obtain ⟨key, rest⟩ := p
          obtain ⟨h2, ⟨NT, rT⟩, r2, s2⟩ := rtext_some r1 (by omega) ht
          have hlt := rtext_lt ht
          have hn2 : h.next ≤ h2.next := Nat.le_trans s1.1 s2.1
          have hk2 : k < h2.next := by omega
          have sE : Same (fun _ => False) h2 (withE h2 (key, [], false)) := withE_same _ h2 _
          have rE := r2.same sE fun e => e
          have hrn2 : rtext rest = none → rents (f + 1) acc (c :: r') = none := fun e => by unfold rents; rw [if_pos c1, ht]; simp only; rw [e]
          have sa : Same (fun j => (j = k ∨ blkOf out = some j) ∨ h.next ≤ j) h (withE h2 (key, [], false)) := (s1'.trans (s2.mono fun j _ e => .inl (.inl e))).trans (sE.mono fun _ _ e => e.elim)
          cases ht2 : rtext rest with
          | none =>
            obtain ⟨h3, s', e, he, he2, ⟨NV, rV⟩, r3, s3⟩ := rtext_none rE (by omega) ht2
            have hb3 := (s3.2 h2.next (Nat.lt_succ_self _) (by omega)).trans (withE_at h2 (key, [], false))
            have s4 := wr_same h3 h2.next (.cells 3 33 1 true true undef (putL [.string ⟨⟨[]⟩⟩] 1 (putL [.string ⟨⟨key⟩⟩, .string ⟨⟨[]⟩⟩, .bool false] 0 (putL [.string ⟨⟨[]⟩⟩, .string ⟨⟨[]⟩⟩, .bool false] 0 .nil))))
            obtain ⟨NE, rEr⟩ := err_does (r3.same s4 (by omega))
            subst hout
            refine ents_stop (N := NL + NU + NT + NV + NE) (hrn2 ht2) ?_ (ents_1_err hS hfull h4 h5 hsl (Gives.le rL (by omega)) (Gives.le rU (by omega)) (Gives.le rT (by omega)) (Gives.le rV (by omega)) hb3 (Gives.le rEr (by omega)) he he2)
            exact sa.trans ((s3.mono fun j _ e => .inl (.inl e)).trans (s4.mono fun j _ e => .inr (by omega)))
          | some p2 =>
            obtain ⟨val, rest2⟩ := p2
            obtain ⟨h3, ⟨NV, rV⟩, r3, s3⟩ := rtext_some rE (by omega) ht2
            have hlt2 := rtext_lt ht2
            have hb3 := (s3.2 h2.next (Nat.lt_succ_self _) (by omega)).trans (withE_at h2 (key, [], false))
            have s4 := wr_same h3 h2.next (.cells 3 33 1 true true undef (putL [.string ⟨⟨val⟩⟩] 1 (putL [.string ⟨⟨key⟩⟩, .string ⟨⟨[]⟩⟩, .bool false] 0 (putL [.string ⟨⟨[]⟩⟩, .string ⟨⟨[]⟩⟩, .bool false] 0 .nil))))
            have h4at := wr_at h3 h2.next (.cells 3 33 1 true true undef (putL [.string ⟨⟨val⟩⟩] 1 (putL [.string ⟨⟨key⟩⟩, .string ⟨⟨[]⟩⟩, .bool false] 0 (putL [.string ⟨⟨[]⟩⟩, .string ⟨⟨[]⟩⟩, .bool false] 0 .nil))))
            have r4 := r3.same s4 (by omega)
            obtain ⟨NE, rEr⟩ := err_does r4
            have sb := sa.trans ((s3.mono fun j _ e => .inl (.inl e)).trans (s4.mono fun j _ e => .inr (by omega)))
            have hnew : ∀ j, blkOf out = some j → j < h.next := own_old o
            have o4 := ((((o.same s1 (fun j e => fun e' => hk (e' ▸ e))).same s2 (fun j e => fun e' => hk (e' ▸ e))).same sE (fun _ _ e => e)).same s3 (fun j e => fun e' => hk (e' ▸ e))).same s4 (fun j e => fun e' => by have := hnew j e; omega)
            have hreq : badKey acc key = false → rents (f + 1) acc (c :: r') = rents f (acc ++ [(key, val, false)]) rest2 := fun e => by
              conv => lhs; unfold rents
              rw [if_pos c1, ht]
              simp only
              rw [ht2]
              simp only
              rw [e, if_neg (by simp)]
            have hrb : badKey acc key = true → rents (f + 1) acc (c :: r') = none := fun e => by
              conv => lhs; unfold rents
              rw [if_pos c1, ht]
              simp only
              rw [ht2]
              simp only
              rw [e, if_pos rfl]
            obtain ⟨s2v, h6, ha, o6, s6, hb6⟩ := ent_append (a := key) (b := val) (g := false) o4 (by omega)
            have hb6' : ∀ j, blkOf s2v = some j → h.next ≤ j ∨ blkOf out = some j := fun j e => by
              rcases hb6 j e with e | e
              · left
                have n1 := s3.1
                have n2 : h2.next + 1 ≤ h3.next := n1
                have : h3.next ≤ j := e
                omega
              · exact .inr e
            have r6 := r4.same s6 (fun e => hk e)
            have sc := sb.trans (s6.mono fun j _ e => .inl (.inr e))
            have hk6 : blkOf s2v ≠ some k := fun e => by
              rcases hb6' k e with e | e
              · omega
              · exact hk e
            have ih' := fun tm2 a b c => ih (tm := tm2) (by omega) (by simp; omega) r6 o6 hk6 a b c
            rcases key_cases o4 key with ⟨hnil, hbk⟩ | ⟨ok, last, hsome, hp, l1, ⟨hq, hbk⟩ | ⟨hq, hbk⟩⟩
            · subst hnil
              exact ents_next (hreq hbk) sc hb6' (ents_1_first (N := NL + NU + NT + NV + NE) (e := 0) hS hfull h4 h5 hsl (Gives.le rL (by omega)) (Gives.le rU (by omega)) (Gives.le rT (by omega)) (Gives.le rV (by omega)) hb3 (Gives.le rEr (by omega)) (loadsE h4at (by rfl) (by rfl) (by rfl)) ha) ih'
            · subst hsome
              exact ents_next (hreq hbk) sc hb6' (ents_1_ok (N := NL + NU + NT + NV + NE) (e := 0) hS hp (by omega) hfull h4 h5 hsl (Gives.le rL (by omega)) (Gives.le rU (by omega)) (Gives.le rT (by omega)) (Gives.le rV (by omega)) hb3 (Gives.le rEr (by omega)) l1 (loadsS h4at (by decide) (by rfl)) hq (loadsE h4at (by rfl) (by rfl) (by rfl)) ha) ih'
            · subst hsome
              exact ents_stop (hrb hbk) sb (ents_1_bad (N := NL + NU + NT + NV + NE) (e := 0) hS hp (by omega) hfull h4 h5 hsl (Gives.le rL (by omega)) (Gives.le rU (by omega)) (Gives.le rT (by omega)) (Gives.le rV (by omega)) hb3 (Gives.le rEr (by omega)) l1 (loadsS h4at (by decide) (by rfl)) hq)
      · by_cases c2 : c.toNat = 2
        · rw [c2] at rU
          have hrn : rtext r' = none → rents (f + 1) acc (c :: r') = none := fun e => by unfold rents; rw [if_neg c1, if_pos c2, e]
          cases ht : rtext r' with
          | none =>
            obtain ⟨h2, s', e, he, he2, ⟨NT, rT⟩, r2, s2⟩ := rtext_none r1 (by omega) ht
            have sE : Same (fun _ => False) h2 (withE h2 ([], [], true)) := withE_same _ h2 _
            obtain ⟨NE, rEr⟩ := err_does (r2.same sE fun e => e)
            subst hout
            refine ents_stop (N := NL + NU + NT + NE) (hrn ht) ?_ (ents_2_err hS hfull h4 h5 hsl (Gives.le rL (by omega)) (Gives.le rU (by omega)) (Gives.le rT (by omega)) (Gives.le rEr (by omega)) he he2)
            exact (s1'.trans (s2.mono fun j _ e => .inl (.inl e))).trans (sE.mono fun _ _ e => e.elim)
          | some p =>
            obtain ⟨key, rest⟩ := p
            obtain ⟨h2, ⟨NT, rT⟩, r2, s2⟩ := rtext_some r1 (by omega) ht
            have hlt := rtext_lt ht
            have hn2 : h.next ≤ h2.next := Nat.le_trans s1.1 s2.1
            have sE : Same (fun _ => False) h2 (withE h2 (key, [], true)) := withE_same _ h2 _
            have h4at := withE_at h2 (key, [], true)
            have r4 := r2.same sE fun e => e
            obtain ⟨NE, rEr⟩ := err_does r4
            have sb : Same (fun j => (j = k ∨ blkOf out = some j) ∨ h.next ≤ j) h (withE h2 (key, [], true)) := (s1'.trans (s2.mono fun j _ e => .inl (.inl e))).trans (sE.mono fun _ _ e => e.elim)
            have o4 := ((o.same s1 (fun j e => fun e' => hk (e' ▸ e))).same s2 (fun j e => fun e' => hk (e' ▸ e))).same sE (fun _ _ e => e)
            have hreq : badKey acc key = false → rents (f + 1) acc (c :: r') = rents f (acc ++ [(key, [], true)]) rest := fun e => by
              conv => lhs; unfold rents
              rw [if_neg c1, if_pos c2, ht]
              simp only
              rw [e, if_neg (by simp)]
            have hrb : badKey acc key = true → rents (f + 1) acc (c :: r') = none := fun e => by
              conv => lhs; unfold rents
              rw [if_neg c1, if_pos c2, ht]
              simp only
              rw [e, if_pos rfl]
            obtain ⟨s2v, h6, ha, o6, s6, hb6⟩ := ent_append (a := key) (b := []) (g := true) o4 (by omega)
            have hb6' : ∀ j, blkOf s2v = some j → h.next ≤ j ∨ blkOf out = some j := fun j e => by
              rcases hb6 j e with e | e
              · left
                have : h2.next + 1 ≤ j := e
                omega
              · exact .inr e
            have r6 := r4.same s6 (fun e => hk e)
            have sc := sb.trans (s6.mono fun j _ e => .inl (.inr e))
            have hk6 : blkOf s2v ≠ some k := fun e => by
              rcases hb6' k e with e | e
              · omega
              · exact hk e
            have ih' := fun tm2 a b c => ih (tm := tm2) (by omega) (by simp; omega) r6 o6 hk6 a b c
            rcases key_cases o4 key with ⟨hnil, hbk⟩ | ⟨ok, last, hsome, hp, l1, ⟨hq, hbk⟩ | ⟨hq, hbk⟩⟩
            · subst hnil
              exact ents_next (hreq hbk) sc hb6' (ents_2_first (N := NL + NU + NT + NE) (e := 0) hS hfull h4 h5 hsl (Gives.le rL (by omega)) (Gives.le rU (by omega)) (Gives.le rT (by omega)) (Gives.le rEr (by omega)) (loadsE h4at (by rfl) (by rfl) (by rfl)) ha) ih'
            · subst hsome
              exact ents_next (hreq hbk) sc hb6' (ents_2_ok (N := NL + NU + NT + NE) (e := 0) hS hp (by omega) hfull h4 h5 hsl (Gives.le rL (by omega)) (Gives.le rU (by omega)) (Gives.le rT (by omega)) (Gives.le rEr (by omega)) l1 (loadsS h4at (by decide) (by rfl)) hq (loadsE h4at (by rfl) (by rfl) (by rfl)) ha) ih'
            · subst hsome
              exact ents_stop (hrb hbk) sb (ents_2_bad (N := NL + NU + NT + NE) (e := 0) hS hp (by omega) hfull h4 h5 hsl (Gives.le rL (by omega)) (Gives.le rU (by omega)) (Gives.le rT (by omega)) (Gives.le rEr (by omega)) l1 (loadsS h4at (by decide) (by rfl)) hq)
        · have hrn : rents (f + 1) acc (c :: r') = none := by unfold rents; rw [if_neg c1, if_neg c2]
          subst hout
          cases ht : rtext r' with
          | none =>
            obtain ⟨h2, s', e, he, he2, ⟨NT, rT⟩, r2, s2⟩ := rtext_none r1 (by omega) ht
            have sE : Same (fun _ => False) h2 (withE h2 ([], [], false)) := withE_same _ h2 _
            obtain ⟨NE, rEr⟩ := err_does (r2.same sE fun e => e)
            refine ents_stop (N := NL + NU + NT + NE) hrn ?_ (ents_x_err hS c.toNat_lt c1 c2 hfull h4 h5 hsl (Gives.le rL (by omega)) (Gives.le rU (by omega)) (Gives.le rT (by omega)) (Gives.le rEr (by omega)) he he2)
            exact (s1'.trans (s2.mono fun j _ e => .inl (.inl e))).trans (sE.mono fun _ _ e => e.elim)
          | some p =>
            obtain ⟨key, rest⟩ := p
            obtain ⟨h2, ⟨NT, rT⟩, r2, s2⟩ := rtext_some r1 (by omega) ht
            have sE : Same (fun _ => False) h2 (withE h2 (key, [], false)) := withE_same _ h2 _
            obtain ⟨NE, rEr⟩ := err_does (r2.same sE fun e => e)
            refine ents_stop (N := NL + NU + NT + NE) hrn ?_ (ents_x_badkind (e := 0) hS c.toNat_lt c1 c2 hfull h4 h5 hsl (Gives.le rL (by omega)) (Gives.le rU (by omega)) (Gives.le rT (by omega)) (Gives.le rEr (by omega)))
            exact (s1'.trans (s2.mono fun j _ e => .inl (.inl e))).trans (sE.mono fun _ _ e => e.elim)
/-- vol.Entries: the entries that bytes are, or none. -/
theorem entries_does {s : List UInt8} (hs : s.length < 1073741824) (h : Hp) :
    (∀ l, rents s.length [] s = some l → ∃ out h', Runs B1 11 [.string ⟨⟨s⟩⟩] h (.tuple ⟨[out, .int .i64 (.ofNat 0)]⟩) h' ∧ Mine h' out 33 3 l.length (cellsE l) ∧ Same (fun _ => False) h h' ∧ ∀ j, blkOf out = some j → h.next ≤ j) ∧
    (rents s.length [] s = none → ∃ h', Runs B1 11 [.string ⟨⟨s⟩⟩] h (.tuple ⟨[.slice none 0 0, .int .i64 (.ofNat 250)]⟩) h' ∧ Same (fun _ => False) h h') := by
  obtain ⟨h1, ⟨N1, r1⟩, a2, s1⟩ := newReader_does s h
  let tm0 : T Value := (((((((fullT 6).put 0 (some (.string ⟨⟨s⟩⟩))).put 2 (some (.slice none 0 0))).put 3 (some (.int .i64 (.ofNat 0)))).put 9 (some (.string ⟨⟨s⟩⟩))).put 10 (some (ptr h.next))).put 4 (some (ptr h.next))).put 5 (some (.slice none 0 0))
  obtain ⟨ex, tm', h', b1, b2, b3, b4, N, b5⟩ := ents_loop (stops_real B1) s.length (tm := tm0) (acc := []) (Nat.le_refl _) (by simpa using hs) a2 (Mine.nil h1 33 3) (by simp [blkOf]) rfl rfl rfl
  have sAll : Same (fun _ => False) h h' := (s1.mono (S' := fun j => h.next ≤ j) fun _ _ e => e.elim).trans (b4.mono fun j _ e => by
    rcases e with e | e
    · rw [e]; exact Nat.le_refl _
    · cases e) |>.mono fun j hj e => by omega
  constructor
  · intro l hl
    obtain ⟨rfl, out, c1, c2, c3⟩ := b2 l hl
    refine ⟨out, h', ?_, c2, sAll, fun j hj => ?_⟩
    · obtain ⟨g, rfl⟩ := full_look b1 [(5, out)] (by simp [c1])
      refine runs_of B1 (N1 + N) fun S hS m hm R J c => ?_
      unfold enterS
      conv => lhs; whnf
      repeat ((first
        | refine (V_all hS).trans ?_ | refine (fV_bool _ _).trans ?_ | refine (fN_eq _ _).trans ?_ | refine (S_cons hS).trans ?_ | refine (S_nil hS).trans ?_ | refine (nxB1 hS).trans ?_ | refine (nxB0 hS).trans ?_ | refine (newBlk_eq _ _ _).trans ?_ | refine (nxNc).trans ?_ | refine (nxLe).trans ?_ | refine (nxPn hS).trans ?_ | refine (nxLs).trans ?_ | refine (nxLt).trans ?_ | refine (S_draw0 hS (by rfl) (by kernel_rfl) (by rfl)).trans ?_ | refine (S_draw2 hS (by kernel_rfl) (by rfl)).trans ?_ | refine (nxZ).trans ?_ | refine (nxT hS).trans ?_ | refine (nxF hS).trans ?_ | refine (nxAdd hS).trans ?_ | refine (nxSub hS).trans ?_ | refine (nxMul hS).trans ?_ | refine (nxShr hS).trans ?_ | refine (nxShl hS).trans ?_ | refine (nxRem hS).trans ?_ | refine (nxQuo hS).trans ?_ | refine (nxOr hS).trans ?_ | refine (nxAnd hS).trans ?_ | refine (nxCv hS).trans ?_ | refine (nxC8 hS).trans ?_
        | refine (reads_nil).trans ?_ | refine (reads_off).trans ?_ | refine (reads_pure).trans ?_ | refine (reads_loud).trans ?_ | refine (reads_alloc).trans ?_ | refine (reads_0 (by rfl)).trans ?_ | refine (reads_1 (by rfl)).trans ?_ | refine (stages_nil).trans ?_ | refine (stages_yes (by rfl) (by rfl)).trans ?_ | refine (stages_no (by rfl)).trans ?_ | refine (nxLa).trans ?_ | refine (again_s hS).trans ?_ | refine (nxEq).trans ?_ | refine (fL_eq _ _).trans ?_ | refine (nxAt).trans ?_ | refine (S_call hS fun R J c => r1 _ (by omega) R J c).trans ?_); (conv => lhs; whnf))
      refine (S_run hS (x := ?_) ?_).trans ?_
      rotate_left
      · refine b5 _ ?_ R J _
        omega
      conv => lhs; whnf
      repeat ((first
        | refine (V_all hS).trans ?_ | refine (fV_bool _ _).trans ?_ | refine (fN_eq _ _).trans ?_ | refine (S_cons hS).trans ?_ | refine (S_nil hS).trans ?_ | refine (nxB1 hS).trans ?_ | refine (nxB0 hS).trans ?_ | refine (newBlk_eq _ _ _).trans ?_ | refine (nxNc).trans ?_ | refine (nxLe).trans ?_ | refine (nxPn hS).trans ?_ | refine (nxLs).trans ?_ | refine (nxLt).trans ?_ | refine (S_draw0 hS (by rfl) (by kernel_rfl) (by rfl)).trans ?_ | refine (S_draw2 hS (by kernel_rfl) (by rfl)).trans ?_ | refine (nxZ).trans ?_ | refine (nxT hS).trans ?_ | refine (nxF hS).trans ?_ | refine (nxAdd hS).trans ?_ | refine (nxSub hS).trans ?_ | refine (nxMul hS).trans ?_ | refine (nxShr hS).trans ?_ | refine (nxShl hS).trans ?_ | refine (nxRem hS).trans ?_ | refine (nxQuo hS).trans ?_ | refine (nxOr hS).trans ?_ | refine (nxAnd hS).trans ?_ | refine (nxCv hS).trans ?_ | refine (nxC8 hS).trans ?_
        | refine (reads_nil).trans ?_ | refine (reads_off).trans ?_ | refine (reads_pure).trans ?_ | refine (reads_loud).trans ?_ | refine (reads_alloc).trans ?_ | refine (reads_0 (by rfl)).trans ?_ | refine (reads_1 (by rfl)).trans ?_ | refine (stages_nil).trans ?_ | refine (stages_yes (by rfl) (by rfl)).trans ?_ | refine (stages_no (by rfl)).trans ?_ | refine (nxLa).trans ?_ | refine (again_s hS).trans ?_ | refine (nxEq).trans ?_ | refine (fL_eq _ _).trans ?_ | refine (nxAt).trans ?_); (conv => lhs; whnf))
      rfl
    · rcases c3 j hj with e | e
      · exact Nat.le_trans s1.1 e
      · cases e
  · intro hl
    obtain ⟨rfl, c1, c2⟩ := b3 hl
    refine ⟨h', ?_, sAll⟩
    obtain ⟨g, rfl⟩ := full_look b1 [(2, .slice none 0 0), (3, .int .i64 (.ofNat 250))] (by simp [c1, c2])
    refine runs_of B1 (N1 + N) fun S hS m hm R J c => ?_
    unfold enterS
    conv => lhs; whnf
    repeat ((first
      | refine (V_all hS).trans ?_ | refine (fV_bool _ _).trans ?_ | refine (fN_eq _ _).trans ?_ | refine (S_cons hS).trans ?_ | refine (S_nil hS).trans ?_ | refine (nxB1 hS).trans ?_ | refine (nxB0 hS).trans ?_ | refine (newBlk_eq _ _ _).trans ?_ | refine (nxNc).trans ?_ | refine (nxLe).trans ?_ | refine (nxPn hS).trans ?_ | refine (nxLs).trans ?_ | refine (nxLt).trans ?_ | refine (S_draw0 hS (by rfl) (by kernel_rfl) (by rfl)).trans ?_ | refine (S_draw2 hS (by kernel_rfl) (by rfl)).trans ?_ | refine (nxZ).trans ?_ | refine (nxT hS).trans ?_ | refine (nxF hS).trans ?_ | refine (nxAdd hS).trans ?_ | refine (nxSub hS).trans ?_ | refine (nxMul hS).trans ?_ | refine (nxShr hS).trans ?_ | refine (nxShl hS).trans ?_ | refine (nxRem hS).trans ?_ | refine (nxQuo hS).trans ?_ | refine (nxOr hS).trans ?_ | refine (nxAnd hS).trans ?_ | refine (nxCv hS).trans ?_ | refine (nxC8 hS).trans ?_
      | refine (reads_nil).trans ?_ | refine (reads_off).trans ?_ | refine (reads_pure).trans ?_ | refine (reads_loud).trans ?_ | refine (reads_alloc).trans ?_ | refine (reads_0 (by rfl)).trans ?_ | refine (reads_1 (by rfl)).trans ?_ | refine (stages_nil).trans ?_ | refine (stages_yes (by rfl) (by rfl)).trans ?_ | refine (stages_no (by rfl)).trans ?_ | refine (nxLa).trans ?_ | refine (again_s hS).trans ?_ | refine (nxEq).trans ?_ | refine (fL_eq _ _).trans ?_ | refine (nxAt).trans ?_ | refine (S_call hS fun R J c => r1 _ (by omega) R J c).trans ?_); (conv => lhs; whnf))
    refine (S_run hS (x := ?_) ?_).trans ?_
    rotate_left
    · refine b5 _ ?_ R J _
      omega
    conv => lhs; whnf
    repeat ((first
      | refine (V_all hS).trans ?_ | refine (fV_bool _ _).trans ?_ | refine (fN_eq _ _).trans ?_ | refine (S_cons hS).trans ?_ | refine (S_nil hS).trans ?_ | refine (nxB1 hS).trans ?_ | refine (nxB0 hS).trans ?_ | refine (newBlk_eq _ _ _).trans ?_ | refine (nxNc).trans ?_ | refine (nxLe).trans ?_ | refine (nxPn hS).trans ?_ | refine (nxLs).trans ?_ | refine (nxLt).trans ?_ | refine (S_draw0 hS (by rfl) (by kernel_rfl) (by rfl)).trans ?_ | refine (S_draw2 hS (by kernel_rfl) (by rfl)).trans ?_ | refine (nxZ).trans ?_ | refine (nxT hS).trans ?_ | refine (nxF hS).trans ?_ | refine (nxAdd hS).trans ?_ | refine (nxSub hS).trans ?_ | refine (nxMul hS).trans ?_ | refine (nxShr hS).trans ?_ | refine (nxShl hS).trans ?_ | refine (nxRem hS).trans ?_ | refine (nxQuo hS).trans ?_ | refine (nxOr hS).trans ?_ | refine (nxAnd hS).trans ?_ | refine (nxCv hS).trans ?_ | refine (nxC8 hS).trans ?_
      | refine (reads_nil).trans ?_ | refine (reads_off).trans ?_ | refine (reads_pure).trans ?_ | refine (reads_loud).trans ?_ | refine (reads_alloc).trans ?_ | refine (reads_0 (by rfl)).trans ?_ | refine (reads_1 (by rfl)).trans ?_ | refine (stages_nil).trans ?_ | refine (stages_yes (by rfl) (by rfl)).trans ?_ | refine (stages_no (by rfl)).trans ?_ | refine (nxLa).trans ?_ | refine (again_s hS).trans ?_ | refine (nxEq).trans ?_ | refine (fL_eq _ _).trans ?_ | refine (nxAt).trans ?_); (conv => lhs; whnf))
    rfl
end Go.Proofs.YtopkigockpiggaaGreat
