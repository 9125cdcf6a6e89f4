/-
  vol.Entries: a round, case by case. (Printed by genents.py.)
-/
import Derived.Test.YtopkigockpiggaaGreatEvSeatRecord
set_option maxRecDepth 100000
set_option linter.unusedVariables false
set_option linter.unusedSimpArgs false
open Go Go.Ev
namespace Go.Proofs.YtopkigockpiggaaGreat
attribute [local irreducible] loadAt storeAt newBlk newCells writeAt appendK binK indexAddrK indexK sliceK lenK convK fN fV fL boolK maxK zeroOf enterK drawK rowsK leK okK readsK stagesK lastK againK eqvK
theorem u27 : B1.un.find 27 = some (.slice 33) := by rfl
/-- what must come ahead of what in the region that draws. -/
noncomputable def plan11 : T Nat := (.node (.node (.node (.node (.node .nil (some 32767) .nil) (some 127) (.node .nil (some 8388607) .nil)) (some 7) (.node (.node .nil (some 524287) .nil) (some 2047) .nil)) (some 1) (.node (.node (.node .nil (some 98303) .nil) (some 511) (.node .nil (some 33554431) .nil)) (some 31) (.node (.node .nil (some 32767) .nil) (some 8191) .nil))) (some 0) (.node (.node (.node (.node .nil (some 32767) .nil) (some 255) (.node .nil (some 16777215) .nil)) (some 15) (.node (.node .nil (some 1048575) .nil) (some 4095) .nil)) (some 3) (.node (.node (.node .nil (some 262143) .nil) (some 1023) .nil) (some 63) (.node (.node .nil (some 2129919) .nil) (some 16383) .nil))))
noncomputable def A33 : AppT B1 27 33 3 := ⟨Tryz.t33, .agg ⟨[.string ⟨⟨[]⟩⟩, .string ⟨⟨[]⟩⟩, .bool false]⟩, u27, by rfl, by rfl, by decide +kernel, by rfl, by rfl, by rfl, by decide⟩
noncomputable abbrev ptr (k : Nat) : Value := .pointer (some ⟨k, 0, none⟩)
/-- what a call comes to, with so much fuel. -/
abbrev Gives (N : Nat) (f : FuncId) (l : List Value) (h : Hp) (v : Value) (h' : Hp) : Prop := ∀ n, N ≤ n → ∀ (R : Type) (J : R → R → Bool) (c : Value → Hp → An R), enterK B1 (ev B1 n R J) f l h c = c v h'
abbrev LoadsS (h : Hp) (k off : Nat) (l : List UInt8) : Prop := ∀ (R : Type) (c : Value → An R), loadAt B1 9 (.pointer (some ⟨k, off, none⟩)) h c = c (.string ⟨⟨l⟩⟩)
abbrev LoadsE (h : Hp) (k : Nat) (x y : List UInt8) (g : Bool) : Prop := ∀ (R : Type) (c : Value → An R), loadAt B1 33 (.pointer (some ⟨k, 0, none⟩)) h c = c (.agg ⟨[.string ⟨⟨x⟩⟩, .string ⟨⟨y⟩⟩, .bool g]⟩)
/-- the cells of an entry, in a block of their own. -/
noncomputable abbrev rowE (h : Hp) (v : List Value) : Hp := ⟨h.t.put h.next (some (.cells 3 33 3 true true undef (putL v 0 .nil))), h.next + 1⟩
theorem ents_1_err {S : Stops} (hS : S.Real B1) {tm : T Value} {h h1 h2 : Hp} {k N sl e : Nat} {key : List UInt8}
    {ob : Option Addr} {on oc : Nat}
    (hf : isFull 6 tm = true) (h4 : tm.find 4 = some (ptr k)) (h5 : tm.find 5 = some (.slice ob on oc)) (hsl : 0 < sl)
    (rL : Gives N 42 [ptr k] h (.int .i64 (.ofNat sl)) h) (rU : Gives N 43 [ptr k] h (.int .u8 (.ofNat 1)) h1) (rT : Gives N 44 [ptr k] h1 (.string ⟨⟨key⟩⟩) h2)
    {h3 : Hp} {val : List UInt8} {tr : T Value} (rV : Gives N 44 [ptr k] (withE h2 (key, [], false)) (.string ⟨⟨val⟩⟩) h3) (hb3 : h3.t.find h2.next = some (.cells 3 33 1 true true undef tr))
    (rE : Gives N 45 [ptr k] (wr h3 h2.next (.cells 3 33 1 true true undef (putL [.string ⟨⟨val⟩⟩] 1 tr))) (.int .i64 (.ofNat e)) (wr h3 h2.next (.cells 3 33 1 true true undef (putL [.string ⟨⟨val⟩⟩] 1 tr))))
    (he : 0 < e) (he2 : e < 100) :
    ∃ tm', isFull 6 tm' = true ∧ tm'.find 2 = some (.slice none 0 0) ∧ tm'.find 3 = some (.int .i64 (.ofNat 250)) ∧ ∀ m, N ≤ m → ∀ R J K, S.W R J (m + 20) (loopB B1 11 0) ⟨tm, h, 59, 11, none, []⟩ K = K .ret ⟨tm', (wr h3 h2.next (.cells 3 33 1 true true undef (putL [.string ⟨⟨val⟩⟩] 1 tr))), 59, 11, none, []⟩ := by
  obtain ⟨g, rfl⟩ := full_look hf [(4, ptr k), (5, .slice ob on oc)] (by simp [h4, h5])
  refine ⟨?tm, ?_, ?_, ?_, ?walk⟩
  case walk =>
    intro m hm R J K
    refine (S_loop hS).trans ?_
    conv => lhs; whnf
    repeat ((first
      | refine (V_all hS).trans ?_ | refine (fV_bool _ _).trans ?_ | refine (fN_eq _ _).trans ?_ | refine (S_cons hS).trans ?_ | refine (S_nil hS).trans ?_ | refine (nxB1 hS).trans ?_ | refine (nxB0 hS).trans ?_ | refine (newBlk_eq _ _ _).trans ?_ | refine (nxNc).trans ?_ | refine (nxLe).trans ?_ | refine (nxPn hS).trans ?_ | refine (nxLs).trans ?_ | refine (nxLt).trans ?_ | refine (S_draw0 hS (by rfl) (by kernel_rfl) (by rfl)).trans ?_ | refine (S_draw2 hS (by kernel_rfl) (by rfl)).trans ?_ | refine (nxZ).trans ?_ | refine (nxT hS).trans ?_ | refine (nxF hS).trans ?_ | refine (nxAdd hS).trans ?_ | refine (nxSub hS).trans ?_ | refine (nxMul hS).trans ?_ | refine (nxShr hS).trans ?_ | refine (nxShl hS).trans ?_ | refine (nxRem hS).trans ?_ | refine (nxQuo hS).trans ?_ | refine (nxOr hS).trans ?_ | refine (nxAnd hS).trans ?_ | refine (nxCv hS).trans ?_ | refine (nxC8 hS).trans ?_
      | refine (reads_nil).trans ?_ | refine (reads_off).trans ?_ | refine (reads_pure).trans ?_ | refine (reads_loud).trans ?_ | refine (reads_alloc).trans ?_ | refine (reads_0 (by rfl)).trans ?_ | refine (reads_1 (by rfl)).trans ?_ | refine (stages_nil).trans ?_ | refine (stages_yes (by rfl) (by rfl)).trans ?_ | refine (stages_no (by rfl)).trans ?_ | refine (nxLa).trans ?_ | refine (again_s hS).trans ?_ | refine (nxEq).trans ?_ | refine (fL_eq _ _).trans ?_ | refine (nxAt).trans ?_ | refine (S_call hS fun R J c => rL _ (by omega) R J c).trans ?_ | refine (S_call hS fun R J c => rU _ (by omega) R J c).trans ?_ | refine (S_call hS fun R J c => rT _ (by omega) R J c).trans ?_ | refine (store_eq (t := 33) (by rfl) (by show (T.put _ _ _).find _ = _; rw [T.find_put, if_pos rfl]) rfl (by rfl) (by decide) rfl _).trans ?_ | refine (S_call hS fun R J c => rV _ (by omega) R J c).trans ?_
      | refine (store_eq (t := 9) (L := [.string ⟨⟨val⟩⟩]) (by rfl) hb3 (by rfl) (by rfl) (by decide) (by rfl) _).trans ?_ | refine (S_drawP hS plan11 (by kernel_rfl) (by rfl) (by kernel_rfl)).trans ?_ | refine (ok_t (v := .int .i64 (.ofNat e)) (h2 := (wr h3 h2.next (.cells 3 33 1 true true undef (putL [.string ⟨⟨val⟩⟩] 1 tr)))) (by (conv => lhs; whnf); exact S_call hS fun R J c => rE _ (by omega) R J c) _).trans ?_ | refine (reads_lm 2 (by kernel_rfl)).trans ?_); (conv => lhs; whnf))
    first | done | rfl
  all_goals rfl
theorem ents_1_first {S : Stops} (hS : S.Real B1) {tm : T Value} {h h1 h2 : Hp} {k N sl e : Nat} {key : List UInt8}
    (hf : isFull 6 tm = true) (h4 : tm.find 4 = some (ptr k)) (h5 : tm.find 5 = some (.slice none 0 0)) (hsl : 0 < sl)
    (rL : Gives N 42 [ptr k] h (.int .i64 (.ofNat sl)) h) (rU : Gives N 43 [ptr k] h (.int .u8 (.ofNat 1)) h1) (rT : Gives N 44 [ptr k] h1 (.string ⟨⟨key⟩⟩) h2)
    {h3 : Hp} {val : List UInt8} {tr : T Value} (rV : Gives N 44 [ptr k] (withE h2 (key, [], false)) (.string ⟨⟨val⟩⟩) h3) (hb3 : h3.t.find h2.next = some (.cells 3 33 1 true true undef tr))
    (rE : Gives N 45 [ptr k] (wr h3 h2.next (.cells 3 33 1 true true undef (putL [.string ⟨⟨val⟩⟩] 1 tr))) (.int .i64 (.ofNat 0)) (wr h3 h2.next (.cells 3 33 1 true true undef (putL [.string ⟨⟨val⟩⟩] 1 tr))))
    (l3 : LoadsE (wr h3 h2.next (.cells 3 33 1 true true undef (putL [.string ⟨⟨val⟩⟩] 1 tr))) h2.next key val false) {s2 : Value} {h6 : Hp} (ha : ∀ (R : Type) (c : Value → Hp → An R), appendK B1 27 27 (.slice none 0 0) (.slice (some ⟨((wr h3 h2.next (.cells 3 33 1 true true undef (putL [.string ⟨⟨val⟩⟩] 1 tr)))).next, 0, none⟩) 1 1) (rowE (wr h3 h2.next (.cells 3 33 1 true true undef (putL [.string ⟨⟨val⟩⟩] 1 tr))) [.string ⟨⟨key⟩⟩, .string ⟨⟨val⟩⟩, .bool false]) c = c s2 h6) :
    ∃ tm', isFull 6 tm' = true ∧ tm'.find 4 = some (ptr k) ∧ tm'.find 5 = some s2 ∧ ∀ m, N ≤ m → ∀ R J K, S.W R J (m + 20) (loopB B1 11 0) ⟨tm, h, 59, 11, none, []⟩ K = S.W R J (m + 19) (loopB B1 11 0) ⟨tm', h6, 59, 11, none, []⟩ K := by
  obtain ⟨g, rfl⟩ := full_look hf [(4, ptr k), (5, .slice none 0 0)] (by simp [h4, h5])
  refine ⟨?tm, ?_, ?_, ?_, ?walk⟩
  case walk =>
    intro m hm R J K
    refine (S_loop hS).trans ?_
    conv => lhs; whnf
    repeat ((first
      | refine (V_all hS).trans ?_ | refine (fV_bool _ _).trans ?_ | refine (fN_eq _ _).trans ?_ | refine (S_cons hS).trans ?_ | refine (S_nil hS).trans ?_ | refine (nxB1 hS).trans ?_ | refine (nxB0 hS).trans ?_ | refine (newBlk_eq _ _ _).trans ?_ | refine (nxNc).trans ?_ | refine (nxLe).trans ?_ | refine (nxPn hS).trans ?_ | refine (nxLs).trans ?_ | refine (nxLt).trans ?_ | refine (S_draw0 hS (by rfl) (by kernel_rfl) (by rfl)).trans ?_ | refine (S_draw2 hS (by kernel_rfl) (by rfl)).trans ?_ | refine (nxZ).trans ?_ | refine (nxT hS).trans ?_ | refine (nxF hS).trans ?_ | refine (nxAdd hS).trans ?_ | refine (nxSub hS).trans ?_ | refine (nxMul hS).trans ?_ | refine (nxShr hS).trans ?_ | refine (nxShl hS).trans ?_ | refine (nxRem hS).trans ?_ | refine (nxQuo hS).trans ?_ | refine (nxOr hS).trans ?_ | refine (nxAnd hS).trans ?_ | refine (nxCv hS).trans ?_ | refine (nxC8 hS).trans ?_
      | refine (reads_nil).trans ?_ | refine (reads_off).trans ?_ | refine (reads_pure).trans ?_ | refine (reads_loud).trans ?_ | refine (reads_alloc).trans ?_ | refine (reads_0 (by rfl)).trans ?_ | refine (reads_1 (by rfl)).trans ?_ | refine (stages_nil).trans ?_ | refine (stages_yes (by rfl) (by rfl)).trans ?_ | refine (stages_no (by rfl)).trans ?_ | refine (nxLa).trans ?_ | refine (again_s hS).trans ?_ | refine (nxEq).trans ?_ | refine (fL_eq _ _).trans ?_ | refine (nxAt).trans ?_ | refine (S_call hS fun R J c => rL _ (by omega) R J c).trans ?_ | refine (S_call hS fun R J c => rU _ (by omega) R J c).trans ?_ | refine (S_call hS fun R J c => rT _ (by omega) R J c).trans ?_ | refine (store_eq (t := 33) (by rfl) (by show (T.put _ _ _).find _ = _; rw [T.find_put, if_pos rfl]) rfl (by rfl) (by decide) rfl _).trans ?_ | refine (S_call hS fun R J c => rV _ (by omega) R J c).trans ?_
      | refine (store_eq (t := 9) (L := [.string ⟨⟨val⟩⟩]) (by rfl) hb3 (by rfl) (by rfl) (by decide) (by rfl) _).trans ?_ | refine (S_drawP hS plan11 (by kernel_rfl) (by rfl) (by kernel_rfl)).trans ?_ | refine (ok_t (v := .int .i64 (.ofNat 0)) (h2 := (wr h3 h2.next (.cells 3 33 1 true true undef (putL [.string ⟨⟨val⟩⟩] 1 tr)))) (by (conv => lhs; whnf); exact S_call hS fun R J c => rE _ (by omega) R J c) _).trans ?_ | refine (reads_lm 2 (by kernel_rfl)).trans ?_ | refine (l3 _ _).trans ?_ | refine (ha _ _).trans ?_); (conv => lhs; whnf))
    first | done | rfl
  all_goals rfl
theorem ents_1_ok {S : Stops} (hS : S.Real B1) {tm : T Value} {h h1 h2 : Hp} {k N sl e : Nat} {key : List UInt8}
    {ok on : Nat} {last : List UInt8} (hon : 0 < on) (hon2 : on < 9223372036854775808)
    (hf : isFull 6 tm = true) (h4 : tm.find 4 = some (ptr k)) (h5 : tm.find 5 = some (.slice (some ⟨ok, 0, none⟩) on TOP)) (hsl : 0 < sl)
    (rL : Gives N 42 [ptr k] h (.int .i64 (.ofNat sl)) h) (rU : Gives N 43 [ptr k] h (.int .u8 (.ofNat 1)) h1) (rT : Gives N 44 [ptr k] h1 (.string ⟨⟨key⟩⟩) h2)
    {h3 : Hp} {val : List UInt8} {tr : T Value} (rV : Gives N 44 [ptr k] (withE h2 (key, [], false)) (.string ⟨⟨val⟩⟩) h3) (hb3 : h3.t.find h2.next = some (.cells 3 33 1 true true undef tr))
    (rE : Gives N 45 [ptr k] (wr h3 h2.next (.cells 3 33 1 true true undef (putL [.string ⟨⟨val⟩⟩] 1 tr))) (.int .i64 (.ofNat 0)) (wr h3 h2.next (.cells 3 33 1 true true undef (putL [.string ⟨⟨val⟩⟩] 1 tr))))
    (l1 : LoadsS (wr h3 h2.next (.cells 3 33 1 true true undef (putL [.string ⟨⟨val⟩⟩] 1 tr))) ok (0 + (on - 1) * 3) last) (l2 : LoadsS (wr h3 h2.next (.cells 3 33 1 true true undef (putL [.string ⟨⟨val⟩⟩] 1 tr))) h2.next 0 key) (hq : Op.bytesLess last key = true)
    (l3 : LoadsE (wr h3 h2.next (.cells 3 33 1 true true undef (putL [.string ⟨⟨val⟩⟩] 1 tr))) h2.next key val false) {s2 : Value} {h6 : Hp} (ha : ∀ (R : Type) (c : Value → Hp → An R), appendK B1 27 27 (.slice (some ⟨ok, 0, none⟩) on TOP) (.slice (some ⟨((wr h3 h2.next (.cells 3 33 1 true true undef (putL [.string ⟨⟨val⟩⟩] 1 tr)))).next, 0, none⟩) 1 1) (rowE (wr h3 h2.next (.cells 3 33 1 true true undef (putL [.string ⟨⟨val⟩⟩] 1 tr))) [.string ⟨⟨key⟩⟩, .string ⟨⟨val⟩⟩, .bool false]) c = c s2 h6) :
    ∃ tm', isFull 6 tm' = true ∧ tm'.find 4 = some (ptr k) ∧ tm'.find 5 = some s2 ∧ ∀ m, N ≤ m → ∀ R J K, S.W R J (m + 20) (loopB B1 11 0) ⟨tm, h, 59, 11, none, []⟩ K = S.W R J (m + 19) (loopB B1 11 0) ⟨tm', h6, 59, 11, none, []⟩ K := by
  obtain ⟨g, rfl⟩ := full_look hf [(4, ptr k), (5, .slice (some ⟨ok, 0, none⟩) on TOP)] (by simp [h4, h5])
  refine ⟨?tm, ?_, ?_, ?_, ?walk⟩
  case walk =>
    intro m hm R J K
    refine (S_loop hS).trans ?_
    conv => lhs; whnf
    repeat ((first
      | refine (V_all hS).trans ?_ | refine (fV_bool _ _).trans ?_ | refine (fN_eq _ _).trans ?_ | refine (S_cons hS).trans ?_ | refine (S_nil hS).trans ?_ | refine (nxB1 hS).trans ?_ | refine (nxB0 hS).trans ?_ | refine (newBlk_eq _ _ _).trans ?_ | refine (nxNc).trans ?_ | refine (nxLe).trans ?_ | refine (nxPn hS).trans ?_ | refine (nxLs).trans ?_ | refine (nxLt).trans ?_ | refine (S_draw0 hS (by rfl) (by kernel_rfl) (by rfl)).trans ?_ | refine (S_draw2 hS (by kernel_rfl) (by rfl)).trans ?_ | refine (nxZ).trans ?_ | refine (nxT hS).trans ?_ | refine (nxF hS).trans ?_ | refine (nxAdd hS).trans ?_ | refine (nxSub hS).trans ?_ | refine (nxMul hS).trans ?_ | refine (nxShr hS).trans ?_ | refine (nxShl hS).trans ?_ | refine (nxRem hS).trans ?_ | refine (nxQuo hS).trans ?_ | refine (nxOr hS).trans ?_ | refine (nxAnd hS).trans ?_ | refine (nxCv hS).trans ?_ | refine (nxC8 hS).trans ?_
      | refine (reads_nil).trans ?_ | refine (reads_off).trans ?_ | refine (reads_pure).trans ?_ | refine (reads_loud).trans ?_ | refine (reads_alloc).trans ?_ | refine (reads_0 (by rfl)).trans ?_ | refine (reads_1 (by rfl)).trans ?_ | refine (stages_nil).trans ?_ | refine (stages_yes (by rfl) (by rfl)).trans ?_ | refine (stages_no (by rfl)).trans ?_ | refine (nxLa).trans ?_ | refine (again_s hS).trans ?_ | refine (nxEq).trans ?_ | refine (fL_eq _ _).trans ?_ | refine (nxAt).trans ?_ | refine (S_call hS fun R J c => rL _ (by omega) R J c).trans ?_ | refine (S_call hS fun R J c => rU _ (by omega) R J c).trans ?_ | refine (S_call hS fun R J c => rT _ (by omega) R J c).trans ?_ | refine (store_eq (t := 33) (by rfl) (by show (T.put _ _ _).find _ = _; rw [T.find_put, if_pos rfl]) rfl (by rfl) (by decide) rfl _).trans ?_ | refine (S_call hS fun R J c => rV _ (by omega) R J c).trans ?_
      | refine (store_eq (t := 9) (L := [.string ⟨⟨val⟩⟩]) (by rfl) hb3 (by rfl) (by rfl) (by decide) (by rfl) _).trans ?_ | refine (S_drawP hS plan11 (by kernel_rfl) (by rfl) (by kernel_rfl)).trans ?_ | refine (ok_t (v := .int .i64 (.ofNat 0)) (h2 := (wr h3 h2.next (.cells 3 33 1 true true undef (putL [.string ⟨⟨val⟩⟩] 1 tr)))) (by (conv => lhs; whnf); exact S_call hS fun R J c => rE _ (by omega) R J c) _).trans ?_ | refine (l1 _ _).trans ?_ | refine (l2 _ _).trans ?_ | refine (b2 hS (ges_b _)).trans ?_ | rw [hq] | refine (reads_lm 2 (by kernel_rfl)).trans ?_ | refine (l3 _ _).trans ?_ | refine (ha _ _).trans ?_); (conv => lhs; whnf))
    first | done | rfl
  all_goals rfl
theorem ents_1_bad {S : Stops} (hS : S.Real B1) {tm : T Value} {h h1 h2 : Hp} {k N sl e : Nat} {key : List UInt8}
    {ok on : Nat} {last : List UInt8} (hon : 0 < on) (hon2 : on < 9223372036854775808)
    (hf : isFull 6 tm = true) (h4 : tm.find 4 = some (ptr k)) (h5 : tm.find 5 = some (.slice (some ⟨ok, 0, none⟩) on TOP)) (hsl : 0 < sl)
    (rL : Gives N 42 [ptr k] h (.int .i64 (.ofNat sl)) h) (rU : Gives N 43 [ptr k] h (.int .u8 (.ofNat 1)) h1) (rT : Gives N 44 [ptr k] h1 (.string ⟨⟨key⟩⟩) h2)
    {h3 : Hp} {val : List UInt8} {tr : T Value} (rV : Gives N 44 [ptr k] (withE h2 (key, [], false)) (.string ⟨⟨val⟩⟩) h3) (hb3 : h3.t.find h2.next = some (.cells 3 33 1 true true undef tr))
    (rE : Gives N 45 [ptr k] (wr h3 h2.next (.cells 3 33 1 true true undef (putL [.string ⟨⟨val⟩⟩] 1 tr))) (.int .i64 (.ofNat 0)) (wr h3 h2.next (.cells 3 33 1 true true undef (putL [.string ⟨⟨val⟩⟩] 1 tr))))
    (l1 : LoadsS (wr h3 h2.next (.cells 3 33 1 true true undef (putL [.string ⟨⟨val⟩⟩] 1 tr))) ok (0 + (on - 1) * 3) last) (l2 : LoadsS (wr h3 h2.next (.cells 3 33 1 true true undef (putL [.string ⟨⟨val⟩⟩] 1 tr))) h2.next 0 key) (hq : Op.bytesLess last key = false) :
    ∃ tm', isFull 6 tm' = true ∧ tm'.find 2 = some (.slice none 0 0) ∧ tm'.find 3 = some (.int .i64 (.ofNat 250)) ∧ ∀ m, N ≤ m → ∀ R J K, S.W R J (m + 20) (loopB B1 11 0) ⟨tm, h, 59, 11, none, []⟩ K = K .ret ⟨tm', (wr h3 h2.next (.cells 3 33 1 true true undef (putL [.string ⟨⟨val⟩⟩] 1 tr))), 59, 11, none, []⟩ := by
  obtain ⟨g, rfl⟩ := full_look hf [(4, ptr k), (5, .slice (some ⟨ok, 0, none⟩) on TOP)] (by simp [h4, h5])
  refine ⟨?tm, ?_, ?_, ?_, ?walk⟩
  case walk =>
    intro m hm R J K
    refine (S_loop hS).trans ?_
    conv => lhs; whnf
    repeat ((first
      | refine (V_all hS).trans ?_ | refine (fV_bool _ _).trans ?_ | refine (fN_eq _ _).trans ?_ | refine (S_cons hS).trans ?_ | refine (S_nil hS).trans ?_ | refine (nxB1 hS).trans ?_ | refine (nxB0 hS).trans ?_ | refine (newBlk_eq _ _ _).trans ?_ | refine (nxNc).trans ?_ | refine (nxLe).trans ?_ | refine (nxPn hS).trans ?_ | refine (nxLs).trans ?_ | refine (nxLt).trans ?_ | refine (S_draw0 hS (by rfl) (by kernel_rfl) (by rfl)).trans ?_ | refine (S_draw2 hS (by kernel_rfl) (by rfl)).trans ?_ | refine (nxZ).trans ?_ | refine (nxT hS).trans ?_ | refine (nxF hS).trans ?_ | refine (nxAdd hS).trans ?_ | refine (nxSub hS).trans ?_ | refine (nxMul hS).trans ?_ | refine (nxShr hS).trans ?_ | refine (nxShl hS).trans ?_ | refine (nxRem hS).trans ?_ | refine (nxQuo hS).trans ?_ | refine (nxOr hS).trans ?_ | refine (nxAnd hS).trans ?_ | refine (nxCv hS).trans ?_ | refine (nxC8 hS).trans ?_
      | refine (reads_nil).trans ?_ | refine (reads_off).trans ?_ | refine (reads_pure).trans ?_ | refine (reads_loud).trans ?_ | refine (reads_alloc).trans ?_ | refine (reads_0 (by rfl)).trans ?_ | refine (reads_1 (by rfl)).trans ?_ | refine (stages_nil).trans ?_ | refine (stages_yes (by rfl) (by rfl)).trans ?_ | refine (stages_no (by rfl)).trans ?_ | refine (nxLa).trans ?_ | refine (again_s hS).trans ?_ | refine (nxEq).trans ?_ | refine (fL_eq _ _).trans ?_ | refine (nxAt).trans ?_ | refine (S_call hS fun R J c => rL _ (by omega) R J c).trans ?_ | refine (S_call hS fun R J c => rU _ (by omega) R J c).trans ?_ | refine (S_call hS fun R J c => rT _ (by omega) R J c).trans ?_ | refine (store_eq (t := 33) (by rfl) (by show (T.put _ _ _).find _ = _; rw [T.find_put, if_pos rfl]) rfl (by rfl) (by decide) rfl _).trans ?_ | refine (S_call hS fun R J c => rV _ (by omega) R J c).trans ?_
      | refine (store_eq (t := 9) (L := [.string ⟨⟨val⟩⟩]) (by rfl) hb3 (by rfl) (by rfl) (by decide) (by rfl) _).trans ?_ | refine (S_drawP hS plan11 (by kernel_rfl) (by rfl) (by kernel_rfl)).trans ?_ | refine (ok_t (v := .int .i64 (.ofNat 0)) (h2 := (wr h3 h2.next (.cells 3 33 1 true true undef (putL [.string ⟨⟨val⟩⟩] 1 tr)))) (by (conv => lhs; whnf); exact S_call hS fun R J c => rE _ (by omega) R J c) _).trans ?_ | refine (l1 _ _).trans ?_ | refine (l2 _ _).trans ?_ | refine (b2 hS (ges_b _)).trans ?_ | rw [hq] | refine (reads_lm 2 (by kernel_rfl)).trans ?_); (conv => lhs; whnf))
    first | done | rfl
  all_goals rfl
theorem ents_2_err {S : Stops} (hS : S.Real B1) {tm : T Value} {h h1 h2 : Hp} {k N sl e : Nat} {key : List UInt8}
    {ob : Option Addr} {on oc : Nat}
    (hf : isFull 6 tm = true) (h4 : tm.find 4 = some (ptr k)) (h5 : tm.find 5 = some (.slice ob on oc)) (hsl : 0 < sl)
    (rL : Gives N 42 [ptr k] h (.int .i64 (.ofNat sl)) h) (rU : Gives N 43 [ptr k] h (.int .u8 (.ofNat 2)) h1) (rT : Gives N 44 [ptr k] h1 (.string ⟨⟨key⟩⟩) h2)
    (rE : Gives N 45 [ptr k] (withE h2 (key, [], true)) (.int .i64 (.ofNat e)) (withE h2 (key, [], true)))
    (he : 0 < e) (he2 : e < 100) :
    ∃ tm', isFull 6 tm' = true ∧ tm'.find 2 = some (.slice none 0 0) ∧ tm'.find 3 = some (.int .i64 (.ofNat 250)) ∧ ∀ m, N ≤ m → ∀ R J K, S.W R J (m + 20) (loopB B1 11 0) ⟨tm, h, 59, 11, none, []⟩ K = K .ret ⟨tm', (withE h2 (key, [], true)), 59, 11, none, []⟩ := by
  obtain ⟨g, rfl⟩ := full_look hf [(4, ptr k), (5, .slice ob on oc)] (by simp [h4, h5])
  refine ⟨?tm, ?_, ?_, ?_, ?walk⟩
  case walk =>
    intro m hm R J K
    refine (S_loop hS).trans ?_
    conv => lhs; whnf
    repeat ((first
      | refine (V_all hS).trans ?_ | refine (fV_bool _ _).trans ?_ | refine (fN_eq _ _).trans ?_ | refine (S_cons hS).trans ?_ | refine (S_nil hS).trans ?_ | refine (nxB1 hS).trans ?_ | refine (nxB0 hS).trans ?_ | refine (newBlk_eq _ _ _).trans ?_ | refine (nxNc).trans ?_ | refine (nxLe).trans ?_ | refine (nxPn hS).trans ?_ | refine (nxLs).trans ?_ | refine (nxLt).trans ?_ | refine (S_draw0 hS (by rfl) (by kernel_rfl) (by rfl)).trans ?_ | refine (S_draw2 hS (by kernel_rfl) (by rfl)).trans ?_ | refine (nxZ).trans ?_ | refine (nxT hS).trans ?_ | refine (nxF hS).trans ?_ | refine (nxAdd hS).trans ?_ | refine (nxSub hS).trans ?_ | refine (nxMul hS).trans ?_ | refine (nxShr hS).trans ?_ | refine (nxShl hS).trans ?_ | refine (nxRem hS).trans ?_ | refine (nxQuo hS).trans ?_ | refine (nxOr hS).trans ?_ | refine (nxAnd hS).trans ?_ | refine (nxCv hS).trans ?_ | refine (nxC8 hS).trans ?_
      | refine (reads_nil).trans ?_ | refine (reads_off).trans ?_ | refine (reads_pure).trans ?_ | refine (reads_loud).trans ?_ | refine (reads_alloc).trans ?_ | refine (reads_0 (by rfl)).trans ?_ | refine (reads_1 (by rfl)).trans ?_ | refine (stages_nil).trans ?_ | refine (stages_yes (by rfl) (by rfl)).trans ?_ | refine (stages_no (by rfl)).trans ?_ | refine (nxLa).trans ?_ | refine (again_s hS).trans ?_ | refine (nxEq).trans ?_ | refine (fL_eq _ _).trans ?_ | refine (nxAt).trans ?_ | refine (S_call hS fun R J c => rL _ (by omega) R J c).trans ?_ | refine (S_call hS fun R J c => rU _ (by omega) R J c).trans ?_ | refine (S_call hS fun R J c => rT _ (by omega) R J c).trans ?_ | refine (store_eq (t := 33) (by rfl) (by show (T.put _ _ _).find _ = _; rw [T.find_put, if_pos rfl]) rfl (by rfl) (by decide) rfl _).trans ?_ | refine (S_drawP hS plan11 (by kernel_rfl) (by rfl) (by kernel_rfl)).trans ?_
      | refine (ok_t (v := .int .i64 (.ofNat e)) (h2 := (withE h2 (key, [], true))) (by (conv => lhs; whnf); exact S_call hS fun R J c => rE _ (by omega) R J c) _).trans ?_ | refine (reads_lm 2 (by kernel_rfl)).trans ?_); (conv => lhs; whnf))
    first | done | rfl
  all_goals rfl
theorem ents_2_first {S : Stops} (hS : S.Real B1) {tm : T Value} {h h1 h2 : Hp} {k N sl e : Nat} {key : List UInt8}
    (hf : isFull 6 tm = true) (h4 : tm.find 4 = some (ptr k)) (h5 : tm.find 5 = some (.slice none 0 0)) (hsl : 0 < sl)
    (rL : Gives N 42 [ptr k] h (.int .i64 (.ofNat sl)) h) (rU : Gives N 43 [ptr k] h (.int .u8 (.ofNat 2)) h1) (rT : Gives N 44 [ptr k] h1 (.string ⟨⟨key⟩⟩) h2)
    (rE : Gives N 45 [ptr k] (withE h2 (key, [], true)) (.int .i64 (.ofNat 0)) (withE h2 (key, [], true)))
    (l3 : LoadsE (withE h2 (key, [], true)) h2.next key [] true) {s2 : Value} {h6 : Hp} (ha : ∀ (R : Type) (c : Value → Hp → An R), appendK B1 27 27 (.slice none 0 0) (.slice (some ⟨((withE h2 (key, [], true))).next, 0, none⟩) 1 1) (rowE (withE h2 (key, [], true)) [.string ⟨⟨key⟩⟩, .string ⟨⟨[]⟩⟩, .bool true]) c = c s2 h6) :
    ∃ tm', isFull 6 tm' = true ∧ tm'.find 4 = some (ptr k) ∧ tm'.find 5 = some s2 ∧ ∀ m, N ≤ m → ∀ R J K, S.W R J (m + 20) (loopB B1 11 0) ⟨tm, h, 59, 11, none, []⟩ K = S.W R J (m + 19) (loopB B1 11 0) ⟨tm', h6, 59, 11, none, []⟩ K := by
  obtain ⟨g, rfl⟩ := full_look hf [(4, ptr k), (5, .slice none 0 0)] (by simp [h4, h5])
  refine ⟨?tm, ?_, ?_, ?_, ?walk⟩
  case walk =>
    intro m hm R J K
    refine (S_loop hS).trans ?_
    conv => lhs; whnf
    repeat ((first
      | refine (V_all hS).trans ?_ | refine (fV_bool _ _).trans ?_ | refine (fN_eq _ _).trans ?_ | refine (S_cons hS).trans ?_ | refine (S_nil hS).trans ?_ | refine (nxB1 hS).trans ?_ | refine (nxB0 hS).trans ?_ | refine (newBlk_eq _ _ _).trans ?_ | refine (nxNc).trans ?_ | refine (nxLe).trans ?_ | refine (nxPn hS).trans ?_ | refine (nxLs).trans ?_ | refine (nxLt).trans ?_ | refine (S_draw0 hS (by rfl) (by kernel_rfl) (by rfl)).trans ?_ | refine (S_draw2 hS (by kernel_rfl) (by rfl)).trans ?_ | refine (nxZ).trans ?_ | refine (nxT hS).trans ?_ | refine (nxF hS).trans ?_ | refine (nxAdd hS).trans ?_ | refine (nxSub hS).trans ?_ | refine (nxMul hS).trans ?_ | refine (nxShr hS).trans ?_ | refine (nxShl hS).trans ?_ | refine (nxRem hS).trans ?_ | refine (nxQuo hS).trans ?_ | refine (nxOr hS).trans ?_ | refine (nxAnd hS).trans ?_ | refine (nxCv hS).trans ?_ | refine (nxC8 hS).trans ?_
      | refine (reads_nil).trans ?_ | refine (reads_off).trans ?_ | refine (reads_pure).trans ?_ | refine (reads_loud).trans ?_ | refine (reads_alloc).trans ?_ | refine (reads_0 (by rfl)).trans ?_ | refine (reads_1 (by rfl)).trans ?_ | refine (stages_nil).trans ?_ | refine (stages_yes (by rfl) (by rfl)).trans ?_ | refine (stages_no (by rfl)).trans ?_ | refine (nxLa).trans ?_ | refine (again_s hS).trans ?_ | refine (nxEq).trans ?_ | refine (fL_eq _ _).trans ?_ | refine (nxAt).trans ?_ | refine (S_call hS fun R J c => rL _ (by omega) R J c).trans ?_ | refine (S_call hS fun R J c => rU _ (by omega) R J c).trans ?_ | refine (S_call hS fun R J c => rT _ (by omega) R J c).trans ?_ | refine (store_eq (t := 33) (by rfl) (by show (T.put _ _ _).find _ = _; rw [T.find_put, if_pos rfl]) rfl (by rfl) (by decide) rfl _).trans ?_ | refine (S_drawP hS plan11 (by kernel_rfl) (by rfl) (by kernel_rfl)).trans ?_
      | refine (ok_t (v := .int .i64 (.ofNat 0)) (h2 := (withE h2 (key, [], true))) (by (conv => lhs; whnf); exact S_call hS fun R J c => rE _ (by omega) R J c) _).trans ?_ | refine (reads_lm 2 (by kernel_rfl)).trans ?_ | refine (l3 _ _).trans ?_ | refine (ha _ _).trans ?_); (conv => lhs; whnf))
    first | done | rfl
  all_goals rfl
theorem ents_2_ok {S : Stops} (hS : S.Real B1) {tm : T Value} {h h1 h2 : Hp} {k N sl e : Nat} {key : List UInt8}
    {ok on : Nat} {last : List UInt8} (hon : 0 < on) (hon2 : on < 9223372036854775808)
    (hf : isFull 6 tm = true) (h4 : tm.find 4 = some (ptr k)) (h5 : tm.find 5 = some (.slice (some ⟨ok, 0, none⟩) on TOP)) (hsl : 0 < sl)
    (rL : Gives N 42 [ptr k] h (.int .i64 (.ofNat sl)) h) (rU : Gives N 43 [ptr k] h (.int .u8 (.ofNat 2)) h1) (rT : Gives N 44 [ptr k] h1 (.string ⟨⟨key⟩⟩) h2)
    (rE : Gives N 45 [ptr k] (withE h2 (key, [], true)) (.int .i64 (.ofNat 0)) (withE h2 (key, [], true)))
    (l1 : LoadsS (withE h2 (key, [], true)) ok (0 + (on - 1) * 3) last) (l2 : LoadsS (withE h2 (key, [], true)) h2.next 0 key) (hq : Op.bytesLess last key = true)
    (l3 : LoadsE (withE h2 (key, [], true)) h2.next key [] true) {s2 : Value} {h6 : Hp} (ha : ∀ (R : Type) (c : Value → Hp → An R), appendK B1 27 27 (.slice (some ⟨ok, 0, none⟩) on TOP) (.slice (some ⟨((withE h2 (key, [], true))).next, 0, none⟩) 1 1) (rowE (withE h2 (key, [], true)) [.string ⟨⟨key⟩⟩, .string ⟨⟨[]⟩⟩, .bool true]) c = c s2 h6) :
    ∃ tm', isFull 6 tm' = true ∧ tm'.find 4 = some (ptr k) ∧ tm'.find 5 = some s2 ∧ ∀ m, N ≤ m → ∀ R J K, S.W R J (m + 20) (loopB B1 11 0) ⟨tm, h, 59, 11, none, []⟩ K = S.W R J (m + 19) (loopB B1 11 0) ⟨tm', h6, 59, 11, none, []⟩ K := by
  obtain ⟨g, rfl⟩ := full_look hf [(4, ptr k), (5, .slice (some ⟨ok, 0, none⟩) on TOP)] (by simp [h4, h5])
  refine ⟨?tm, ?_, ?_, ?_, ?walk⟩
  case walk =>
    intro m hm R J K
    refine (S_loop hS).trans ?_
    conv => lhs; whnf
    repeat ((first
      | refine (V_all hS).trans ?_ | refine (fV_bool _ _).trans ?_ | refine (fN_eq _ _).trans ?_ | refine (S_cons hS).trans ?_ | refine (S_nil hS).trans ?_ | refine (nxB1 hS).trans ?_ | refine (nxB0 hS).trans ?_ | refine (newBlk_eq _ _ _).trans ?_ | refine (nxNc).trans ?_ | refine (nxLe).trans ?_ | refine (nxPn hS).trans ?_ | refine (nxLs).trans ?_ | refine (nxLt).trans ?_ | refine (S_draw0 hS (by rfl) (by kernel_rfl) (by rfl)).trans ?_ | refine (S_draw2 hS (by kernel_rfl) (by rfl)).trans ?_ | refine (nxZ).trans ?_ | refine (nxT hS).trans ?_ | refine (nxF hS).trans ?_ | refine (nxAdd hS).trans ?_ | refine (nxSub hS).trans ?_ | refine (nxMul hS).trans ?_ | refine (nxShr hS).trans ?_ | refine (nxShl hS).trans ?_ | refine (nxRem hS).trans ?_ | refine (nxQuo hS).trans ?_ | refine (nxOr hS).trans ?_ | refine (nxAnd hS).trans ?_ | refine (nxCv hS).trans ?_ | refine (nxC8 hS).trans ?_
      | refine (reads_nil).trans ?_ | refine (reads_off).trans ?_ | refine (reads_pure).trans ?_ | refine (reads_loud).trans ?_ | refine (reads_alloc).trans ?_ | refine (reads_0 (by rfl)).trans ?_ | refine (reads_1 (by rfl)).trans ?_ | refine (stages_nil).trans ?_ | refine (stages_yes (by rfl) (by rfl)).trans ?_ | refine (stages_no (by rfl)).trans ?_ | refine (nxLa).trans ?_ | refine (again_s hS).trans ?_ | refine (nxEq).trans ?_ | refine (fL_eq _ _).trans ?_ | refine (nxAt).trans ?_ | refine (S_call hS fun R J c => rL _ (by omega) R J c).trans ?_ | refine (S_call hS fun R J c => rU _ (by omega) R J c).trans ?_ | refine (S_call hS fun R J c => rT _ (by omega) R J c).trans ?_ | refine (store_eq (t := 33) (by rfl) (by show (T.put _ _ _).find _ = _; rw [T.find_put, if_pos rfl]) rfl (by rfl) (by decide) rfl _).trans ?_ | refine (S_drawP hS plan11 (by kernel_rfl) (by rfl) (by kernel_rfl)).trans ?_
      | refine (ok_t (v := .int .i64 (.ofNat 0)) (h2 := (withE h2 (key, [], true))) (by (conv => lhs; whnf); exact S_call hS fun R J c => rE _ (by omega) R J c) _).trans ?_ | refine (l1 _ _).trans ?_ | refine (l2 _ _).trans ?_ | refine (b2 hS (ges_b _)).trans ?_ | rw [hq] | refine (reads_lm 2 (by kernel_rfl)).trans ?_ | refine (l3 _ _).trans ?_ | refine (ha _ _).trans ?_); (conv => lhs; whnf))
    first | done | rfl
  all_goals rfl
theorem ents_2_bad {S : Stops} (hS : S.Real B1) {tm : T Value} {h h1 h2 : Hp} {k N sl e : Nat} {key : List UInt8}
    {ok on : Nat} {last : List UInt8} (hon : 0 < on) (hon2 : on < 9223372036854775808)
    (hf : isFull 6 tm = true) (h4 : tm.find 4 = some (ptr k)) (h5 : tm.find 5 = some (.slice (some ⟨ok, 0, none⟩) on TOP)) (hsl : 0 < sl)
    (rL : Gives N 42 [ptr k] h (.int .i64 (.ofNat sl)) h) (rU : Gives N 43 [ptr k] h (.int .u8 (.ofNat 2)) h1) (rT : Gives N 44 [ptr k] h1 (.string ⟨⟨key⟩⟩) h2)
    (rE : Gives N 45 [ptr k] (withE h2 (key, [], true)) (.int .i64 (.ofNat 0)) (withE h2 (key, [], true)))
    (l1 : LoadsS (withE h2 (key, [], true)) ok (0 + (on - 1) * 3) last) (l2 : LoadsS (withE h2 (key, [], true)) h2.next 0 key) (hq : Op.bytesLess last key = false) :
    ∃ tm', isFull 6 tm' = true ∧ tm'.find 2 = some (.slice none 0 0) ∧ tm'.find 3 = some (.int .i64 (.ofNat 250)) ∧ ∀ m, N ≤ m → ∀ R J K, S.W R J (m + 20) (loopB B1 11 0) ⟨tm, h, 59, 11, none, []⟩ K = K .ret ⟨tm', (withE h2 (key, [], true)), 59, 11, none, []⟩ := by
  obtain ⟨g, rfl⟩ := full_look hf [(4, ptr k), (5, .slice (some ⟨ok, 0, none⟩) on TOP)] (by simp [h4, h5])
  refine ⟨?tm, ?_, ?_, ?_, ?walk⟩
  case walk =>
    intro m hm R J K
    refine (S_loop hS).trans ?_
    conv => lhs; whnf
    repeat ((first
      | refine (V_all hS).trans ?_ | refine (fV_bool _ _).trans ?_ | refine (fN_eq _ _).trans ?_ | refine (S_cons hS).trans ?_ | refine (S_nil hS).trans ?_ | refine (nxB1 hS).trans ?_ | refine (nxB0 hS).trans ?_ | refine (newBlk_eq _ _ _).trans ?_ | refine (nxNc).trans ?_ | refine (nxLe).trans ?_ | refine (nxPn hS).trans ?_ | refine (nxLs).trans ?_ | refine (nxLt).trans ?_ | refine (S_draw0 hS (by rfl) (by kernel_rfl) (by rfl)).trans ?_ | refine (S_draw2 hS (by kernel_rfl) (by rfl)).trans ?_ | refine (nxZ).trans ?_ | refine (nxT hS).trans ?_ | refine (nxF hS).trans ?_ | refine (nxAdd hS).trans ?_ | refine (nxSub hS).trans ?_ | refine (nxMul hS).trans ?_ | refine (nxShr hS).trans ?_ | refine (nxShl hS).trans ?_ | refine (nxRem hS).trans ?_ | refine (nxQuo hS).trans ?_ | refine (nxOr hS).trans ?_ | refine (nxAnd hS).trans ?_ | refine (nxCv hS).trans ?_ | refine (nxC8 hS).trans ?_
      | refine (reads_nil).trans ?_ | refine (reads_off).trans ?_ | refine (reads_pure).trans ?_ | refine (reads_loud).trans ?_ | refine (reads_alloc).trans ?_ | refine (reads_0 (by rfl)).trans ?_ | refine (reads_1 (by rfl)).trans ?_ | refine (stages_nil).trans ?_ | refine (stages_yes (by rfl) (by rfl)).trans ?_ | refine (stages_no (by rfl)).trans ?_ | refine (nxLa).trans ?_ | refine (again_s hS).trans ?_ | refine (nxEq).trans ?_ | refine (fL_eq _ _).trans ?_ | refine (nxAt).trans ?_ | refine (S_call hS fun R J c => rL _ (by omega) R J c).trans ?_ | refine (S_call hS fun R J c => rU _ (by omega) R J c).trans ?_ | refine (S_call hS fun R J c => rT _ (by omega) R J c).trans ?_ | refine (store_eq (t := 33) (by rfl) (by show (T.put _ _ _).find _ = _; rw [T.find_put, if_pos rfl]) rfl (by rfl) (by decide) rfl _).trans ?_ | refine (S_drawP hS plan11 (by kernel_rfl) (by rfl) (by kernel_rfl)).trans ?_
      | refine (ok_t (v := .int .i64 (.ofNat 0)) (h2 := (withE h2 (key, [], true))) (by (conv => lhs; whnf); exact S_call hS fun R J c => rE _ (by omega) R J c) _).trans ?_ | refine (l1 _ _).trans ?_ | refine (l2 _ _).trans ?_ | refine (b2 hS (ges_b _)).trans ?_ | rw [hq] | refine (reads_lm 2 (by kernel_rfl)).trans ?_); (conv => lhs; whnf))
    first | done | rfl
  all_goals rfl
theorem ents_x_err {S : Stops} (hS : S.Real B1) {tm : T Value} {h h1 h2 : Hp} {k N sl e : Nat} {key : List UInt8}
    {κ : Nat} (hκ8 : κ < 256) (hκ1 : κ ≠ 1) (hκ2 : κ ≠ 2)
    {ob : Option Addr} {on oc : Nat}
    (hf : isFull 6 tm = true) (h4 : tm.find 4 = some (ptr k)) (h5 : tm.find 5 = some (.slice ob on oc)) (hsl : 0 < sl)
    (rL : Gives N 42 [ptr k] h (.int .i64 (.ofNat sl)) h) (rU : Gives N 43 [ptr k] h (.int .u8 (.ofNat κ)) h1) (rT : Gives N 44 [ptr k] h1 (.string ⟨⟨key⟩⟩) h2)
    (rE : Gives N 45 [ptr k] (withE h2 (key, [], false)) (.int .i64 (.ofNat e)) (withE h2 (key, [], false)))
    (he : 0 < e) (he2 : e < 100) :
    ∃ tm', isFull 6 tm' = true ∧ tm'.find 2 = some (.slice none 0 0) ∧ tm'.find 3 = some (.int .i64 (.ofNat 250)) ∧ ∀ m, N ≤ m → ∀ R J K, S.W R J (m + 20) (loopB B1 11 0) ⟨tm, h, 59, 11, none, []⟩ K = K .ret ⟨tm', (withE h2 (key, [], false)), 59, 11, none, []⟩ := by
  obtain ⟨g, rfl⟩ := full_look hf [(4, ptr k), (5, .slice ob on oc)] (by simp [h4, h5])
  refine ⟨?tm, ?_, ?_, ?_, ?walk⟩
  case walk =>
    intro m hm R J K
    refine (S_loop hS).trans ?_
    conv => lhs; whnf
    repeat ((first
      | refine (V_all hS).trans ?_ | refine (fV_bool _ _).trans ?_ | refine (fN_eq _ _).trans ?_ | refine (S_cons hS).trans ?_ | refine (S_nil hS).trans ?_ | refine (nxB1 hS).trans ?_ | refine (nxB0 hS).trans ?_ | refine (newBlk_eq _ _ _).trans ?_ | refine (nxNc).trans ?_ | refine (nxLe).trans ?_ | refine (nxPn hS).trans ?_ | refine (nxLs).trans ?_ | refine (nxLt).trans ?_ | refine (S_draw0 hS (by rfl) (by kernel_rfl) (by rfl)).trans ?_ | refine (S_draw2 hS (by kernel_rfl) (by rfl)).trans ?_ | refine (nxZ).trans ?_ | refine (nxT hS).trans ?_ | refine (nxF hS).trans ?_ | refine (nxAdd hS).trans ?_ | refine (nxSub hS).trans ?_ | refine (nxMul hS).trans ?_ | refine (nxShr hS).trans ?_ | refine (nxShl hS).trans ?_ | refine (nxRem hS).trans ?_ | refine (nxQuo hS).trans ?_ | refine (nxOr hS).trans ?_ | refine (nxAnd hS).trans ?_ | refine (nxCv hS).trans ?_ | refine (nxC8 hS).trans ?_
      | refine (reads_nil).trans ?_ | refine (reads_off).trans ?_ | refine (reads_pure).trans ?_ | refine (reads_loud).trans ?_ | refine (reads_alloc).trans ?_ | refine (reads_0 (by rfl)).trans ?_ | refine (reads_1 (by rfl)).trans ?_ | refine (stages_nil).trans ?_ | refine (stages_yes (by rfl) (by rfl)).trans ?_ | refine (stages_no (by rfl)).trans ?_ | refine (nxLa).trans ?_ | refine (again_s hS).trans ?_ | refine (nxEq).trans ?_ | refine (fL_eq _ _).trans ?_ | refine (nxAt).trans ?_ | refine (S_call hS fun R J c => rL _ (by omega) R J c).trans ?_ | refine (S_call hS fun R J c => rU _ (by omega) R J c).trans ?_ | refine (S_call hS fun R J c => rT _ (by omega) R J c).trans ?_ | refine (store_eq (t := 33) (by rfl) (by show (T.put _ _ _).find _ = _; rw [T.find_put, if_pos rfl]) rfl (by rfl) (by decide) rfl _).trans ?_ | refine (S_drawP hS plan11 (by kernel_rfl) (by rfl) (by kernel_rfl)).trans ?_
      | refine (ok_t (v := .int .i64 (.ofNat e)) (h2 := (withE h2 (key, [], false))) (by (conv => lhs; whnf); exact S_call hS fun R J c => rE _ (by omega) R J c) _).trans ?_ | refine (reads_lm 2 (by kernel_rfl)).trans ?_); (conv => lhs; whnf))
    first | done | rfl
  all_goals rfl
theorem ents_x_badkind {S : Stops} (hS : S.Real B1) {tm : T Value} {h h1 h2 : Hp} {k N sl e : Nat} {key : List UInt8}
    {κ : Nat} (hκ8 : κ < 256) (hκ1 : κ ≠ 1) (hκ2 : κ ≠ 2)
    {ob : Option Addr} {on oc : Nat}
    (hf : isFull 6 tm = true) (h4 : tm.find 4 = some (ptr k)) (h5 : tm.find 5 = some (.slice ob on oc)) (hsl : 0 < sl)
    (rL : Gives N 42 [ptr k] h (.int .i64 (.ofNat sl)) h) (rU : Gives N 43 [ptr k] h (.int .u8 (.ofNat κ)) h1) (rT : Gives N 44 [ptr k] h1 (.string ⟨⟨key⟩⟩) h2)
    (rE : Gives N 45 [ptr k] (withE h2 (key, [], false)) (.int .i64 (.ofNat 0)) (withE h2 (key, [], false))) :
    ∃ tm', isFull 6 tm' = true ∧ tm'.find 2 = some (.slice none 0 0) ∧ tm'.find 3 = some (.int .i64 (.ofNat 250)) ∧ ∀ m, N ≤ m → ∀ R J K, S.W R J (m + 20) (loopB B1 11 0) ⟨tm, h, 59, 11, none, []⟩ K = K .ret ⟨tm', (withE h2 (key, [], false)), 59, 11, none, []⟩ := by
  obtain ⟨g, rfl⟩ := full_look hf [(4, ptr k), (5, .slice ob on oc)] (by simp [h4, h5])
  refine ⟨?tm, ?_, ?_, ?_, ?walk⟩
  case walk =>
    intro m hm R J K
    refine (S_loop hS).trans ?_
    conv => lhs; whnf
    repeat ((first
      | refine (V_all hS).trans ?_ | refine (fV_bool _ _).trans ?_ | refine (fN_eq _ _).trans ?_ | refine (S_cons hS).trans ?_ | refine (S_nil hS).trans ?_ | refine (nxB1 hS).trans ?_ | refine (nxB0 hS).trans ?_ | refine (newBlk_eq _ _ _).trans ?_ | refine (nxNc).trans ?_ | refine (nxLe).trans ?_ | refine (nxPn hS).trans ?_ | refine (nxLs).trans ?_ | refine (nxLt).trans ?_ | refine (S_draw0 hS (by rfl) (by kernel_rfl) (by rfl)).trans ?_ | refine (S_draw2 hS (by kernel_rfl) (by rfl)).trans ?_ | refine (nxZ).trans ?_ | refine (nxT hS).trans ?_ | refine (nxF hS).trans ?_ | refine (nxAdd hS).trans ?_ | refine (nxSub hS).trans ?_ | refine (nxMul hS).trans ?_ | refine (nxShr hS).trans ?_ | refine (nxShl hS).trans ?_ | refine (nxRem hS).trans ?_ | refine (nxQuo hS).trans ?_ | refine (nxOr hS).trans ?_ | refine (nxAnd hS).trans ?_ | refine (nxCv hS).trans ?_ | refine (nxC8 hS).trans ?_
      | refine (reads_nil).trans ?_ | refine (reads_off).trans ?_ | refine (reads_pure).trans ?_ | refine (reads_loud).trans ?_ | refine (reads_alloc).trans ?_ | refine (reads_0 (by rfl)).trans ?_ | refine (reads_1 (by rfl)).trans ?_ | refine (stages_nil).trans ?_ | refine (stages_yes (by rfl) (by rfl)).trans ?_ | refine (stages_no (by rfl)).trans ?_ | refine (nxLa).trans ?_ | refine (again_s hS).trans ?_ | refine (nxEq).trans ?_ | refine (fL_eq _ _).trans ?_ | refine (nxAt).trans ?_ | refine (S_call hS fun R J c => rL _ (by omega) R J c).trans ?_ | refine (S_call hS fun R J c => rU _ (by omega) R J c).trans ?_ | refine (S_call hS fun R J c => rT _ (by omega) R J c).trans ?_ | refine (store_eq (t := 33) (by rfl) (by show (T.put _ _ _).find _ = _; rw [T.find_put, if_pos rfl]) rfl (by rfl) (by decide) rfl _).trans ?_ | refine (S_drawP hS plan11 (by kernel_rfl) (by rfl) (by kernel_rfl)).trans ?_
      | refine (ok_t (v := .int .i64 (.ofNat 0)) (h2 := (withE h2 (key, [], false))) (by (conv => lhs; whnf); exact S_call hS fun R J c => rE _ (by omega) R J c) _).trans ?_ | refine (reads_lm 2 (by kernel_rfl)).trans ?_); (conv => lhs; whnf))
    first | done | rfl
  all_goals rfl
end Go.Proofs.YtopkigockpiggaaGreat
