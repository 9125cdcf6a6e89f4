/-
  dedupref25.Entries: a round, case by case. (Printed by genrefents.py.)
-/
import Derived.Test.YtopkigockpiggaaGreatEvSeatEntsRound
import Derived.Test.YtopkigockpiggaaGreatEvSeatRefRead
set_option maxRecDepth 100000
set_option linter.unusedVariables false
set_option linter.unusedSimpArgs false
open Go Go.Ev
namespace Go.Proofs.YtopkigockpiggaaGreat
attribute [local irreducible] loadAt storeAt newBlk newCells writeAt appendK binK indexAddrK indexK sliceK lenK convK fN fV fL boolK maxK zeroOf enterK drawK rowsK leK okK readsK stagesK lastK againK eqvK
theorem refents_1_t1 {S : Stops} (hS : S.Real B1) {tm : T Value} {h : Hp} {N : Nat} {s r : List UInt8}
    {ob : Option Addr} {on oc : Nat}
    (hf : isFull 7 tm = true) (h0 : tm.find 0 = some (.string ⟨⟨s⟩⟩)) (h4 : tm.find 4 = some (.slice ob on oc)) (hsl : 0 < s.length) (hx : ByteAt s 0 1) (hr : s.drop 1 = r)
    {key rest : List UInt8}
    (rT : Gives N 49 [.string ⟨⟨r⟩⟩] h (.tuple ⟨[.string ⟨⟨[]⟩⟩, .string ⟨⟨[]⟩⟩, .bool false]⟩) h) :
    ∃ tm', isFull 7 tm' = true ∧ tm'.find 2 = some (.slice none 0 0) ∧ tm'.find 3 = some (.int .i64 (.ofNat 250)) ∧ ∀ m, N ≤ m → ∀ R J K, S.W R J (m + 20) (loopB B1 16 0) ⟨tm, h, 67, 16, none, []⟩ K = K .ret ⟨tm', h, 67, 16, none, []⟩ := by
  obtain ⟨g, rfl⟩ := full_look hf [(0, .string ⟨⟨s⟩⟩), (4, .slice ob on oc)] (by simp [h0, h4])
  refine ⟨?tm, ?_, ?_, ?_, ?walk⟩
  case walk =>
    intro m hm R J K
    refine (S_loop hS).trans ?_
    conv => lhs; whnf
    repeat ((first
      | refine (V_all hS).trans ?_ | refine (fV_bool _ _).trans ?_ | refine (fN_eq _ _).trans ?_ | refine (S_cons hS).trans ?_ | refine (S_nil hS).trans ?_ | refine (nxB1 hS).trans ?_ | refine (nxB0 hS).trans ?_ | refine (newBlk_eq _ _ _).trans ?_ | refine (nxNc).trans ?_ | refine (nxLe).trans ?_ | refine (nxPn hS).trans ?_ | refine (nxLs).trans ?_ | refine (nxLt).trans ?_ | refine (S_draw0 hS (by rfl) (by kernel_rfl) (by rfl)).trans ?_ | refine (S_draw2 hS (by kernel_rfl) (by rfl)).trans ?_ | refine (nxZ).trans ?_ | refine (nxT hS).trans ?_ | refine (nxF hS).trans ?_ | refine (nxAdd hS).trans ?_ | refine (nxSub hS).trans ?_ | refine (nxMul hS).trans ?_ | refine (nxShr hS).trans ?_ | refine (nxShl hS).trans ?_ | refine (nxRem hS).trans ?_ | refine (nxQuo hS).trans ?_ | refine (nxOr hS).trans ?_ | refine (nxAnd hS).trans ?_ | refine (nxCv hS).trans ?_ | refine (nxC8 hS).trans ?_
      | refine (reads_nil).trans ?_ | refine (reads_off).trans ?_ | refine (reads_pure).trans ?_ | refine (reads_loud).trans ?_ | refine (reads_alloc).trans ?_ | refine (reads_0 (by rfl)).trans ?_ | refine (reads_1 (by rfl)).trans ?_ | refine (stages_nil).trans ?_ | refine (stages_yes (by rfl) (by rfl)).trans ?_ | refine (stages_no (by rfl)).trans ?_ | refine (nxLa).trans ?_ | refine (again_s hS).trans ?_ | refine (nxEq).trans ?_ | refine (fL_eq _ _).trans ?_ | refine (nxAt).trans ?_ | refine (hx _ _).trans ?_ | refine (slice_lo (l := s) (i := 1) u9 (by omega) _).trans ?_ | rw [hr] | refine (S_call hS fun R J c => rT _ (by omega) R J c).trans ?_); (conv => lhs; whnf))
    first | done | rfl
  all_goals rfl
theorem refents_1_bad {S : Stops} (hS : S.Real B1) {tm : T Value} {h : Hp} {N : Nat} {s r : List UInt8}
    {ok on : Nat} {last : List UInt8} (hon : 0 < on) (hon2 : on < 9223372036854775808)
    (hf : isFull 7 tm = true) (h0 : tm.find 0 = some (.string ⟨⟨s⟩⟩)) (h4 : tm.find 4 = some (.slice (some ⟨ok, 0, none⟩) on TOP)) (hsl : 0 < s.length) (hx : ByteAt s 0 1) (hr : s.drop 1 = r)
    {key rest : List UInt8}
    {hT : Hp} (rT : Gives N 49 [.string ⟨⟨r⟩⟩] h (.tuple ⟨[.string ⟨⟨key⟩⟩, .string ⟨⟨rest⟩⟩, .bool true]⟩) hT)
    (l1 : LoadsS hT ok (0 + (on - 1) * 3) last) (hq : (Op.bytesLess key last || key == last) = true) :
    ∃ tm', isFull 7 tm' = true ∧ tm'.find 2 = some (.slice none 0 0) ∧ tm'.find 3 = some (.int .i64 (.ofNat 250)) ∧ ∀ m, N ≤ m → ∀ R J K, S.W R J (m + 20) (loopB B1 16 0) ⟨tm, h, 67, 16, none, []⟩ K = K .ret ⟨tm', hT, 67, 16, none, []⟩ := by
  obtain ⟨g, rfl⟩ := full_look hf [(0, .string ⟨⟨s⟩⟩), (4, .slice (some ⟨ok, 0, none⟩) on TOP)] (by simp [h0, h4])
  refine ⟨?tm, ?_, ?_, ?_, ?walk⟩
  case walk =>
    intro m hm R J K
    refine (S_loop hS).trans ?_
    conv => lhs; whnf
    repeat ((first
      | refine (V_all hS).trans ?_ | refine (fV_bool _ _).trans ?_ | refine (fN_eq _ _).trans ?_ | refine (S_cons hS).trans ?_ | refine (S_nil hS).trans ?_ | refine (nxB1 hS).trans ?_ | refine (nxB0 hS).trans ?_ | refine (newBlk_eq _ _ _).trans ?_ | refine (nxNc).trans ?_ | refine (nxLe).trans ?_ | refine (nxPn hS).trans ?_ | refine (nxLs).trans ?_ | refine (nxLt).trans ?_ | refine (S_draw0 hS (by rfl) (by kernel_rfl) (by rfl)).trans ?_ | refine (S_draw2 hS (by kernel_rfl) (by rfl)).trans ?_ | refine (nxZ).trans ?_ | refine (nxT hS).trans ?_ | refine (nxF hS).trans ?_ | refine (nxAdd hS).trans ?_ | refine (nxSub hS).trans ?_ | refine (nxMul hS).trans ?_ | refine (nxShr hS).trans ?_ | refine (nxShl hS).trans ?_ | refine (nxRem hS).trans ?_ | refine (nxQuo hS).trans ?_ | refine (nxOr hS).trans ?_ | refine (nxAnd hS).trans ?_ | refine (nxCv hS).trans ?_ | refine (nxC8 hS).trans ?_
      | refine (reads_nil).trans ?_ | refine (reads_off).trans ?_ | refine (reads_pure).trans ?_ | refine (reads_loud).trans ?_ | refine (reads_alloc).trans ?_ | refine (reads_0 (by rfl)).trans ?_ | refine (reads_1 (by rfl)).trans ?_ | refine (stages_nil).trans ?_ | refine (stages_yes (by rfl) (by rfl)).trans ?_ | refine (stages_no (by rfl)).trans ?_ | refine (nxLa).trans ?_ | refine (again_s hS).trans ?_ | refine (nxEq).trans ?_ | refine (fL_eq _ _).trans ?_ | refine (nxAt).trans ?_ | refine (hx _ _).trans ?_ | refine (slice_lo (l := s) (i := 1) u9 (by omega) _).trans ?_ | rw [hr] | refine (S_call hS fun R J c => rT _ (by omega) R J c).trans ?_ | refine (l1 _ _).trans ?_ | refine (b2 hS (les_b _)).trans ?_ | rw [hq]); (conv => lhs; whnf))
    first | done | rfl
  all_goals rfl
theorem refents_1_first_t2 {S : Stops} (hS : S.Real B1) {tm : T Value} {h : Hp} {N : Nat} {s r : List UInt8}
    (hf : isFull 7 tm = true) (h0 : tm.find 0 = some (.string ⟨⟨s⟩⟩)) (h4 : tm.find 4 = some (.slice none 0 0)) (hsl : 0 < s.length) (hx : ByteAt s 0 1) (hr : s.drop 1 = r)
    {key rest : List UInt8}
    {hT : Hp} (rT : Gives N 49 [.string ⟨⟨r⟩⟩] h (.tuple ⟨[.string ⟨⟨key⟩⟩, .string ⟨⟨rest⟩⟩, .bool true]⟩) hT)
    {tr : T Value} {hV : Hp} (hbV : hV.t.find hT.next = some (.cells 3 33 1 true true undef tr))
    (rV : Gives N 49 [.string ⟨⟨rest⟩⟩] (withE hT (key, [], false)) (.tuple ⟨[.string ⟨⟨[]⟩⟩, .string ⟨⟨[]⟩⟩, .bool false]⟩) hV) :
    ∃ tm', isFull 7 tm' = true ∧ tm'.find 2 = some (.slice none 0 0) ∧ tm'.find 3 = some (.int .i64 (.ofNat 250)) ∧ ∀ m, N ≤ m → ∀ R J K, S.W R J (m + 20) (loopB B1 16 0) ⟨tm, h, 67, 16, none, []⟩ K = K .ret ⟨tm', (wr hV hT.next (.cells 3 33 1 true true undef (putL [.string ⟨⟨[]⟩⟩] 1 tr))), 67, 16, none, []⟩ := by
  obtain ⟨g, rfl⟩ := full_look hf [(0, .string ⟨⟨s⟩⟩), (4, .slice none 0 0)] (by simp [h0, h4])
  refine ⟨?tm, ?_, ?_, ?_, ?walk⟩
  case walk =>
    intro m hm R J K
    refine (S_loop hS).trans ?_
    conv => lhs; whnf
    repeat ((first
      | refine (V_all hS).trans ?_ | refine (fV_bool _ _).trans ?_ | refine (fN_eq _ _).trans ?_ | refine (S_cons hS).trans ?_ | refine (S_nil hS).trans ?_ | refine (nxB1 hS).trans ?_ | refine (nxB0 hS).trans ?_ | refine (newBlk_eq _ _ _).trans ?_ | refine (nxNc).trans ?_ | refine (nxLe).trans ?_ | refine (nxPn hS).trans ?_ | refine (nxLs).trans ?_ | refine (nxLt).trans ?_ | refine (S_draw0 hS (by rfl) (by kernel_rfl) (by rfl)).trans ?_ | refine (S_draw2 hS (by kernel_rfl) (by rfl)).trans ?_ | refine (nxZ).trans ?_ | refine (nxT hS).trans ?_ | refine (nxF hS).trans ?_ | refine (nxAdd hS).trans ?_ | refine (nxSub hS).trans ?_ | refine (nxMul hS).trans ?_ | refine (nxShr hS).trans ?_ | refine (nxShl hS).trans ?_ | refine (nxRem hS).trans ?_ | refine (nxQuo hS).trans ?_ | refine (nxOr hS).trans ?_ | refine (nxAnd hS).trans ?_ | refine (nxCv hS).trans ?_ | refine (nxC8 hS).trans ?_
      | refine (reads_nil).trans ?_ | refine (reads_off).trans ?_ | refine (reads_pure).trans ?_ | refine (reads_loud).trans ?_ | refine (reads_alloc).trans ?_ | refine (reads_0 (by rfl)).trans ?_ | refine (reads_1 (by rfl)).trans ?_ | refine (stages_nil).trans ?_ | refine (stages_yes (by rfl) (by rfl)).trans ?_ | refine (stages_no (by rfl)).trans ?_ | refine (nxLa).trans ?_ | refine (again_s hS).trans ?_ | refine (nxEq).trans ?_ | refine (fL_eq _ _).trans ?_ | refine (nxAt).trans ?_ | refine (hx _ _).trans ?_ | refine (slice_lo (l := s) (i := 1) u9 (by omega) _).trans ?_ | rw [hr] | refine (S_call hS fun R J c => rT _ (by omega) R J c).trans ?_ | refine (store_eq (t := 33) (by rfl) (by show (T.put _ _ _).find _ = _; rw [T.find_put, if_pos rfl]) rfl (by rfl) (by decide) rfl _).trans ?_ | refine (S_call hS fun R J c => rV _ (by omega) R J c).trans ?_
      | refine (store_eq (t := 9) (L := [.string ⟨⟨[]⟩⟩]) (by rfl) hbV (by rfl) (by rfl) (by decide) (by rfl) _).trans ?_); (conv => lhs; whnf))
    first | done | rfl
  all_goals rfl
theorem refents_1_first_ok {S : Stops} (hS : S.Real B1) {tm : T Value} {h : Hp} {N : Nat} {s r : List UInt8}
    (hf : isFull 7 tm = true) (h0 : tm.find 0 = some (.string ⟨⟨s⟩⟩)) (h4 : tm.find 4 = some (.slice none 0 0)) (hsl : 0 < s.length) (hx : ByteAt s 0 1) (hr : s.drop 1 = r)
    {key rest : List UInt8}
    {hT : Hp} (rT : Gives N 49 [.string ⟨⟨r⟩⟩] h (.tuple ⟨[.string ⟨⟨key⟩⟩, .string ⟨⟨rest⟩⟩, .bool true]⟩) hT)
    {tr : T Value} {hV : Hp} (hbV : hV.t.find hT.next = some (.cells 3 33 1 true true undef tr))
    {val rest2 : List UInt8}
    (rV : Gives N 49 [.string ⟨⟨rest⟩⟩] (withE hT (key, [], false)) (.tuple ⟨[.string ⟨⟨val⟩⟩, .string ⟨⟨rest2⟩⟩, .bool true]⟩) hV)
    (l3 : LoadsE (wr hV hT.next (.cells 3 33 1 true true undef (putL [.string ⟨⟨val⟩⟩] 1 tr))) hT.next key val false) {s2 : Value} {h6 : Hp} (ha : ∀ (R : Type) (c : Value → Hp → An R), appendK B1 27 27 (.slice none 0 0) (.slice (some ⟨((wr hV hT.next (.cells 3 33 1 true true undef (putL [.string ⟨⟨val⟩⟩] 1 tr)))).next, 0, none⟩) 1 1) (rowE (wr hV hT.next (.cells 3 33 1 true true undef (putL [.string ⟨⟨val⟩⟩] 1 tr))) [.string ⟨⟨key⟩⟩, .string ⟨⟨val⟩⟩, .bool false]) c = c s2 h6) :
    ∃ tm', isFull 7 tm' = true ∧ tm'.find 0 = some (.string ⟨⟨rest2⟩⟩) ∧ tm'.find 4 = some s2 ∧ ∀ m, N ≤ m → ∀ R J K, S.W R J (m + 20) (loopB B1 16 0) ⟨tm, h, 67, 16, none, []⟩ K = S.W R J (m + 19) (loopB B1 16 0) ⟨tm', h6, 67, 16, none, []⟩ K := by
  obtain ⟨g, rfl⟩ := full_look hf [(0, .string ⟨⟨s⟩⟩), (4, .slice none 0 0)] (by simp [h0, h4])
  refine ⟨?tm, ?_, ?_, ?_, ?walk⟩
  case walk =>
    intro m hm R J K
    refine (S_loop hS).trans ?_
    conv => lhs; whnf
    repeat ((first
      | refine (V_all hS).trans ?_ | refine (fV_bool _ _).trans ?_ | refine (fN_eq _ _).trans ?_ | refine (S_cons hS).trans ?_ | refine (S_nil hS).trans ?_ | refine (nxB1 hS).trans ?_ | refine (nxB0 hS).trans ?_ | refine (newBlk_eq _ _ _).trans ?_ | refine (nxNc).trans ?_ | refine (nxLe).trans ?_ | refine (nxPn hS).trans ?_ | refine (nxLs).trans ?_ | refine (nxLt).trans ?_ | refine (S_draw0 hS (by rfl) (by kernel_rfl) (by rfl)).trans ?_ | refine (S_draw2 hS (by kernel_rfl) (by rfl)).trans ?_ | refine (nxZ).trans ?_ | refine (nxT hS).trans ?_ | refine (nxF hS).trans ?_ | refine (nxAdd hS).trans ?_ | refine (nxSub hS).trans ?_ | refine (nxMul hS).trans ?_ | refine (nxShr hS).trans ?_ | refine (nxShl hS).trans ?_ | refine (nxRem hS).trans ?_ | refine (nxQuo hS).trans ?_ | refine (nxOr hS).trans ?_ | refine (nxAnd hS).trans ?_ | refine (nxCv hS).trans ?_ | refine (nxC8 hS).trans ?_
      | refine (reads_nil).trans ?_ | refine (reads_off).trans ?_ | refine (reads_pure).trans ?_ | refine (reads_loud).trans ?_ | refine (reads_alloc).trans ?_ | refine (reads_0 (by rfl)).trans ?_ | refine (reads_1 (by rfl)).trans ?_ | refine (stages_nil).trans ?_ | refine (stages_yes (by rfl) (by rfl)).trans ?_ | refine (stages_no (by rfl)).trans ?_ | refine (nxLa).trans ?_ | refine (again_s hS).trans ?_ | refine (nxEq).trans ?_ | refine (fL_eq _ _).trans ?_ | refine (nxAt).trans ?_ | refine (hx _ _).trans ?_ | refine (slice_lo (l := s) (i := 1) u9 (by omega) _).trans ?_ | rw [hr] | refine (S_call hS fun R J c => rT _ (by omega) R J c).trans ?_ | refine (store_eq (t := 33) (by rfl) (by show (T.put _ _ _).find _ = _; rw [T.find_put, if_pos rfl]) rfl (by rfl) (by decide) rfl _).trans ?_ | refine (S_call hS fun R J c => rV _ (by omega) R J c).trans ?_
      | refine (store_eq (t := 9) (L := [.string ⟨⟨val⟩⟩]) (by rfl) hbV (by rfl) (by rfl) (by decide) (by rfl) _).trans ?_ | refine (l3 _ _).trans ?_ | refine (ha _ _).trans ?_); (conv => lhs; whnf))
    first | done | rfl
  all_goals rfl
theorem refents_1_ok_t2 {S : Stops} (hS : S.Real B1) {tm : T Value} {h : Hp} {N : Nat} {s r : List UInt8}
    {ok on : Nat} {last : List UInt8} (hon : 0 < on) (hon2 : on < 9223372036854775808)
    (hf : isFull 7 tm = true) (h0 : tm.find 0 = some (.string ⟨⟨s⟩⟩)) (h4 : tm.find 4 = some (.slice (some ⟨ok, 0, none⟩) on TOP)) (hsl : 0 < s.length) (hx : ByteAt s 0 1) (hr : s.drop 1 = r)
    {key rest : List UInt8}
    {hT : Hp} (rT : Gives N 49 [.string ⟨⟨r⟩⟩] h (.tuple ⟨[.string ⟨⟨key⟩⟩, .string ⟨⟨rest⟩⟩, .bool true]⟩) hT)
    (l1 : LoadsS hT ok (0 + (on - 1) * 3) last) (hq : (Op.bytesLess key last || key == last) = false)
    {tr : T Value} {hV : Hp} (hbV : hV.t.find hT.next = some (.cells 3 33 1 true true undef tr))
    (rV : Gives N 49 [.string ⟨⟨rest⟩⟩] (withE hT (key, [], false)) (.tuple ⟨[.string ⟨⟨[]⟩⟩, .string ⟨⟨[]⟩⟩, .bool false]⟩) hV) :
    ∃ tm', isFull 7 tm' = true ∧ tm'.find 2 = some (.slice none 0 0) ∧ tm'.find 3 = some (.int .i64 (.ofNat 250)) ∧ ∀ m, N ≤ m → ∀ R J K, S.W R J (m + 20) (loopB B1 16 0) ⟨tm, h, 67, 16, none, []⟩ K = K .ret ⟨tm', (wr hV hT.next (.cells 3 33 1 true true undef (putL [.string ⟨⟨[]⟩⟩] 1 tr))), 67, 16, none, []⟩ := by
  obtain ⟨g, rfl⟩ := full_look hf [(0, .string ⟨⟨s⟩⟩), (4, .slice (some ⟨ok, 0, none⟩) on TOP)] (by simp [h0, h4])
  refine ⟨?tm, ?_, ?_, ?_, ?walk⟩
  case walk =>
    intro m hm R J K
    refine (S_loop hS).trans ?_
    conv => lhs; whnf
    repeat ((first
      | refine (V_all hS).trans ?_ | refine (fV_bool _ _).trans ?_ | refine (fN_eq _ _).trans ?_ | refine (S_cons hS).trans ?_ | refine (S_nil hS).trans ?_ | refine (nxB1 hS).trans ?_ | refine (nxB0 hS).trans ?_ | refine (newBlk_eq _ _ _).trans ?_ | refine (nxNc).trans ?_ | refine (nxLe).trans ?_ | refine (nxPn hS).trans ?_ | refine (nxLs).trans ?_ | refine (nxLt).trans ?_ | refine (S_draw0 hS (by rfl) (by kernel_rfl) (by rfl)).trans ?_ | refine (S_draw2 hS (by kernel_rfl) (by rfl)).trans ?_ | refine (nxZ).trans ?_ | refine (nxT hS).trans ?_ | refine (nxF hS).trans ?_ | refine (nxAdd hS).trans ?_ | refine (nxSub hS).trans ?_ | refine (nxMul hS).trans ?_ | refine (nxShr hS).trans ?_ | refine (nxShl hS).trans ?_ | refine (nxRem hS).trans ?_ | refine (nxQuo hS).trans ?_ | refine (nxOr hS).trans ?_ | refine (nxAnd hS).trans ?_ | refine (nxCv hS).trans ?_ | refine (nxC8 hS).trans ?_
      | refine (reads_nil).trans ?_ | refine (reads_off).trans ?_ | refine (reads_pure).trans ?_ | refine (reads_loud).trans ?_ | refine (reads_alloc).trans ?_ | refine (reads_0 (by rfl)).trans ?_ | refine (reads_1 (by rfl)).trans ?_ | refine (stages_nil).trans ?_ | refine (stages_yes (by rfl) (by rfl)).trans ?_ | refine (stages_no (by rfl)).trans ?_ | refine (nxLa).trans ?_ | refine (again_s hS).trans ?_ | refine (nxEq).trans ?_ | refine (fL_eq _ _).trans ?_ | refine (nxAt).trans ?_ | refine (hx _ _).trans ?_ | refine (slice_lo (l := s) (i := 1) u9 (by omega) _).trans ?_ | rw [hr] | refine (S_call hS fun R J c => rT _ (by omega) R J c).trans ?_ | refine (l1 _ _).trans ?_ | refine (b2 hS (les_b _)).trans ?_ | rw [hq] | refine (store_eq (t := 33) (by rfl) (by show (T.put _ _ _).find _ = _; rw [T.find_put, if_pos rfl]) rfl (by rfl) (by decide) rfl _).trans ?_
      | refine (S_call hS fun R J c => rV _ (by omega) R J c).trans ?_ | refine (store_eq (t := 9) (L := [.string ⟨⟨[]⟩⟩]) (by rfl) hbV (by rfl) (by rfl) (by decide) (by rfl) _).trans ?_); (conv => lhs; whnf))
    first | done | rfl
  all_goals rfl
theorem refents_1_ok_ok {S : Stops} (hS : S.Real B1) {tm : T Value} {h : Hp} {N : Nat} {s r : List UInt8}
    {ok on : Nat} {last : List UInt8} (hon : 0 < on) (hon2 : on < 9223372036854775808)
    (hf : isFull 7 tm = true) (h0 : tm.find 0 = some (.string ⟨⟨s⟩⟩)) (h4 : tm.find 4 = some (.slice (some ⟨ok, 0, none⟩) on TOP)) (hsl : 0 < s.length) (hx : ByteAt s 0 1) (hr : s.drop 1 = r)
    {key rest : List UInt8}
    {hT : Hp} (rT : Gives N 49 [.string ⟨⟨r⟩⟩] h (.tuple ⟨[.string ⟨⟨key⟩⟩, .string ⟨⟨rest⟩⟩, .bool true]⟩) hT)
    (l1 : LoadsS hT ok (0 + (on - 1) * 3) last) (hq : (Op.bytesLess key last || key == last) = false)
    {tr : T Value} {hV : Hp} (hbV : hV.t.find hT.next = some (.cells 3 33 1 true true undef tr))
    {val rest2 : List UInt8}
    (rV : Gives N 49 [.string ⟨⟨rest⟩⟩] (withE hT (key, [], false)) (.tuple ⟨[.string ⟨⟨val⟩⟩, .string ⟨⟨rest2⟩⟩, .bool true]⟩) hV)
    (l3 : LoadsE (wr hV hT.next (.cells 3 33 1 true true undef (putL [.string ⟨⟨val⟩⟩] 1 tr))) hT.next key val false) {s2 : Value} {h6 : Hp} (ha : ∀ (R : Type) (c : Value → Hp → An R), appendK B1 27 27 (.slice (some ⟨ok, 0, none⟩) on TOP) (.slice (some ⟨((wr hV hT.next (.cells 3 33 1 true true undef (putL [.string ⟨⟨val⟩⟩] 1 tr)))).next, 0, none⟩) 1 1) (rowE (wr hV hT.next (.cells 3 33 1 true true undef (putL [.string ⟨⟨val⟩⟩] 1 tr))) [.string ⟨⟨key⟩⟩, .string ⟨⟨val⟩⟩, .bool false]) c = c s2 h6) :
    ∃ tm', isFull 7 tm' = true ∧ tm'.find 0 = some (.string ⟨⟨rest2⟩⟩) ∧ tm'.find 4 = some s2 ∧ ∀ m, N ≤ m → ∀ R J K, S.W R J (m + 20) (loopB B1 16 0) ⟨tm, h, 67, 16, none, []⟩ K = S.W R J (m + 19) (loopB B1 16 0) ⟨tm', h6, 67, 16, none, []⟩ K := by
  obtain ⟨g, rfl⟩ := full_look hf [(0, .string ⟨⟨s⟩⟩), (4, .slice (some ⟨ok, 0, none⟩) on TOP)] (by simp [h0, h4])
  refine ⟨?tm, ?_, ?_, ?_, ?walk⟩
  case walk =>
    intro m hm R J K
    refine (S_loop hS).trans ?_
    conv => lhs; whnf
    repeat ((first
      | refine (V_all hS).trans ?_ | refine (fV_bool _ _).trans ?_ | refine (fN_eq _ _).trans ?_ | refine (S_cons hS).trans ?_ | refine (S_nil hS).trans ?_ | refine (nxB1 hS).trans ?_ | refine (nxB0 hS).trans ?_ | refine (newBlk_eq _ _ _).trans ?_ | refine (nxNc).trans ?_ | refine (nxLe).trans ?_ | refine (nxPn hS).trans ?_ | refine (nxLs).trans ?_ | refine (nxLt).trans ?_ | refine (S_draw0 hS (by rfl) (by kernel_rfl) (by rfl)).trans ?_ | refine (S_draw2 hS (by kernel_rfl) (by rfl)).trans ?_ | refine (nxZ).trans ?_ | refine (nxT hS).trans ?_ | refine (nxF hS).trans ?_ | refine (nxAdd hS).trans ?_ | refine (nxSub hS).trans ?_ | refine (nxMul hS).trans ?_ | refine (nxShr hS).trans ?_ | refine (nxShl hS).trans ?_ | refine (nxRem hS).trans ?_ | refine (nxQuo hS).trans ?_ | refine (nxOr hS).trans ?_ | refine (nxAnd hS).trans ?_ | refine (nxCv hS).trans ?_ | refine (nxC8 hS).trans ?_
      | refine (reads_nil).trans ?_ | refine (reads_off).trans ?_ | refine (reads_pure).trans ?_ | refine (reads_loud).trans ?_ | refine (reads_alloc).trans ?_ | refine (reads_0 (by rfl)).trans ?_ | refine (reads_1 (by rfl)).trans ?_ | refine (stages_nil).trans ?_ | refine (stages_yes (by rfl) (by rfl)).trans ?_ | refine (stages_no (by rfl)).trans ?_ | refine (nxLa).trans ?_ | refine (again_s hS).trans ?_ | refine (nxEq).trans ?_ | refine (fL_eq _ _).trans ?_ | refine (nxAt).trans ?_ | refine (hx _ _).trans ?_ | refine (slice_lo (l := s) (i := 1) u9 (by omega) _).trans ?_ | rw [hr] | refine (S_call hS fun R J c => rT _ (by omega) R J c).trans ?_ | refine (l1 _ _).trans ?_ | refine (b2 hS (les_b _)).trans ?_ | rw [hq] | refine (store_eq (t := 33) (by rfl) (by show (T.put _ _ _).find _ = _; rw [T.find_put, if_pos rfl]) rfl (by rfl) (by decide) rfl _).trans ?_
      | refine (S_call hS fun R J c => rV _ (by omega) R J c).trans ?_ | refine (store_eq (t := 9) (L := [.string ⟨⟨val⟩⟩]) (by rfl) hbV (by rfl) (by rfl) (by decide) (by rfl) _).trans ?_ | refine (l3 _ _).trans ?_ | refine (ha _ _).trans ?_); (conv => lhs; whnf))
    first | done | rfl
  all_goals rfl
theorem refents_2_t1 {S : Stops} (hS : S.Real B1) {tm : T Value} {h : Hp} {N : Nat} {s r : List UInt8}
    {ob : Option Addr} {on oc : Nat}
    (hf : isFull 7 tm = true) (h0 : tm.find 0 = some (.string ⟨⟨s⟩⟩)) (h4 : tm.find 4 = some (.slice ob on oc)) (hsl : 0 < s.length) (hx : ByteAt s 0 2) (hr : s.drop 1 = r)
    {key rest : List UInt8}
    (rT : Gives N 49 [.string ⟨⟨r⟩⟩] h (.tuple ⟨[.string ⟨⟨[]⟩⟩, .string ⟨⟨[]⟩⟩, .bool false]⟩) h) :
    ∃ tm', isFull 7 tm' = true ∧ tm'.find 2 = some (.slice none 0 0) ∧ tm'.find 3 = some (.int .i64 (.ofNat 250)) ∧ ∀ m, N ≤ m → ∀ R J K, S.W R J (m + 20) (loopB B1 16 0) ⟨tm, h, 67, 16, none, []⟩ K = K .ret ⟨tm', h, 67, 16, none, []⟩ := by
  obtain ⟨g, rfl⟩ := full_look hf [(0, .string ⟨⟨s⟩⟩), (4, .slice ob on oc)] (by simp [h0, h4])
  refine ⟨?tm, ?_, ?_, ?_, ?walk⟩
  case walk =>
    intro m hm R J K
    refine (S_loop hS).trans ?_
    conv => lhs; whnf
    repeat ((first
      | refine (V_all hS).trans ?_ | refine (fV_bool _ _).trans ?_ | refine (fN_eq _ _).trans ?_ | refine (S_cons hS).trans ?_ | refine (S_nil hS).trans ?_ | refine (nxB1 hS).trans ?_ | refine (nxB0 hS).trans ?_ | refine (newBlk_eq _ _ _).trans ?_ | refine (nxNc).trans ?_ | refine (nxLe).trans ?_ | refine (nxPn hS).trans ?_ | refine (nxLs).trans ?_ | refine (nxLt).trans ?_ | refine (S_draw0 hS (by rfl) (by kernel_rfl) (by rfl)).trans ?_ | refine (S_draw2 hS (by kernel_rfl) (by rfl)).trans ?_ | refine (nxZ).trans ?_ | refine (nxT hS).trans ?_ | refine (nxF hS).trans ?_ | refine (nxAdd hS).trans ?_ | refine (nxSub hS).trans ?_ | refine (nxMul hS).trans ?_ | refine (nxShr hS).trans ?_ | refine (nxShl hS).trans ?_ | refine (nxRem hS).trans ?_ | refine (nxQuo hS).trans ?_ | refine (nxOr hS).trans ?_ | refine (nxAnd hS).trans ?_ | refine (nxCv hS).trans ?_ | refine (nxC8 hS).trans ?_
      | refine (reads_nil).trans ?_ | refine (reads_off).trans ?_ | refine (reads_pure).trans ?_ | refine (reads_loud).trans ?_ | refine (reads_alloc).trans ?_ | refine (reads_0 (by rfl)).trans ?_ | refine (reads_1 (by rfl)).trans ?_ | refine (stages_nil).trans ?_ | refine (stages_yes (by rfl) (by rfl)).trans ?_ | refine (stages_no (by rfl)).trans ?_ | refine (nxLa).trans ?_ | refine (again_s hS).trans ?_ | refine (nxEq).trans ?_ | refine (fL_eq _ _).trans ?_ | refine (nxAt).trans ?_ | refine (hx _ _).trans ?_ | refine (slice_lo (l := s) (i := 1) u9 (by omega) _).trans ?_ | rw [hr] | refine (S_call hS fun R J c => rT _ (by omega) R J c).trans ?_); (conv => lhs; whnf))
    first | done | rfl
  all_goals rfl
theorem refents_2_bad {S : Stops} (hS : S.Real B1) {tm : T Value} {h : Hp} {N : Nat} {s r : List UInt8}
    {ok on : Nat} {last : List UInt8} (hon : 0 < on) (hon2 : on < 9223372036854775808)
    (hf : isFull 7 tm = true) (h0 : tm.find 0 = some (.string ⟨⟨s⟩⟩)) (h4 : tm.find 4 = some (.slice (some ⟨ok, 0, none⟩) on TOP)) (hsl : 0 < s.length) (hx : ByteAt s 0 2) (hr : s.drop 1 = r)
    {key rest : List UInt8}
    {hT : Hp} (rT : Gives N 49 [.string ⟨⟨r⟩⟩] h (.tuple ⟨[.string ⟨⟨key⟩⟩, .string ⟨⟨rest⟩⟩, .bool true]⟩) hT)
    (l1 : LoadsS hT ok (0 + (on - 1) * 3) last) (hq : (Op.bytesLess key last || key == last) = true) :
    ∃ tm', isFull 7 tm' = true ∧ tm'.find 2 = some (.slice none 0 0) ∧ tm'.find 3 = some (.int .i64 (.ofNat 250)) ∧ ∀ m, N ≤ m → ∀ R J K, S.W R J (m + 20) (loopB B1 16 0) ⟨tm, h, 67, 16, none, []⟩ K = K .ret ⟨tm', hT, 67, 16, none, []⟩ := by
  obtain ⟨g, rfl⟩ := full_look hf [(0, .string ⟨⟨s⟩⟩), (4, .slice (some ⟨ok, 0, none⟩) on TOP)] (by simp [h0, h4])
  refine ⟨?tm, ?_, ?_, ?_, ?walk⟩
  case walk =>
    intro m hm R J K
    refine (S_loop hS).trans ?_
    conv => lhs; whnf
    repeat ((first
      | refine (V_all hS).trans ?_ | refine (fV_bool _ _).trans ?_ | refine (fN_eq _ _).trans ?_ | refine (S_cons hS).trans ?_ | refine (S_nil hS).trans ?_ | refine (nxB1 hS).trans ?_ | refine (nxB0 hS).trans ?_ | refine (newBlk_eq _ _ _).trans ?_ | refine (nxNc).trans ?_ | refine (nxLe).trans ?_ | refine (nxPn hS).trans ?_ | refine (nxLs).trans ?_ | refine (nxLt).trans ?_ | refine (S_draw0 hS (by rfl) (by kernel_rfl) (by rfl)).trans ?_ | refine (S_draw2 hS (by kernel_rfl) (by rfl)).trans ?_ | refine (nxZ).trans ?_ | refine (nxT hS).trans ?_ | refine (nxF hS).trans ?_ | refine (nxAdd hS).trans ?_ | refine (nxSub hS).trans ?_ | refine (nxMul hS).trans ?_ | refine (nxShr hS).trans ?_ | refine (nxShl hS).trans ?_ | refine (nxRem hS).trans ?_ | refine (nxQuo hS).trans ?_ | refine (nxOr hS).trans ?_ | refine (nxAnd hS).trans ?_ | refine (nxCv hS).trans ?_ | refine (nxC8 hS).trans ?_
      | refine (reads_nil).trans ?_ | refine (reads_off).trans ?_ | refine (reads_pure).trans ?_ | refine (reads_loud).trans ?_ | refine (reads_alloc).trans ?_ | refine (reads_0 (by rfl)).trans ?_ | refine (reads_1 (by rfl)).trans ?_ | refine (stages_nil).trans ?_ | refine (stages_yes (by rfl) (by rfl)).trans ?_ | refine (stages_no (by rfl)).trans ?_ | refine (nxLa).trans ?_ | refine (again_s hS).trans ?_ | refine (nxEq).trans ?_ | refine (fL_eq _ _).trans ?_ | refine (nxAt).trans ?_ | refine (hx _ _).trans ?_ | refine (slice_lo (l := s) (i := 1) u9 (by omega) _).trans ?_ | rw [hr] | refine (S_call hS fun R J c => rT _ (by omega) R J c).trans ?_ | refine (l1 _ _).trans ?_ | refine (b2 hS (les_b _)).trans ?_ | rw [hq]); (conv => lhs; whnf))
    first | done | rfl
  all_goals rfl
theorem refents_2_first {S : Stops} (hS : S.Real B1) {tm : T Value} {h : Hp} {N : Nat} {s r : List UInt8}
    (hf : isFull 7 tm = true) (h0 : tm.find 0 = some (.string ⟨⟨s⟩⟩)) (h4 : tm.find 4 = some (.slice none 0 0)) (hsl : 0 < s.length) (hx : ByteAt s 0 2) (hr : s.drop 1 = r)
    {key rest : List UInt8}
    {hT : Hp} (rT : Gives N 49 [.string ⟨⟨r⟩⟩] h (.tuple ⟨[.string ⟨⟨key⟩⟩, .string ⟨⟨rest⟩⟩, .bool true]⟩) hT)
    (l3 : LoadsE (withE hT (key, [], true)) hT.next key [] true) {s2 : Value} {h6 : Hp} (ha : ∀ (R : Type) (c : Value → Hp → An R), appendK B1 27 27 (.slice none 0 0) (.slice (some ⟨((withE hT (key, [], true))).next, 0, none⟩) 1 1) (rowE (withE hT (key, [], true)) [.string ⟨⟨key⟩⟩, .string ⟨⟨[]⟩⟩, .bool true]) c = c s2 h6) :
    ∃ tm', isFull 7 tm' = true ∧ tm'.find 0 = some (.string ⟨⟨rest⟩⟩) ∧ tm'.find 4 = some s2 ∧ ∀ m, N ≤ m → ∀ R J K, S.W R J (m + 20) (loopB B1 16 0) ⟨tm, h, 67, 16, none, []⟩ K = S.W R J (m + 19) (loopB B1 16 0) ⟨tm', h6, 67, 16, none, []⟩ K := by
  obtain ⟨g, rfl⟩ := full_look hf [(0, .string ⟨⟨s⟩⟩), (4, .slice none 0 0)] (by simp [h0, h4])
  refine ⟨?tm, ?_, ?_, ?_, ?walk⟩
  case walk =>
    intro m hm R J K
    refine (S_loop hS).trans ?_
    conv => lhs; whnf
    repeat ((first
      | refine (V_all hS).trans ?_ | refine (fV_bool _ _).trans ?_ | refine (fN_eq _ _).trans ?_ | refine (S_cons hS).trans ?_ | refine (S_nil hS).trans ?_ | refine (nxB1 hS).trans ?_ | refine (nxB0 hS).trans ?_ | refine (newBlk_eq _ _ _).trans ?_ | refine (nxNc).trans ?_ | refine (nxLe).trans ?_ | refine (nxPn hS).trans ?_ | refine (nxLs).trans ?_ | refine (nxLt).trans ?_ | refine (S_draw0 hS (by rfl) (by kernel_rfl) (by rfl)).trans ?_ | refine (S_draw2 hS (by kernel_rfl) (by rfl)).trans ?_ | refine (nxZ).trans ?_ | refine (nxT hS).trans ?_ | refine (nxF hS).trans ?_ | refine (nxAdd hS).trans ?_ | refine (nxSub hS).trans ?_ | refine (nxMul hS).trans ?_ | refine (nxShr hS).trans ?_ | refine (nxShl hS).trans ?_ | refine (nxRem hS).trans ?_ | refine (nxQuo hS).trans ?_ | refine (nxOr hS).trans ?_ | refine (nxAnd hS).trans ?_ | refine (nxCv hS).trans ?_ | refine (nxC8 hS).trans ?_
      | refine (reads_nil).trans ?_ | refine (reads_off).trans ?_ | refine (reads_pure).trans ?_ | refine (reads_loud).trans ?_ | refine (reads_alloc).trans ?_ | refine (reads_0 (by rfl)).trans ?_ | refine (reads_1 (by rfl)).trans ?_ | refine (stages_nil).trans ?_ | refine (stages_yes (by rfl) (by rfl)).trans ?_ | refine (stages_no (by rfl)).trans ?_ | refine (nxLa).trans ?_ | refine (again_s hS).trans ?_ | refine (nxEq).trans ?_ | refine (fL_eq _ _).trans ?_ | refine (nxAt).trans ?_ | refine (hx _ _).trans ?_ | refine (slice_lo (l := s) (i := 1) u9 (by omega) _).trans ?_ | rw [hr] | refine (S_call hS fun R J c => rT _ (by omega) R J c).trans ?_ | refine (store_eq (t := 33) (by rfl) (by show (T.put _ _ _).find _ = _; rw [T.find_put, if_pos rfl]) rfl (by rfl) (by decide) rfl _).trans ?_ | refine (l3 _ _).trans ?_ | refine (ha _ _).trans ?_); (conv => lhs; whnf))
    first | done | rfl
  all_goals rfl
theorem refents_2_ok {S : Stops} (hS : S.Real B1) {tm : T Value} {h : Hp} {N : Nat} {s r : List UInt8}
    {ok on : Nat} {last : List UInt8} (hon : 0 < on) (hon2 : on < 9223372036854775808)
    (hf : isFull 7 tm = true) (h0 : tm.find 0 = some (.string ⟨⟨s⟩⟩)) (h4 : tm.find 4 = some (.slice (some ⟨ok, 0, none⟩) on TOP)) (hsl : 0 < s.length) (hx : ByteAt s 0 2) (hr : s.drop 1 = r)
    {key rest : List UInt8}
    {hT : Hp} (rT : Gives N 49 [.string ⟨⟨r⟩⟩] h (.tuple ⟨[.string ⟨⟨key⟩⟩, .string ⟨⟨rest⟩⟩, .bool true]⟩) hT)
    (l1 : LoadsS hT ok (0 + (on - 1) * 3) last) (hq : (Op.bytesLess key last || key == last) = false)
    (l3 : LoadsE (withE hT (key, [], true)) hT.next key [] true) {s2 : Value} {h6 : Hp} (ha : ∀ (R : Type) (c : Value → Hp → An R), appendK B1 27 27 (.slice (some ⟨ok, 0, none⟩) on TOP) (.slice (some ⟨((withE hT (key, [], true))).next, 0, none⟩) 1 1) (rowE (withE hT (key, [], true)) [.string ⟨⟨key⟩⟩, .string ⟨⟨[]⟩⟩, .bool true]) c = c s2 h6) :
    ∃ tm', isFull 7 tm' = true ∧ tm'.find 0 = some (.string ⟨⟨rest⟩⟩) ∧ tm'.find 4 = some s2 ∧ ∀ m, N ≤ m → ∀ R J K, S.W R J (m + 20) (loopB B1 16 0) ⟨tm, h, 67, 16, none, []⟩ K = S.W R J (m + 19) (loopB B1 16 0) ⟨tm', h6, 67, 16, none, []⟩ K := by
  obtain ⟨g, rfl⟩ := full_look hf [(0, .string ⟨⟨s⟩⟩), (4, .slice (some ⟨ok, 0, none⟩) on TOP)] (by simp [h0, h4])
  refine ⟨?tm, ?_, ?_, ?_, ?walk⟩
  case walk =>
    intro m hm R J K
    refine (S_loop hS).trans ?_
    conv => lhs; whnf
    repeat ((first
      | refine (V_all hS).trans ?_ | refine (fV_bool _ _).trans ?_ | refine (fN_eq _ _).trans ?_ | refine (S_cons hS).trans ?_ | refine (S_nil hS).trans ?_ | refine (nxB1 hS).trans ?_ | refine (nxB0 hS).trans ?_ | refine (newBlk_eq _ _ _).trans ?_ | refine (nxNc).trans ?_ | refine (nxLe).trans ?_ | refine (nxPn hS).trans ?_ | refine (nxLs).trans ?_ | refine (nxLt).trans ?_ | refine (S_draw0 hS (by rfl) (by kernel_rfl) (by rfl)).trans ?_ | refine (S_draw2 hS (by kernel_rfl) (by rfl)).trans ?_ | refine (nxZ).trans ?_ | refine (nxT hS).trans ?_ | refine (nxF hS).trans ?_ | refine (nxAdd hS).trans ?_ | refine (nxSub hS).trans ?_ | refine (nxMul hS).trans ?_ | refine (nxShr hS).trans ?_ | refine (nxShl hS).trans ?_ | refine (nxRem hS).trans ?_ | refine (nxQuo hS).trans ?_ | refine (nxOr hS).trans ?_ | refine (nxAnd hS).trans ?_ | refine (nxCv hS).trans ?_ | refine (nxC8 hS).trans ?_
      | refine (reads_nil).trans ?_ | refine (reads_off).trans ?_ | refine (reads_pure).trans ?_ | refine (reads_loud).trans ?_ | refine (reads_alloc).trans ?_ | refine (reads_0 (by rfl)).trans ?_ | refine (reads_1 (by rfl)).trans ?_ | refine (stages_nil).trans ?_ | refine (stages_yes (by rfl) (by rfl)).trans ?_ | refine (stages_no (by rfl)).trans ?_ | refine (nxLa).trans ?_ | refine (again_s hS).trans ?_ | refine (nxEq).trans ?_ | refine (fL_eq _ _).trans ?_ | refine (nxAt).trans ?_ | refine (hx _ _).trans ?_ | refine (slice_lo (l := s) (i := 1) u9 (by omega) _).trans ?_ | rw [hr] | refine (S_call hS fun R J c => rT _ (by omega) R J c).trans ?_ | refine (l1 _ _).trans ?_ | refine (b2 hS (les_b _)).trans ?_ | rw [hq] | refine (store_eq (t := 33) (by rfl) (by show (T.put _ _ _).find _ = _; rw [T.find_put, if_pos rfl]) rfl (by rfl) (by decide) rfl _).trans ?_ | refine (l3 _ _).trans ?_
      | refine (ha _ _).trans ?_); (conv => lhs; whnf))
    first | done | rfl
  all_goals rfl
theorem refents_x_bad {S : Stops} (hS : S.Real B1) {tm : T Value} {h : Hp} {N : Nat} {s r : List UInt8}
    {κ : Nat} (hκ1 : κ ≠ 1) (hκ2 : κ ≠ 2)
    {ob : Option Addr} {on oc : Nat}
    (hf : isFull 7 tm = true) (h0 : tm.find 0 = some (.string ⟨⟨s⟩⟩)) (h4 : tm.find 4 = some (.slice ob on oc)) (hsl : 0 < s.length) (hx : ByteAt s 0 κ) (hr : s.drop 1 = r) :
    ∃ tm', isFull 7 tm' = true ∧ tm'.find 2 = some (.slice none 0 0) ∧ tm'.find 3 = some (.int .i64 (.ofNat 250)) ∧ ∀ m, N ≤ m → ∀ R J K, S.W R J (m + 20) (loopB B1 16 0) ⟨tm, h, 67, 16, none, []⟩ K = K .ret ⟨tm', h, 67, 16, none, []⟩ := by
  obtain ⟨g, rfl⟩ := full_look hf [(0, .string ⟨⟨s⟩⟩), (4, .slice ob on oc)] (by simp [h0, h4])
  refine ⟨?tm, ?_, ?_, ?_, ?walk⟩
  case walk =>
    intro m hm R J K
    refine (S_loop hS).trans ?_
    conv => lhs; whnf
    repeat ((first
      | refine (V_all hS).trans ?_ | refine (fV_bool _ _).trans ?_ | refine (fN_eq _ _).trans ?_ | refine (S_cons hS).trans ?_ | refine (S_nil hS).trans ?_ | refine (nxB1 hS).trans ?_ | refine (nxB0 hS).trans ?_ | refine (newBlk_eq _ _ _).trans ?_ | refine (nxNc).trans ?_ | refine (nxLe).trans ?_ | refine (nxPn hS).trans ?_ | refine (nxLs).trans ?_ | refine (nxLt).trans ?_ | refine (S_draw0 hS (by rfl) (by kernel_rfl) (by rfl)).trans ?_ | refine (S_draw2 hS (by kernel_rfl) (by rfl)).trans ?_ | refine (nxZ).trans ?_ | refine (nxT hS).trans ?_ | refine (nxF hS).trans ?_ | refine (nxAdd hS).trans ?_ | refine (nxSub hS).trans ?_ | refine (nxMul hS).trans ?_ | refine (nxShr hS).trans ?_ | refine (nxShl hS).trans ?_ | refine (nxRem hS).trans ?_ | refine (nxQuo hS).trans ?_ | refine (nxOr hS).trans ?_ | refine (nxAnd hS).trans ?_ | refine (nxCv hS).trans ?_ | refine (nxC8 hS).trans ?_
      | refine (reads_nil).trans ?_ | refine (reads_off).trans ?_ | refine (reads_pure).trans ?_ | refine (reads_loud).trans ?_ | refine (reads_alloc).trans ?_ | refine (reads_0 (by rfl)).trans ?_ | refine (reads_1 (by rfl)).trans ?_ | refine (stages_nil).trans ?_ | refine (stages_yes (by rfl) (by rfl)).trans ?_ | refine (stages_no (by rfl)).trans ?_ | refine (nxLa).trans ?_ | refine (again_s hS).trans ?_ | refine (nxEq).trans ?_ | refine (fL_eq _ _).trans ?_ | refine (nxAt).trans ?_ | refine (hx _ _).trans ?_); (conv => lhs; whnf))
    first | done | rfl
  all_goals rfl
end Go.Proofs.YtopkigockpiggaaGreat
