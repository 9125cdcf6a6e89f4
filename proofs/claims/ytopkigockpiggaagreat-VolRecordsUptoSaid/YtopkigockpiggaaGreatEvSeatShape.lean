/-
  How a varint is read, walked.
-/
import Derived.Test.YtopkigockpiggaaGreatEvSeatCodec
set_option maxRecDepth 100000
set_option linter.unusedVariables false
set_option linter.unusedSimpArgs false
open Go Go.Ev
namespace Go.Proofs.YtopkigockpiggaaGreat
attribute [local irreducible] loadAt storeAt newBlk newCells writeAt appendK binK indexAddrK indexK sliceK lenK convK fN fV fL boolK maxK zeroOf enterK drawK rowsK leK okK readsK stagesK lastK againK eqvK
/-- byte i of a text. -/
abbrev ByteAt (s : List UInt8) (i c : Nat) : Prop := ∀ (R : Type) (k : Value → An R), indexK B1 9 (.string ⟨⟨s⟩⟩) (.int .i64 (.ofNat i)) k = k (.int .u8 (.ofNat c))
theorem byteAt {s : List UInt8} {i : Nat} {b : UInt8} (h : s[i]? = some b) : ByteAt s i b.toNat := fun R k => index_str u9 h k
section
variable {S : Stops} {s : List UInt8} {i a c : Nat} {tm : T Value} {h : Hp}
theorem shape_end (hS : S.Real B1) (hf : isFull 6 tm = true) (h8 : tm.find 8 = some (.int .i64 (.ofNat i))) (h9 : tm.find 9 = some (.int .i64 (.ofNat i))) :
    ∃ tm', isFull 6 tm' = true ∧ ∀ m R J K, S.W R J (m + 20) (loopB B1 189 0) ⟨tm, h, 41, 189, none, []⟩ K = K (.exit 0) ⟨tm', h, 41, 189, none, []⟩ := by
  obtain ⟨g, rfl⟩ := full_look hf [(8, .int .i64 (.ofNat i)), (9, .int .i64 (.ofNat i))] (by simp [h8, h9])
  refine ⟨?tm_1, ?_, ?walk_1⟩
  case walk_1 =>
    intro m R J K
    refine (S_loop hS).trans ?_
    conv => lhs; whnf
    repeat ((first
      | refine (V_all hS).trans ?_ | refine (fV_bool _ _).trans ?_ | refine (fN_eq _ _).trans ?_ | refine (S_cons hS).trans ?_ | refine (S_nil hS).trans ?_ | refine (nxB1 hS).trans ?_ | refine (nxB0 hS).trans ?_ | refine (newBlk_eq _ _ _).trans ?_ | refine (nxNc).trans ?_ | refine (nxLe).trans ?_ | refine (nxPn hS).trans ?_ | refine (nxLs).trans ?_ | refine (nxLt).trans ?_ | refine (S_draw0 hS (by rfl) (by kernel_rfl) (by rfl)).trans ?_ | refine (S_draw2 hS (by kernel_rfl) (by rfl)).trans ?_ | refine (nxZ).trans ?_ | refine (nxT hS).trans ?_ | refine (nxF hS).trans ?_ | refine (nxAdd hS).trans ?_ | refine (nxSub hS).trans ?_ | refine (nxMul hS).trans ?_ | refine (nxShr hS).trans ?_ | refine (nxShl hS).trans ?_ | refine (nxRem hS).trans ?_ | refine (nxQuo hS).trans ?_ | refine (nxOr hS).trans ?_ | refine (nxAnd hS).trans ?_ | refine (nxCv hS).trans ?_ | refine (nxC8 hS).trans ?_
      | refine (reads_nil).trans ?_ | refine (reads_off).trans ?_ | refine (reads_pure).trans ?_ | refine (reads_loud).trans ?_ | refine (reads_alloc).trans ?_ | refine (reads_0 (by rfl)).trans ?_ | refine (reads_1 (by rfl)).trans ?_ | refine (stages_nil).trans ?_ | refine (stages_yes (by rfl) (by rfl)).trans ?_ | refine (stages_no (by rfl)).trans ?_ | refine (nxLa).trans ?_ | refine (again_s hS).trans ?_ | refine (nxEq).trans ?_ | refine (fL_eq _ _).trans ?_ | refine (nxAt).trans ?_); (conv => lhs; whnf))
  all_goals rfl
theorem shape_more (hS : S.Real B1) (hf : isFull 6 tm = true) (h0 : tm.find 0 = some (.string ⟨⟨s⟩⟩)) (h2 : tm.find 2 = some (.int .u64 (.ofNat a))) (h8 : tm.find 8 = some (.int .i64 (.ofNat s.length))) (h9 : tm.find 9 = some (.int .i64 (.ofNat i)))
    (hi : i < s.length) (hx : ByteAt s i c) (hc : c < 256) (h128 : 128 ≤ c) (hi9 : i < 9) (ha : a < 18446744073709551616) (hsh : (c &&& 127) * 2 ^ (7 * i) < 18446744073709551616) (hcc : (c &&& 127) < 128) :
    ∃ tm', isFull 6 tm' = true ∧ tm'.find 0 = some (.string ⟨⟨s⟩⟩) ∧ tm'.find 2 = some (.int .u64 (.ofNat (a ||| (c &&& 127) * 2 ^ (7 * i)))) ∧ tm'.find 8 = some (.int .i64 (.ofNat s.length)) ∧ tm'.find 9 = some (.int .i64 (.ofNat (i + 1))) ∧
      ∀ m R J K, S.W R J (m + 20) (loopB B1 189 0) ⟨tm, h, 41, 189, none, []⟩ K = S.W R J (m + 19) (loopB B1 189 0) ⟨tm', h, 41, 189, none, []⟩ K := by
  obtain ⟨g, rfl⟩ := full_look hf [(0, .string ⟨⟨s⟩⟩), (2, .int .u64 (.ofNat a)), (8, .int .i64 (.ofNat s.length)), (9, .int .i64 (.ofNat i))] (by simp [h0, h2, h8, h9])
  refine ⟨?tm_2, ?_, ?_, ?_, ?_, ?_, ?walk_2⟩
  case walk_2 =>
    intro m R J K
    refine (S_loop hS).trans ?_
    conv => lhs; whnf
    repeat ((first
      | refine (V_all hS).trans ?_ | refine (fV_bool _ _).trans ?_ | refine (fN_eq _ _).trans ?_ | refine (S_cons hS).trans ?_ | refine (S_nil hS).trans ?_ | refine (nxB1 hS).trans ?_ | refine (nxB0 hS).trans ?_ | refine (newBlk_eq _ _ _).trans ?_ | refine (nxNc).trans ?_ | refine (nxLe).trans ?_ | refine (nxPn hS).trans ?_ | refine (nxLs).trans ?_ | refine (nxLt).trans ?_ | refine (S_draw0 hS (by rfl) (by kernel_rfl) (by rfl)).trans ?_ | refine (S_draw2 hS (by kernel_rfl) (by rfl)).trans ?_ | refine (nxZ).trans ?_ | refine (nxT hS).trans ?_ | refine (nxF hS).trans ?_ | refine (nxAdd hS).trans ?_ | refine (nxSub hS).trans ?_ | refine (nxMul hS).trans ?_ | refine (nxShr hS).trans ?_ | refine (nxShl hS).trans ?_ | refine (nxRem hS).trans ?_ | refine (nxQuo hS).trans ?_ | refine (nxOr hS).trans ?_ | refine (nxAnd hS).trans ?_ | refine (nxCv hS).trans ?_ | refine (nxC8 hS).trans ?_
      | refine (reads_nil).trans ?_ | refine (reads_off).trans ?_ | refine (reads_pure).trans ?_ | refine (reads_loud).trans ?_ | refine (reads_alloc).trans ?_ | refine (reads_0 (by rfl)).trans ?_ | refine (reads_1 (by rfl)).trans ?_ | refine (stages_nil).trans ?_ | refine (stages_yes (by rfl) (by rfl)).trans ?_ | refine (stages_no (by rfl)).trans ?_ | refine (nxLa).trans ?_ | refine (again_s hS).trans ?_ | refine (nxEq).trans ?_ | refine (fL_eq _ _).trans ?_ | refine (nxAt).trans ?_ | refine (hx _ _).trans ?_); (conv => lhs; whnf))
  all_goals rfl
theorem shape_form9 (hS : S.Real B1) (hf : isFull 6 tm = true) (h0 : tm.find 0 = some (.string ⟨⟨s⟩⟩)) (h2 : tm.find 2 = some (.int .u64 (.ofNat a))) (h8 : tm.find 8 = some (.int .i64 (.ofNat s.length))) (h9 : tm.find 9 = some (.int .i64 (.ofNat 9)))
    (hi : 9 < s.length) (hx : ByteAt s 9 c) (hc : c < 256) (h1 : c ≠ 1) :
    ∃ tm', isFull 6 tm' = true ∧ tm'.find 2 = some (.int .u64 (.ofNat 0)) ∧ tm'.find 3 = some (.int .i64 (.ofNat 0)) ∧ tm'.find 4 = some (.int .i64 (.ofNat 21)) ∧
      ∀ m R J K, S.W R J (m + 20) (loopB B1 189 0) ⟨tm, h, 41, 189, none, []⟩ K = K .ret ⟨tm', h, 41, 189, none, []⟩ := by
  obtain ⟨g, rfl⟩ := full_look hf [(0, .string ⟨⟨s⟩⟩), (2, .int .u64 (.ofNat a)), (8, .int .i64 (.ofNat s.length)), (9, .int .i64 (.ofNat 9))] (by simp [h0, h2, h8, h9])
  refine ⟨?tm_3, ?_, ?_, ?_, ?_, ?walk_3⟩
  case walk_3 =>
    intro m R J K
    refine (S_loop hS).trans ?_
    conv => lhs; whnf
    repeat ((first
      | refine (V_all hS).trans ?_ | refine (fV_bool _ _).trans ?_ | refine (fN_eq _ _).trans ?_ | refine (S_cons hS).trans ?_ | refine (S_nil hS).trans ?_ | refine (nxB1 hS).trans ?_ | refine (nxB0 hS).trans ?_ | refine (newBlk_eq _ _ _).trans ?_ | refine (nxNc).trans ?_ | refine (nxLe).trans ?_ | refine (nxPn hS).trans ?_ | refine (nxLs).trans ?_ | refine (nxLt).trans ?_ | refine (S_draw0 hS (by rfl) (by kernel_rfl) (by rfl)).trans ?_ | refine (S_draw2 hS (by kernel_rfl) (by rfl)).trans ?_ | refine (nxZ).trans ?_ | refine (nxT hS).trans ?_ | refine (nxF hS).trans ?_ | refine (nxAdd hS).trans ?_ | refine (nxSub hS).trans ?_ | refine (nxMul hS).trans ?_ | refine (nxShr hS).trans ?_ | refine (nxShl hS).trans ?_ | refine (nxRem hS).trans ?_ | refine (nxQuo hS).trans ?_ | refine (nxOr hS).trans ?_ | refine (nxAnd hS).trans ?_ | refine (nxCv hS).trans ?_ | refine (nxC8 hS).trans ?_
      | refine (reads_nil).trans ?_ | refine (reads_off).trans ?_ | refine (reads_pure).trans ?_ | refine (reads_loud).trans ?_ | refine (reads_alloc).trans ?_ | refine (reads_0 (by rfl)).trans ?_ | refine (reads_1 (by rfl)).trans ?_ | refine (stages_nil).trans ?_ | refine (stages_yes (by rfl) (by rfl)).trans ?_ | refine (stages_no (by rfl)).trans ?_ | refine (nxLa).trans ?_ | refine (again_s hS).trans ?_ | refine (nxEq).trans ?_ | refine (fL_eq _ _).trans ?_ | refine (nxAt).trans ?_ | refine (hx _ _).trans ?_); (conv => lhs; whnf))
  all_goals rfl
theorem shape_form0 (hS : S.Real B1) (hf : isFull 6 tm = true) (h0 : tm.find 0 = some (.string ⟨⟨s⟩⟩)) (h2 : tm.find 2 = some (.int .u64 (.ofNat a))) (h8 : tm.find 8 = some (.int .i64 (.ofNat s.length))) (h9 : tm.find 9 = some (.int .i64 (.ofNat i)))
    (hi : i < s.length) (hx : ByteAt s i 0) (hi9 : i < 9) (hi0 : 0 < i) (ha : a < 18446744073709551616) (hsh : (0 &&& 127) * 2 ^ (7 * i) < 18446744073709551616) :
    ∃ tm', isFull 6 tm' = true ∧ tm'.find 2 = some (.int .u64 (.ofNat 0)) ∧ tm'.find 3 = some (.int .i64 (.ofNat 0)) ∧ tm'.find 4 = some (.int .i64 (.ofNat 21)) ∧
      ∀ m R J K, S.W R J (m + 20) (loopB B1 189 0) ⟨tm, h, 41, 189, none, []⟩ K = K .ret ⟨tm', h, 41, 189, none, []⟩ := by
  obtain ⟨g, rfl⟩ := full_look hf [(0, .string ⟨⟨s⟩⟩), (2, .int .u64 (.ofNat a)), (8, .int .i64 (.ofNat s.length)), (9, .int .i64 (.ofNat i))] (by simp [h0, h2, h8, h9])
  refine ⟨?tm_4, ?_, ?_, ?_, ?_, ?walk_4⟩
  case walk_4 =>
    intro m R J K
    refine (S_loop hS).trans ?_
    conv => lhs; whnf
    repeat ((first
      | refine (V_all hS).trans ?_ | refine (fV_bool _ _).trans ?_ | refine (fN_eq _ _).trans ?_ | refine (S_cons hS).trans ?_ | refine (S_nil hS).trans ?_ | refine (nxB1 hS).trans ?_ | refine (nxB0 hS).trans ?_ | refine (newBlk_eq _ _ _).trans ?_ | refine (nxNc).trans ?_ | refine (nxLe).trans ?_ | refine (nxPn hS).trans ?_ | refine (nxLs).trans ?_ | refine (nxLt).trans ?_ | refine (S_draw0 hS (by rfl) (by kernel_rfl) (by rfl)).trans ?_ | refine (S_draw2 hS (by kernel_rfl) (by rfl)).trans ?_ | refine (nxZ).trans ?_ | refine (nxT hS).trans ?_ | refine (nxF hS).trans ?_ | refine (nxAdd hS).trans ?_ | refine (nxSub hS).trans ?_ | refine (nxMul hS).trans ?_ | refine (nxShr hS).trans ?_ | refine (nxShl hS).trans ?_ | refine (nxRem hS).trans ?_ | refine (nxQuo hS).trans ?_ | refine (nxOr hS).trans ?_ | refine (nxAnd hS).trans ?_ | refine (nxCv hS).trans ?_ | refine (nxC8 hS).trans ?_
      | refine (reads_nil).trans ?_ | refine (reads_off).trans ?_ | refine (reads_pure).trans ?_ | refine (reads_loud).trans ?_ | refine (reads_alloc).trans ?_ | refine (reads_0 (by rfl)).trans ?_ | refine (reads_1 (by rfl)).trans ?_ | refine (stages_nil).trans ?_ | refine (stages_yes (by rfl) (by rfl)).trans ?_ | refine (stages_no (by rfl)).trans ?_ | refine (nxLa).trans ?_ | refine (again_s hS).trans ?_ | refine (nxEq).trans ?_ | refine (fL_eq _ _).trans ?_ | refine (nxAt).trans ?_ | refine (hx _ _).trans ?_); (conv => lhs; whnf))
  all_goals rfl
theorem shape_ok (hS : S.Real B1) (hf : isFull 6 tm = true) (h0 : tm.find 0 = some (.string ⟨⟨s⟩⟩)) (h2 : tm.find 2 = some (.int .u64 (.ofNat a))) (h8 : tm.find 8 = some (.int .i64 (.ofNat s.length))) (h9 : tm.find 9 = some (.int .i64 (.ofNat i)))
    (hi : i < s.length) (hx : ByteAt s i c) (h128 : c < 128) (hi9 : i ≤ 9) (h91 : i = 9 → c = 1) (h00 : c = 0 → i = 0) (ha : a < 18446744073709551616) (hsh : (c &&& 127) * 2 ^ (7 * i) < 18446744073709551616) (hcc : (c &&& 127) < 128) :
    ∃ tm', isFull 6 tm' = true ∧ tm'.find 2 = some (.int .u64 (.ofNat (a ||| (c &&& 127) * 2 ^ (7 * i)))) ∧ tm'.find 3 = some (.int .i64 (.ofNat (i + 1))) ∧ tm'.find 4 = some (.int .i64 (.ofNat 0)) ∧
      ∀ m R J K, S.W R J (m + 20) (loopB B1 189 0) ⟨tm, h, 41, 189, none, []⟩ K = K .ret ⟨tm', h, 41, 189, none, []⟩ := by
  obtain ⟨g, rfl⟩ := full_look hf [(0, .string ⟨⟨s⟩⟩), (2, .int .u64 (.ofNat a)), (8, .int .i64 (.ofNat s.length)), (9, .int .i64 (.ofNat i))] (by simp [h0, h2, h8, h9])
  by_cases e9 : i = 9
  · have ec := h91 e9
    subst e9
    subst ec
    refine ⟨?tm_5, ?_, ?_, ?_, ?_, ?walk_5⟩
    case walk_5 =>
      intro m R J K
      refine (S_loop hS).trans ?_
      conv => lhs; whnf
      repeat ((first
        | refine (V_all hS).trans ?_ | refine (fV_bool _ _).trans ?_ | refine (fN_eq _ _).trans ?_ | refine (S_cons hS).trans ?_ | refine (S_nil hS).trans ?_ | refine (nxB1 hS).trans ?_ | refine (nxB0 hS).trans ?_ | refine (newBlk_eq _ _ _).trans ?_ | refine (nxNc).trans ?_ | refine (nxLe).trans ?_ | refine (nxPn hS).trans ?_ | refine (nxLs).trans ?_ | refine (nxLt).trans ?_ | refine (S_draw0 hS (by rfl) (by kernel_rfl) (by rfl)).trans ?_ | refine (S_draw2 hS (by kernel_rfl) (by rfl)).trans ?_ | refine (nxZ).trans ?_ | refine (nxT hS).trans ?_ | refine (nxF hS).trans ?_ | refine (nxAdd hS).trans ?_ | refine (nxSub hS).trans ?_ | refine (nxMul hS).trans ?_ | refine (nxShr hS).trans ?_ | refine (nxShl hS).trans ?_ | refine (nxRem hS).trans ?_ | refine (nxQuo hS).trans ?_ | refine (nxOr hS).trans ?_ | refine (nxAnd hS).trans ?_ | refine (nxCv hS).trans ?_ | refine (nxC8 hS).trans ?_
        | refine (reads_nil).trans ?_ | refine (reads_off).trans ?_ | refine (reads_pure).trans ?_ | refine (reads_loud).trans ?_ | refine (reads_alloc).trans ?_ | refine (reads_0 (by rfl)).trans ?_ | refine (reads_1 (by rfl)).trans ?_ | refine (stages_nil).trans ?_ | refine (stages_yes (by rfl) (by rfl)).trans ?_ | refine (stages_no (by rfl)).trans ?_ | refine (nxLa).trans ?_ | refine (again_s hS).trans ?_ | refine (nxEq).trans ?_ | refine (fL_eq _ _).trans ?_ | refine (nxAt).trans ?_ | refine (hx _ _).trans ?_); (conv => lhs; whnf))
    all_goals rfl
  · by_cases e0 : c = 0
    · have ei := h00 e0
      subst e0
      subst ei
      refine ⟨?tm_6, ?_, ?_, ?_, ?_, ?walk_6⟩
      case walk_6 =>
        intro m R J K
        refine (S_loop hS).trans ?_
        conv => lhs; whnf
        repeat ((first
          | refine (V_all hS).trans ?_ | refine (fV_bool _ _).trans ?_ | refine (fN_eq _ _).trans ?_ | refine (S_cons hS).trans ?_ | refine (S_nil hS).trans ?_ | refine (nxB1 hS).trans ?_ | refine (nxB0 hS).trans ?_ | refine (newBlk_eq _ _ _).trans ?_ | refine (nxNc).trans ?_ | refine (nxLe).trans ?_ | refine (nxPn hS).trans ?_ | refine (nxLs).trans ?_ | refine (nxLt).trans ?_ | refine (S_draw0 hS (by rfl) (by kernel_rfl) (by rfl)).trans ?_ | refine (S_draw2 hS (by kernel_rfl) (by rfl)).trans ?_ | refine (nxZ).trans ?_ | refine (nxT hS).trans ?_ | refine (nxF hS).trans ?_ | refine (nxAdd hS).trans ?_ | refine (nxSub hS).trans ?_ | refine (nxMul hS).trans ?_ | refine (nxShr hS).trans ?_ | refine (nxShl hS).trans ?_ | refine (nxRem hS).trans ?_ | refine (nxQuo hS).trans ?_ | refine (nxOr hS).trans ?_ | refine (nxAnd hS).trans ?_ | refine (nxCv hS).trans ?_ | refine (nxC8 hS).trans ?_
          | refine (reads_nil).trans ?_ | refine (reads_off).trans ?_ | refine (reads_pure).trans ?_ | refine (reads_loud).trans ?_ | refine (reads_alloc).trans ?_ | refine (reads_0 (by rfl)).trans ?_ | refine (reads_1 (by rfl)).trans ?_ | refine (stages_nil).trans ?_ | refine (stages_yes (by rfl) (by rfl)).trans ?_ | refine (stages_no (by rfl)).trans ?_ | refine (nxLa).trans ?_ | refine (again_s hS).trans ?_ | refine (nxEq).trans ?_ | refine (fL_eq _ _).trans ?_ | refine (nxAt).trans ?_ | refine (hx _ _).trans ?_); (conv => lhs; whnf))
      all_goals rfl
    · refine ⟨?tm_7, ?_, ?_, ?_, ?_, ?walk_7⟩
      case walk_7 =>
        intro m R J K
        refine (S_loop hS).trans ?_
        conv => lhs; whnf
        repeat ((first
          | refine (V_all hS).trans ?_ | refine (fV_bool _ _).trans ?_ | refine (fN_eq _ _).trans ?_ | refine (S_cons hS).trans ?_ | refine (S_nil hS).trans ?_ | refine (nxB1 hS).trans ?_ | refine (nxB0 hS).trans ?_ | refine (newBlk_eq _ _ _).trans ?_ | refine (nxNc).trans ?_ | refine (nxLe).trans ?_ | refine (nxPn hS).trans ?_ | refine (nxLs).trans ?_ | refine (nxLt).trans ?_ | refine (S_draw0 hS (by rfl) (by kernel_rfl) (by rfl)).trans ?_ | refine (S_draw2 hS (by kernel_rfl) (by rfl)).trans ?_ | refine (nxZ).trans ?_ | refine (nxT hS).trans ?_ | refine (nxF hS).trans ?_ | refine (nxAdd hS).trans ?_ | refine (nxSub hS).trans ?_ | refine (nxMul hS).trans ?_ | refine (nxShr hS).trans ?_ | refine (nxShl hS).trans ?_ | refine (nxRem hS).trans ?_ | refine (nxQuo hS).trans ?_ | refine (nxOr hS).trans ?_ | refine (nxAnd hS).trans ?_ | refine (nxCv hS).trans ?_ | refine (nxC8 hS).trans ?_
          | refine (reads_nil).trans ?_ | refine (reads_off).trans ?_ | refine (reads_pure).trans ?_ | refine (reads_loud).trans ?_ | refine (reads_alloc).trans ?_ | refine (reads_0 (by rfl)).trans ?_ | refine (reads_1 (by rfl)).trans ?_ | refine (stages_nil).trans ?_ | refine (stages_yes (by rfl) (by rfl)).trans ?_ | refine (stages_no (by rfl)).trans ?_ | refine (nxLa).trans ?_ | refine (again_s hS).trans ?_ | refine (nxEq).trans ?_ | refine (fL_eq _ _).trans ?_ | refine (nxAt).trans ?_ | refine (hx _ _).trans ?_); (conv => lhs; whnf))
      all_goals rfl
end
theorem take_snoc {s r : List UInt8} {i : Nat} {c : UInt8} (h : s.drop i = c :: r) : s[i]? = some c ∧ s.take (i + 1) = s.take i ++ [c] ∧ s.drop (i + 1) = r ∧ i < s.length := by
  obtain ⟨h1, h2⟩ := drop_cons h
  have hi : i < s.length := (List.getElem?_eq_some_iff.1 h1).1
  refine ⟨h1, ?_, h2, hi⟩
  rw [List.take_add_one, h1]
  rfl
theorem hor_take_lt {s : List UInt8} {i : Nat} (hi : i ≤ 9) : hor (s.take i) < 9223372036854775808 ∧ hor (s.take i) < 128 ^ (s.take i).length := by
  have h := hor_lt (s.take i)
  refine ⟨Nat.lt_of_lt_of_le h ?_, h⟩
  have : (s.take i).length ≤ 9 := by rw [List.length_take]; omega
  exact Nat.le_trans (Nat.pow_le_pow_right (by decide) this) (by decide)
theorem shift_lt {c i : Nat} (h : i < 9 ∨ i = 9 ∧ c = 1) : (c &&& 127) * 2 ^ (7 * i) < 18446744073709551616 := by
  rcases h with h | ⟨rfl, rfl⟩
  · rw [and127]
    have h1 : c % 128 ≤ 127 := by omega
    have h2 : 2 ^ (7 * i) ≤ 2 ^ 56 := Nat.pow_le_pow_right (by decide) (by omega)
    exact Nat.lt_of_le_of_lt (Nat.mul_le_mul h1 h2) (by decide)
  · decide
theorem shape_loop {S : Stops} (hS : S.Real B1) {s : List UInt8} {h : Hp} (hlen : s.length < 9223372036854775808) : ∀ (rest : List UInt8) {i : Nat} {tm : T Value}, s.drop i = rest → i ≤ 9 → i ≤ s.length → isFull 6 tm = true → tm.find 0 = some (.string ⟨⟨s⟩⟩) →
    tm.find 2 = some (.int .u64 (.ofNat (hor (s.take i)))) → tm.find 8 = some (.int .i64 (.ofNat s.length)) → tm.find 9 = some (.int .i64 (.ofNat i)) →
    ∃ ex tm', isFull 6 tm' = true ∧
      (∀ q, rlen i rest = some q → ex = .ret ∧ tm'.find 2 = some (.int .u64 (.ofNat (hor (s.take q)))) ∧ tm'.find 3 = some (.int .i64 (.ofNat q)) ∧ tm'.find 4 = some (.int .i64 (.ofNat 0))) ∧
      (rlen i rest = none → ex = .exit 0 ∨ ex = .ret ∧ tm'.find 2 = some (.int .u64 (.ofNat 0)) ∧ tm'.find 3 = some (.int .i64 (.ofNat 0)) ∧ tm'.find 4 = some (.int .i64 (.ofNat 21))) ∧
      ∀ n, rest.length + 20 ≤ n → ∀ R J K, S.W R J n (loopB B1 189 0) ⟨tm, h, 41, 189, none, []⟩ K = K ex ⟨tm', h, 41, 189, none, []⟩
  | [], i, tm, hd, hi9, hil, hf, h0, h2, h8, h9 => by
    have hi : s.length = i := by
      have := congrArg List.length hd
      simp at this
      omega
    rw [hi] at h8
    obtain ⟨tm', a1, a2⟩ := shape_end (h := h) hS hf h8 h9
    refine ⟨.exit 0, tm', a1, fun q hq => (by cases hq), fun _ => .inl rfl, fun n hn R J K => ?_⟩
    obtain ⟨m, rfl⟩ : ∃ m, n = m + 20 := ⟨n - 20, by simp at hn; omega⟩
    exact a2 m R J K
  | b :: r, i, tm, hd, hi9, hil, hf, h0, h2, h8, h9 => by
    obtain ⟨hb, ht, hr, hi⟩ := take_snoc hd
    have hx := byteAt hb
    have hc : b.toNat < 256 := b.toNat_lt
    obtain ⟨ha, ha'⟩ := hor_take_lt (s := s) hi9
    have hli : (s.take i).length = i := by rw [List.length_take]; omega
    rw [hli] at ha'
    have hcc : (b.toNat &&& 127) < 128 := by rw [and127]; omega
    have hnext : hor (s.take (i + 1)) = hor (s.take i) ||| (b.toNat &&& 127) * 2 ^ (7 * i) := by rw [ht, hor_snoc, hli, hor_or ha']
    by_cases e1 : i = 9 ∧ b.toNat ≠ 1
    · obtain ⟨rfl, e1'⟩ := e1
      obtain ⟨tm', b1, b2, b3, b4, b5⟩ := shape_form9 (h := h) hS hf h0 h2 h8 h9 hi hx hc e1'
      have hq : rlen 9 (b :: r) = none := by unfold rlen; rw [if_pos ⟨rfl, e1'⟩]
      refine ⟨.ret, tm', b1, fun q e => (by rw [hq] at e; cases e), fun _ => .inr ⟨rfl, b2, b3, b4⟩, fun n hn R J K => ?_⟩
      obtain ⟨m, rfl⟩ : ∃ m, n = m + 20 := ⟨n - 20, by omega⟩
      exact b5 m R J K
    · by_cases e2 : b.toNat < 128
      · by_cases e3 : b.toNat = 0 ∧ 0 < i
        · have hq : rlen i (b :: r) = none := by unfold rlen; rw [if_neg e1, if_pos e2, if_pos e3]
          rw [e3.1] at hx
          have hi9' : i < 9 := by
            rcases Nat.lt_or_ge i 9 with h | h
            · exact h
            · exact absurd ⟨by omega, by omega⟩ e1
          obtain ⟨tm', b1, b2, b3, b4, b5⟩ := shape_form0 (h := h) hS hf h0 h2 h8 h9 hi hx hi9' e3.2 (by omega) (shift_lt (.inl hi9'))
          refine ⟨.ret, tm', b1, fun q e => (by rw [hq] at e; cases e), fun _ => .inr ⟨rfl, b2, b3, b4⟩, fun n hn R J K => ?_⟩
          obtain ⟨m, rfl⟩ : ∃ m, n = m + 20 := ⟨n - 20, by omega⟩
          exact b5 m R J K
        · have hq : rlen i (b :: r) = some (i + 1) := by unfold rlen; rw [if_neg e1, if_pos e2, if_neg e3]
          obtain ⟨tm', b1, b2, b3, b4, b5⟩ := shape_ok (h := h) hS hf h0 h2 h8 h9 hi hx e2 hi9 (fun e => by
            rcases Nat.decEq b.toNat 1 with h | h
            · exact absurd ⟨e, h⟩ e1
            · exact h) (fun e => by
            rcases Nat.eq_zero_or_pos i with h | h
            · exact h
            · exact absurd ⟨e, h⟩ e3) (by omega) (shift_lt (by
              rcases Nat.lt_or_ge i 9 with h | h
              · exact .inl h
              · refine .inr ⟨by omega, ?_⟩
                rcases Nat.decEq b.toNat 1 with h' | h'
                · exact absurd ⟨by omega, h'⟩ e1
                · exact h')) hcc
          rw [← hnext] at b2
          refine ⟨.ret, tm', b1, fun q e => ?_, fun e => (by rw [hq] at e; cases e), fun n hn R J K => ?_⟩
          · rw [hq] at e
            cases e
            exact ⟨rfl, b2, b3, b4⟩
          · obtain ⟨m, rfl⟩ : ∃ m, n = m + 20 := ⟨n - 20, by omega⟩
            exact b5 m R J K
      · have hi9' : i < 9 := by
          rcases Nat.lt_or_ge i 9 with h | h
          · exact h
          · exact absurd ⟨by omega, by omega⟩ e1
        obtain ⟨tm2, b1, b2, b3, b4, b5, b6⟩ := shape_more (h := h) hS hf h0 h2 h8 h9 hi hx hc (by omega) hi9' (by omega) (shift_lt (.inl hi9')) hcc
        rw [← hnext] at b3
        have hq : rlen i (b :: r) = rlen (i + 1) r := by
          conv => lhs; unfold rlen
          rw [if_neg e1, if_neg e2]
        obtain ⟨ex, tm', a1, a2, a3, a4⟩ := shape_loop hS hlen r (h := h) hr (by omega) (by omega) b1 b2 b3 b4 b5
        refine ⟨ex, tm', a1, fun q e => a2 q (hq ▸ e), fun e => a3 (hq ▸ e), fun n hn R J K => ?_⟩
        obtain ⟨m, rfl⟩ : ∃ m, n = m + 20 := ⟨n - 20, by simp at hn; omega⟩
        rw [b6]
        exact a4 (m + 19) (by simp at hn; omega) R J K
theorem shape_does {s : List UInt8} (hlen : s.length < 1073741824) (h : Hp) :
    (∀ q, rlen 0 s = some q → Runs B1 189 [.string ⟨⟨s⟩⟩] h (.tuple ⟨[.int .u64 (.ofNat (hor (s.take q))), .int .i64 (.ofNat q), .int .i64 (.ofNat 0)]⟩) h) ∧
    (rlen 0 s = none → ∃ e, 0 < e ∧ e < 100 ∧ Runs B1 189 [.string ⟨⟨s⟩⟩] h (.tuple ⟨[.int .u64 (.ofNat 0), .int .i64 (.ofNat 0), .int .i64 (.ofNat e)]⟩) h) := by
  let tm0 : T Value := ((((((fullT 6).put 0 (some (.string ⟨⟨s⟩⟩))).put 2 (some (.int .u64 (.ofNat 0)))).put 3 (some (.int .i64 (.ofNat 0)))).put 4 (some (.int .i64 (.ofNat 0)))).put 7 (some (.string ⟨⟨s⟩⟩))).put 8 (some (.int .i64 (.ofNat s.length))) |>.put 9 (some (.int .i64 (.ofNat 0)))
  obtain ⟨ex, tm', a1, a2, a3, a4⟩ := shape_loop (stops_real B1) (h := h) (by omega) s (i := 0) (tm := tm0) rfl (by decide) (by omega) rfl rfl rfl rfl rfl
  constructor
  · intro q hq
    obtain ⟨rfl, b2, b3, b4⟩ := a2 q hq
    obtain ⟨g, rfl⟩ := full_look a1 [(2, .int .u64 (.ofNat (hor (s.take q)))), (3, .int .i64 (.ofNat q)), (4, .int .i64 (.ofNat 0))] (by simp [b2, b3, b4])
    refine runs_of B1 s.length fun S hS m hm R J c => ?_
    unfold enterS
    conv => lhs; whnf
    repeat ((first
      | refine (V_all hS).trans ?_ | refine (fV_bool _ _).trans ?_ | refine (fN_eq _ _).trans ?_ | refine (S_cons hS).trans ?_ | refine (S_nil hS).trans ?_ | refine (nxB1 hS).trans ?_ | refine (nxB0 hS).trans ?_ | refine (newBlk_eq _ _ _).trans ?_ | refine (nxNc).trans ?_ | refine (nxLe).trans ?_ | refine (nxPn hS).trans ?_ | refine (nxLs).trans ?_ | refine (nxLt).trans ?_ | refine (S_draw0 hS (by rfl) (by kernel_rfl) (by rfl)).trans ?_ | refine (S_draw2 hS (by kernel_rfl) (by rfl)).trans ?_ | refine (nxZ).trans ?_ | refine (nxT hS).trans ?_ | refine (nxF hS).trans ?_ | refine (nxAdd hS).trans ?_ | refine (nxSub hS).trans ?_ | refine (nxMul hS).trans ?_ | refine (nxShr hS).trans ?_ | refine (nxShl hS).trans ?_ | refine (nxRem hS).trans ?_ | refine (nxQuo hS).trans ?_ | refine (nxOr hS).trans ?_ | refine (nxAnd hS).trans ?_ | refine (nxCv hS).trans ?_ | refine (nxC8 hS).trans ?_
      | refine (reads_nil).trans ?_ | refine (reads_off).trans ?_ | refine (reads_pure).trans ?_ | refine (reads_loud).trans ?_ | refine (reads_alloc).trans ?_ | refine (reads_0 (by rfl)).trans ?_ | refine (reads_1 (by rfl)).trans ?_ | refine (stages_nil).trans ?_ | refine (stages_yes (by rfl) (by rfl)).trans ?_ | refine (stages_no (by rfl)).trans ?_ | refine (nxLa).trans ?_ | refine (again_s hS).trans ?_ | refine (nxEq).trans ?_ | refine (fL_eq _ _).trans ?_ | refine (nxAt).trans ?_); (conv => lhs; whnf))
    refine (S_run hS (x := ?_) ?_).trans ?_
    rotate_left
    · refine a4 _ ?_ R J _
      omega
    conv => lhs; whnf
    repeat ((first
      | refine (V_all hS).trans ?_ | refine (fV_bool _ _).trans ?_ | refine (fN_eq _ _).trans ?_ | refine (S_cons hS).trans ?_ | refine (S_nil hS).trans ?_ | refine (nxB1 hS).trans ?_ | refine (nxB0 hS).trans ?_ | refine (newBlk_eq _ _ _).trans ?_ | refine (nxNc).trans ?_ | refine (nxLe).trans ?_ | refine (nxPn hS).trans ?_ | refine (nxLs).trans ?_ | refine (nxLt).trans ?_ | refine (S_draw0 hS (by rfl) (by kernel_rfl) (by rfl)).trans ?_ | refine (S_draw2 hS (by kernel_rfl) (by rfl)).trans ?_ | refine (nxZ).trans ?_ | refine (nxT hS).trans ?_ | refine (nxF hS).trans ?_ | refine (nxAdd hS).trans ?_ | refine (nxSub hS).trans ?_ | refine (nxMul hS).trans ?_ | refine (nxShr hS).trans ?_ | refine (nxShl hS).trans ?_ | refine (nxRem hS).trans ?_ | refine (nxQuo hS).trans ?_ | refine (nxOr hS).trans ?_ | refine (nxAnd hS).trans ?_ | refine (nxCv hS).trans ?_ | refine (nxC8 hS).trans ?_
      | refine (reads_nil).trans ?_ | refine (reads_off).trans ?_ | refine (reads_pure).trans ?_ | refine (reads_loud).trans ?_ | refine (reads_alloc).trans ?_ | refine (reads_0 (by rfl)).trans ?_ | refine (reads_1 (by rfl)).trans ?_ | refine (stages_nil).trans ?_ | refine (stages_yes (by rfl) (by rfl)).trans ?_ | refine (stages_no (by rfl)).trans ?_ | refine (nxLa).trans ?_ | refine (again_s hS).trans ?_ | refine (nxEq).trans ?_ | refine (fL_eq _ _).trans ?_ | refine (nxAt).trans ?_); (conv => lhs; whnf))
    rfl
  · intro hq
    rcases a3 hq with rfl | ⟨rfl, b2, b3, b4⟩
    · obtain ⟨g, rfl⟩ := full_look a1 [] (by simp)
      refine ⟨20, by decide, by decide, runs_of B1 s.length fun S hS m hm R J c => ?_⟩
      unfold enterS
      conv => lhs; whnf
      repeat ((first
        | refine (V_all hS).trans ?_ | refine (fV_bool _ _).trans ?_ | refine (fN_eq _ _).trans ?_ | refine (S_cons hS).trans ?_ | refine (S_nil hS).trans ?_ | refine (nxB1 hS).trans ?_ | refine (nxB0 hS).trans ?_ | refine (newBlk_eq _ _ _).trans ?_ | refine (nxNc).trans ?_ | refine (nxLe).trans ?_ | refine (nxPn hS).trans ?_ | refine (nxLs).trans ?_ | refine (nxLt).trans ?_ | refine (S_draw0 hS (by rfl) (by kernel_rfl) (by rfl)).trans ?_ | refine (S_draw2 hS (by kernel_rfl) (by rfl)).trans ?_ | refine (nxZ).trans ?_ | refine (nxT hS).trans ?_ | refine (nxF hS).trans ?_ | refine (nxAdd hS).trans ?_ | refine (nxSub hS).trans ?_ | refine (nxMul hS).trans ?_ | refine (nxShr hS).trans ?_ | refine (nxShl hS).trans ?_ | refine (nxRem hS).trans ?_ | refine (nxQuo hS).trans ?_ | refine (nxOr hS).trans ?_ | refine (nxAnd hS).trans ?_ | refine (nxCv hS).trans ?_ | refine (nxC8 hS).trans ?_
        | refine (reads_nil).trans ?_ | refine (reads_off).trans ?_ | refine (reads_pure).trans ?_ | refine (reads_loud).trans ?_ | refine (reads_alloc).trans ?_ | refine (reads_0 (by rfl)).trans ?_ | refine (reads_1 (by rfl)).trans ?_ | refine (stages_nil).trans ?_ | refine (stages_yes (by rfl) (by rfl)).trans ?_ | refine (stages_no (by rfl)).trans ?_ | refine (nxLa).trans ?_ | refine (again_s hS).trans ?_ | refine (nxEq).trans ?_ | refine (fL_eq _ _).trans ?_ | refine (nxAt).trans ?_); (conv => lhs; whnf))
      refine (S_run hS (x := ?_) ?_).trans ?_
      rotate_left
      · refine a4 _ ?_ R J _
        omega
      conv => lhs; whnf
      repeat ((first
        | refine (V_all hS).trans ?_ | refine (fV_bool _ _).trans ?_ | refine (fN_eq _ _).trans ?_ | refine (S_cons hS).trans ?_ | refine (S_nil hS).trans ?_ | refine (nxB1 hS).trans ?_ | refine (nxB0 hS).trans ?_ | refine (newBlk_eq _ _ _).trans ?_ | refine (nxNc).trans ?_ | refine (nxLe).trans ?_ | refine (nxPn hS).trans ?_ | refine (nxLs).trans ?_ | refine (nxLt).trans ?_ | refine (S_draw0 hS (by rfl) (by kernel_rfl) (by rfl)).trans ?_ | refine (S_draw2 hS (by kernel_rfl) (by rfl)).trans ?_ | refine (nxZ).trans ?_ | refine (nxT hS).trans ?_ | refine (nxF hS).trans ?_ | refine (nxAdd hS).trans ?_ | refine (nxSub hS).trans ?_ | refine (nxMul hS).trans ?_ | refine (nxShr hS).trans ?_ | refine (nxShl hS).trans ?_ | refine (nxRem hS).trans ?_ | refine (nxQuo hS).trans ?_ | refine (nxOr hS).trans ?_ | refine (nxAnd hS).trans ?_ | refine (nxCv hS).trans ?_ | refine (nxC8 hS).trans ?_
        | refine (reads_nil).trans ?_ | refine (reads_off).trans ?_ | refine (reads_pure).trans ?_ | refine (reads_loud).trans ?_ | refine (reads_alloc).trans ?_ | refine (reads_0 (by rfl)).trans ?_ | refine (reads_1 (by rfl)).trans ?_ | refine (stages_nil).trans ?_ | refine (stages_yes (by rfl) (by rfl)).trans ?_ | refine (stages_no (by rfl)).trans ?_ | refine (nxLa).trans ?_ | refine (again_s hS).trans ?_ | refine (nxEq).trans ?_ | refine (fL_eq _ _).trans ?_ | refine (nxAt).trans ?_); (conv => lhs; whnf))
      rfl
    · obtain ⟨g, rfl⟩ := full_look a1 [(2, .int .u64 (.ofNat 0)), (3, .int .i64 (.ofNat 0)), (4, .int .i64 (.ofNat 21))] (by simp [b2, b3, b4])
      refine ⟨21, by decide, by decide, runs_of B1 s.length fun S hS m hm R J c => ?_⟩
      unfold enterS
      conv => lhs; whnf
      repeat ((first
        | refine (V_all hS).trans ?_ | refine (fV_bool _ _).trans ?_ | refine (fN_eq _ _).trans ?_ | refine (S_cons hS).trans ?_ | refine (S_nil hS).trans ?_ | refine (nxB1 hS).trans ?_ | refine (nxB0 hS).trans ?_ | refine (newBlk_eq _ _ _).trans ?_ | refine (nxNc).trans ?_ | refine (nxLe).trans ?_ | refine (nxPn hS).trans ?_ | refine (nxLs).trans ?_ | refine (nxLt).trans ?_ | refine (S_draw0 hS (by rfl) (by kernel_rfl) (by rfl)).trans ?_ | refine (S_draw2 hS (by kernel_rfl) (by rfl)).trans ?_ | refine (nxZ).trans ?_ | refine (nxT hS).trans ?_ | refine (nxF hS).trans ?_ | refine (nxAdd hS).trans ?_ | refine (nxSub hS).trans ?_ | refine (nxMul hS).trans ?_ | refine (nxShr hS).trans ?_ | refine (nxShl hS).trans ?_ | refine (nxRem hS).trans ?_ | refine (nxQuo hS).trans ?_ | refine (nxOr hS).trans ?_ | refine (nxAnd hS).trans ?_ | refine (nxCv hS).trans ?_ | refine (nxC8 hS).trans ?_
        | refine (reads_nil).trans ?_ | refine (reads_off).trans ?_ | refine (reads_pure).trans ?_ | refine (reads_loud).trans ?_ | refine (reads_alloc).trans ?_ | refine (reads_0 (by rfl)).trans ?_ | refine (reads_1 (by rfl)).trans ?_ | refine (stages_nil).trans ?_ | refine (stages_yes (by rfl) (by rfl)).trans ?_ | refine (stages_no (by rfl)).trans ?_ | refine (nxLa).trans ?_ | refine (again_s hS).trans ?_ | refine (nxEq).trans ?_ | refine (fL_eq _ _).trans ?_ | refine (nxAt).trans ?_); (conv => lhs; whnf))
      refine (S_run hS (x := ?_) ?_).trans ?_
      rotate_left
      · refine a4 _ ?_ R J _
        omega
      conv => lhs; whnf
      repeat ((first
        | refine (V_all hS).trans ?_ | refine (fV_bool _ _).trans ?_ | refine (fN_eq _ _).trans ?_ | refine (S_cons hS).trans ?_ | refine (S_nil hS).trans ?_ | refine (nxB1 hS).trans ?_ | refine (nxB0 hS).trans ?_ | refine (newBlk_eq _ _ _).trans ?_ | refine (nxNc).trans ?_ | refine (nxLe).trans ?_ | refine (nxPn hS).trans ?_ | refine (nxLs).trans ?_ | refine (nxLt).trans ?_ | refine (S_draw0 hS (by rfl) (by kernel_rfl) (by rfl)).trans ?_ | refine (S_draw2 hS (by kernel_rfl) (by rfl)).trans ?_ | refine (nxZ).trans ?_ | refine (nxT hS).trans ?_ | refine (nxF hS).trans ?_ | refine (nxAdd hS).trans ?_ | refine (nxSub hS).trans ?_ | refine (nxMul hS).trans ?_ | refine (nxShr hS).trans ?_ | refine (nxShl hS).trans ?_ | refine (nxRem hS).trans ?_ | refine (nxQuo hS).trans ?_ | refine (nxOr hS).trans ?_ | refine (nxAnd hS).trans ?_ | refine (nxCv hS).trans ?_ | refine (nxC8 hS).trans ?_
        | refine (reads_nil).trans ?_ | refine (reads_off).trans ?_ | refine (reads_pure).trans ?_ | refine (reads_loud).trans ?_ | refine (reads_alloc).trans ?_ | refine (reads_0 (by rfl)).trans ?_ | refine (reads_1 (by rfl)).trans ?_ | refine (stages_nil).trans ?_ | refine (stages_yes (by rfl) (by rfl)).trans ?_ | refine (stages_no (by rfl)).trans ?_ | refine (nxLa).trans ?_ | refine (again_s hS).trans ?_ | refine (nxEq).trans ?_ | refine (fL_eq _ _).trans ?_ | refine (nxAt).trans ?_); (conv => lhs; whnf))
      rfl
end Go.Proofs.YtopkigockpiggaaGreat
