/-
  How the document reads a varint and a text, walked.
-/
import Derived.Test.YtopkigockpiggaaGreatEvSeatShape
set_option maxRecDepth 100000
set_option linter.unusedVariables false
set_option linter.unusedSimpArgs false
open Go Go.Ev
namespace Go.Proofs.YtopkigockpiggaaGreat
attribute [local irreducible] loadAt storeAt newBlk newCells writeAt appendK binK indexAddrK indexK sliceK lenK convK fN fV fL boolK maxK zeroOf enterK drawK rowsK leK okK readsK stagesK lastK againK eqvK
section
variable {S : Stops} {s : List UInt8} {i a c k : Nat} {tm : T Value} {h : Hp}
theorem rv_in (hS : S.Real B1) (hf : isFull 6 tm = true) (h0 : tm.find 0 = some (.string ⟨⟨s⟩⟩)) (h5 : tm.find 5 = some (.int .i64 (.ofNat i))) (h6 : tm.find 6 = some (.int .u64 (.ofNat a))) (h7 : tm.find 7 = some (.int .i64 (.ofNat (k + 1))))
    (hx : ByteAt s (k + 1) c) (hc : c < 256) (ha : a * 128 + c % 128 < 18446744073709551616) (hk : k < 100) :
    ∃ tm', isFull 6 tm' = true ∧ tm'.find 0 = some (.string ⟨⟨s⟩⟩) ∧ tm'.find 5 = some (.int .i64 (.ofNat i)) ∧ tm'.find 6 = some (.int .u64 (.ofNat (a * 128 + c % 128))) ∧ tm'.find 7 = some (.int .i64 (.ofNat k)) ∧
      ∀ m R J K, S.W R J (m + 20) (loopB B1 106 1) ⟨tm, h, 51, 106, none, []⟩ K = S.W R J (m + 19) (loopB B1 106 1) ⟨tm', h, 51, 106, none, []⟩ K := by
  obtain ⟨g, rfl⟩ := full_look hf [(0, .string ⟨⟨s⟩⟩), (5, .int .i64 (.ofNat i)), (6, .int .u64 (.ofNat a)), (7, .int .i64 (.ofNat (k + 1)))] (by simp [h0, h5, h6, h7])
  refine ⟨?tm_1, ?_, ?_, ?_, ?_, ?_, ?walk_1⟩
  case walk_1 =>
    intro m R J K
    refine (S_loop hS).trans ?_
    conv => lhs; whnf
    repeat ((first
      | refine (V_all hS).trans ?_ | refine (fV_bool _ _).trans ?_ | refine (fN_eq _ _).trans ?_ | refine (S_cons hS).trans ?_ | refine (S_nil hS).trans ?_ | refine (nxB1 hS).trans ?_ | refine (nxB0 hS).trans ?_ | refine (newBlk_eq _ _ _).trans ?_ | refine (nxNc).trans ?_ | refine (nxLe).trans ?_ | refine (nxPn hS).trans ?_ | refine (nxLs).trans ?_ | refine (nxLt).trans ?_ | refine (S_draw0 hS (by rfl) (by kernel_rfl) (by rfl)).trans ?_ | refine (S_draw2 hS (by kernel_rfl) (by rfl)).trans ?_ | refine (nxZ).trans ?_ | refine (nxT hS).trans ?_ | refine (nxF hS).trans ?_ | refine (nxAdd hS).trans ?_ | refine (nxSub hS).trans ?_ | refine (nxMul hS).trans ?_ | refine (nxShr hS).trans ?_ | refine (nxShl hS).trans ?_ | refine (nxRem hS).trans ?_ | refine (nxQuo hS).trans ?_ | refine (nxOr hS).trans ?_ | refine (nxAnd hS).trans ?_ | refine (nxCv hS).trans ?_ | refine (nxC8 hS).trans ?_
      | refine (reads_nil).trans ?_ | refine (reads_off).trans ?_ | refine (reads_pure).trans ?_ | refine (reads_loud).trans ?_ | refine (reads_alloc).trans ?_ | refine (reads_0 (by rfl)).trans ?_ | refine (reads_1 (by rfl)).trans ?_ | refine (stages_nil).trans ?_ | refine (stages_yes (by rfl) (by rfl)).trans ?_ | refine (stages_no (by rfl)).trans ?_ | refine (nxLa).trans ?_ | refine (again_s hS).trans ?_ | refine (nxEq).trans ?_ | refine (fL_eq _ _).trans ?_ | refine (nxAt).trans ?_ | refine (hx _ _).trans ?_); (conv => lhs; whnf))
  all_goals rfl
theorem rv_in0 (hS : S.Real B1) (hf : isFull 6 tm = true) (h0 : tm.find 0 = some (.string ⟨⟨s⟩⟩)) (h5 : tm.find 5 = some (.int .i64 (.ofNat i))) (h6 : tm.find 6 = some (.int .u64 (.ofNat a))) (h7 : tm.find 7 = some (.int .i64 (.ofNat 0)))
    (hx : ByteAt s 0 c) (hc : c < 256) (ha : a * 128 + c % 128 < 18446744073709551616) :
    ∃ tm', isFull 6 tm' = true ∧ tm'.find 5 = some (.int .i64 (.ofNat i)) ∧ tm'.find 6 = some (.int .u64 (.ofNat (a * 128 + c % 128))) ∧
      ∀ m R J K, S.W R J (m + 20) (loopB B1 106 1) ⟨tm, h, 51, 106, none, []⟩ K = K (.exit 2) ⟨tm', h, 51, 106, none, []⟩ := by
  obtain ⟨g, rfl⟩ := full_look hf [(0, .string ⟨⟨s⟩⟩), (5, .int .i64 (.ofNat i)), (6, .int .u64 (.ofNat a)), (7, .int .i64 (.ofNat 0))] (by simp [h0, h5, h6, h7])
  refine ⟨?tm_2, ?_, ?_, ?_, ?walk_2⟩
  case walk_2 =>
    intro m R J K
    refine (S_loop hS).trans ?_
    conv => lhs; whnf
    repeat ((first
      | refine (V_all hS).trans ?_ | refine (fV_bool _ _).trans ?_ | refine (fN_eq _ _).trans ?_ | refine (S_cons hS).trans ?_ | refine (S_nil hS).trans ?_ | refine (nxB1 hS).trans ?_ | refine (nxB0 hS).trans ?_ | refine (newBlk_eq _ _ _).trans ?_ | refine (nxNc).trans ?_ | refine (nxLe).trans ?_ | refine (nxPn hS).trans ?_ | refine (nxLs).trans ?_ | refine (nxLt).trans ?_ | refine (S_draw0 hS (by rfl) (by kernel_rfl) (by rfl)).trans ?_ | refine (S_draw2 hS (by kernel_rfl) (by rfl)).trans ?_ | refine (nxZ).trans ?_ | refine (nxT hS).trans ?_ | refine (nxF hS).trans ?_ | refine (nxAdd hS).trans ?_ | refine (nxSub hS).trans ?_ | refine (nxMul hS).trans ?_ | refine (nxShr hS).trans ?_ | refine (nxShl hS).trans ?_ | refine (nxRem hS).trans ?_ | refine (nxQuo hS).trans ?_ | refine (nxOr hS).trans ?_ | refine (nxAnd hS).trans ?_ | refine (nxCv hS).trans ?_ | refine (nxC8 hS).trans ?_
      | refine (reads_nil).trans ?_ | refine (reads_off).trans ?_ | refine (reads_pure).trans ?_ | refine (reads_loud).trans ?_ | refine (reads_alloc).trans ?_ | refine (reads_0 (by rfl)).trans ?_ | refine (reads_1 (by rfl)).trans ?_ | refine (stages_nil).trans ?_ | refine (stages_yes (by rfl) (by rfl)).trans ?_ | refine (stages_no (by rfl)).trans ?_ | refine (nxLa).trans ?_ | refine (again_s hS).trans ?_ | refine (nxEq).trans ?_ | refine (fL_eq _ _).trans ?_ | refine (nxAt).trans ?_ | refine (hx _ _).trans ?_ | refine (b2 hS (sub_01 _)).trans ?_ | refine (S_loop hS).trans ?_ | refine (b2 hS (geq_neg _)).trans ?_); (conv => lhs; whnf))
  all_goals rfl
theorem rv_inner (hS : S.Real B1) (hn : hor (s.take (i + 1)) < 18446744073709551616) (hi : i < s.length) (hi9 : i ≤ 9) : ∀ (k : Nat) {a : Nat} {tm : T Value}, k ≤ i → isFull 6 tm = true → tm.find 0 = some (.string ⟨⟨s⟩⟩) → tm.find 5 = some (.int .i64 (.ofNat i)) →
    tm.find 6 = some (.int .u64 (.ofNat a)) → tm.find 7 = some (.int .i64 (.ofNat k)) → a = hor ((s.take (i + 1)).drop (k + 1)) →
    ∃ tm', isFull 6 tm' = true ∧ tm'.find 5 = some (.int .i64 (.ofNat i)) ∧ tm'.find 6 = some (.int .u64 (.ofNat (hor (s.take (i + 1))))) ∧
      ∀ n, k + 20 ≤ n → ∀ R J K, S.W R J n (loopB B1 106 1) ⟨tm, h, 51, 106, none, []⟩ K = K (.exit 2) ⟨tm', h, 51, 106, none, []⟩
  | 0, a, tm, hk, hf, h0, h5, h6, h7, ha => by
    have hb : s[0]? = some s[0] := List.getElem?_eq_getElem (by omega)
    have hd : (s.take (i + 1)).drop 0 = s[0] :: (s.take (i + 1)).drop 1 := by
      rw [List.drop_eq_getElem_cons (by rw [List.length_take]; omega)]
      simp
    have he : a * 128 + s[0].toNat % 128 = hor (s.take (i + 1)) := by
      have := congrArg hor hd
      simp only [List.drop_zero, hor] at this
      rw [this, ha]
    obtain ⟨tm', a1, a2, a3, a4⟩ := rv_in0 (h := h) hS hf h0 h5 h6 h7 (byteAt hb) s[0].toNat_lt (by rw [he]; exact hn)
    rw [he] at a3
    refine ⟨tm', a1, a2, a3, fun n hn R J K => ?_⟩
    obtain ⟨m, rfl⟩ : ∃ m, n = m + 20 := ⟨n - 20, by omega⟩
    exact a4 m R J K
  | k + 1, a, tm, hk, hf, h0, h5, h6, h7, ha => by
    have hkl : k + 1 < s.length := by omega
    have hb : s[k + 1]? = some s[k + 1] := List.getElem?_eq_getElem hkl
    have hd : (s.take (i + 1)).drop (k + 1) = s[k + 1] :: (s.take (i + 1)).drop (k + 1 + 1) := by
      rw [List.drop_eq_getElem_cons (by rw [List.length_take]; omega)]
      simp
    have he : a * 128 + s[k + 1].toNat % 128 = hor ((s.take (i + 1)).drop (k + 1)) := by
      have := congrArg hor hd
      simp only [hor] at this
      rw [this, ha]
    have hlt := hor_drop (s.take (i + 1)) (k + 1)
    obtain ⟨tm2, a1, a2, a3, a4, a5, a6⟩ := rv_in (h := h) hS hf h0 h5 h6 h7 (byteAt hb) s[k + 1].toNat_lt (by rw [he]; omega) (by omega)
    obtain ⟨tm', b1, b2, b3, b4⟩ := rv_inner hS hn hi hi9 k (by omega) a1 a2 a3 a4 a5 he
    refine ⟨tm', b1, b2, b3, fun n hn R J K => ?_⟩
    obtain ⟨m, rfl⟩ : ∃ m, n = m + 20 := ⟨n - 20, by omega⟩
    rw [a6]
    exact b4 (m + 19) (by omega) R J K
theorem rv_short (hS : S.Real B1) (hf : isFull 6 tm = true) (h0 : tm.find 0 = some (.string ⟨⟨s⟩⟩)) (h5 : tm.find 5 = some (.int .i64 (.ofNat i))) (hi : s.length = i) (hi9 : i < 10) :
    ∃ tm', isFull 6 tm' = true ∧ tm'.find 2 = some (.int .u64 (.ofNat 0)) ∧ tm'.find 3 = some (.int .i64 (.ofNat 0)) ∧ tm'.find 4 = some (.int .i64 (.ofNat 20)) ∧
      ∀ m R J K, S.W R J (m + 60) (loopB B1 106 0) ⟨tm, h, 51, 106, none, []⟩ K = K .ret ⟨tm', h, 51, 106, none, []⟩ := by
  obtain ⟨g, rfl⟩ := full_look hf [(0, .string ⟨⟨s⟩⟩), (5, .int .i64 (.ofNat i))] (by simp [h0, h5])
  refine ⟨?tm_3, ?_, ?_, ?_, ?_, ?walk_3⟩
  case walk_3 =>
    intro m R J K
    refine (S_loop hS).trans ?_
    conv => lhs; whnf
    repeat ((first
      | refine (V_all hS).trans ?_ | refine (fV_bool _ _).trans ?_ | refine (fN_eq _ _).trans ?_ | refine (S_cons hS).trans ?_ | refine (S_nil hS).trans ?_ | refine (nxB1 hS).trans ?_ | refine (nxB0 hS).trans ?_ | refine (newBlk_eq _ _ _).trans ?_ | refine (nxNc).trans ?_ | refine (nxLe).trans ?_ | refine (nxPn hS).trans ?_ | refine (nxLs).trans ?_ | refine (nxLt).trans ?_ | refine (S_draw0 hS (by rfl) (by kernel_rfl) (by rfl)).trans ?_ | refine (S_draw2 hS (by kernel_rfl) (by rfl)).trans ?_ | refine (nxZ).trans ?_ | refine (nxT hS).trans ?_ | refine (nxF hS).trans ?_ | refine (nxAdd hS).trans ?_ | refine (nxSub hS).trans ?_ | refine (nxMul hS).trans ?_ | refine (nxShr hS).trans ?_ | refine (nxShl hS).trans ?_ | refine (nxRem hS).trans ?_ | refine (nxQuo hS).trans ?_ | refine (nxOr hS).trans ?_ | refine (nxAnd hS).trans ?_ | refine (nxCv hS).trans ?_ | refine (nxC8 hS).trans ?_
      | refine (reads_nil).trans ?_ | refine (reads_off).trans ?_ | refine (reads_pure).trans ?_ | refine (reads_loud).trans ?_ | refine (reads_alloc).trans ?_ | refine (reads_0 (by rfl)).trans ?_ | refine (reads_1 (by rfl)).trans ?_ | refine (stages_nil).trans ?_ | refine (stages_yes (by rfl) (by rfl)).trans ?_ | refine (stages_no (by rfl)).trans ?_ | refine (nxLa).trans ?_ | refine (again_s hS).trans ?_ | refine (nxEq).trans ?_ | refine (fL_eq _ _).trans ?_ | refine (nxAt).trans ?_); (conv => lhs; whnf))
  all_goals rfl
theorem rv_form9 (hS : S.Real B1) (hf : isFull 6 tm = true) (h0 : tm.find 0 = some (.string ⟨⟨s⟩⟩)) (h5 : tm.find 5 = some (.int .i64 (.ofNat 9))) (hi : 9 < s.length) (hx : ByteAt s 9 c) (hc : 1 < c) :
    ∃ tm', isFull 6 tm' = true ∧ tm'.find 2 = some (.int .u64 (.ofNat 0)) ∧ tm'.find 3 = some (.int .i64 (.ofNat 0)) ∧ tm'.find 4 = some (.int .i64 (.ofNat 21)) ∧
      ∀ m R J K, S.W R J (m + 60) (loopB B1 106 0) ⟨tm, h, 51, 106, none, []⟩ K = K .ret ⟨tm', h, 51, 106, none, []⟩ := by
  obtain ⟨g, rfl⟩ := full_look hf [(0, .string ⟨⟨s⟩⟩), (5, .int .i64 (.ofNat 9))] (by simp [h0, h5])
  refine ⟨?tm_4, ?_, ?_, ?_, ?_, ?walk_4⟩
  case walk_4 =>
    intro m R J K
    refine (S_loop hS).trans ?_
    conv => lhs; whnf
    repeat ((first
      | refine (V_all hS).trans ?_ | refine (fV_bool _ _).trans ?_ | refine (fN_eq _ _).trans ?_ | refine (S_cons hS).trans ?_ | refine (S_nil hS).trans ?_ | refine (nxB1 hS).trans ?_ | refine (nxB0 hS).trans ?_ | refine (newBlk_eq _ _ _).trans ?_ | refine (nxNc).trans ?_ | refine (nxLe).trans ?_ | refine (nxPn hS).trans ?_ | refine (nxLs).trans ?_ | refine (nxLt).trans ?_ | refine (S_draw0 hS (by rfl) (by kernel_rfl) (by rfl)).trans ?_ | refine (S_draw2 hS (by kernel_rfl) (by rfl)).trans ?_ | refine (nxZ).trans ?_ | refine (nxT hS).trans ?_ | refine (nxF hS).trans ?_ | refine (nxAdd hS).trans ?_ | refine (nxSub hS).trans ?_ | refine (nxMul hS).trans ?_ | refine (nxShr hS).trans ?_ | refine (nxShl hS).trans ?_ | refine (nxRem hS).trans ?_ | refine (nxQuo hS).trans ?_ | refine (nxOr hS).trans ?_ | refine (nxAnd hS).trans ?_ | refine (nxCv hS).trans ?_ | refine (nxC8 hS).trans ?_
      | refine (reads_nil).trans ?_ | refine (reads_off).trans ?_ | refine (reads_pure).trans ?_ | refine (reads_loud).trans ?_ | refine (reads_alloc).trans ?_ | refine (reads_0 (by rfl)).trans ?_ | refine (reads_1 (by rfl)).trans ?_ | refine (stages_nil).trans ?_ | refine (stages_yes (by rfl) (by rfl)).trans ?_ | refine (stages_no (by rfl)).trans ?_ | refine (nxLa).trans ?_ | refine (again_s hS).trans ?_ | refine (nxEq).trans ?_ | refine (fL_eq _ _).trans ?_ | refine (nxAt).trans ?_ | refine (hx _ _).trans ?_); (conv => lhs; whnf))
  all_goals rfl
theorem rv_more (hS : S.Real B1) (hf : isFull 6 tm = true) (h0 : tm.find 0 = some (.string ⟨⟨s⟩⟩)) (h5 : tm.find 5 = some (.int .i64 (.ofNat i))) (hi : i < s.length) (hi9 : i < 9) (hx : ByteAt s i c) (hc : 128 ≤ c) :
    ∃ tm', isFull 6 tm' = true ∧ tm'.find 0 = some (.string ⟨⟨s⟩⟩) ∧ tm'.find 5 = some (.int .i64 (.ofNat (i + 1))) ∧
      ∀ m R J K, S.W R J (m + 60) (loopB B1 106 0) ⟨tm, h, 51, 106, none, []⟩ K = S.W R J (m + 59) (loopB B1 106 0) ⟨tm', h, 51, 106, none, []⟩ K := by
  obtain ⟨g, rfl⟩ := full_look hf [(0, .string ⟨⟨s⟩⟩), (5, .int .i64 (.ofNat i))] (by simp [h0, h5])
  refine ⟨?tm_5, ?_, ?_, ?_, ?walk_5⟩
  case walk_5 =>
    intro m R J K
    refine (S_loop hS).trans ?_
    conv => lhs; whnf
    repeat ((first
      | refine (V_all hS).trans ?_ | refine (fV_bool _ _).trans ?_ | refine (fN_eq _ _).trans ?_ | refine (S_cons hS).trans ?_ | refine (S_nil hS).trans ?_ | refine (nxB1 hS).trans ?_ | refine (nxB0 hS).trans ?_ | refine (newBlk_eq _ _ _).trans ?_ | refine (nxNc).trans ?_ | refine (nxLe).trans ?_ | refine (nxPn hS).trans ?_ | refine (nxLs).trans ?_ | refine (nxLt).trans ?_ | refine (S_draw0 hS (by rfl) (by kernel_rfl) (by rfl)).trans ?_ | refine (S_draw2 hS (by kernel_rfl) (by rfl)).trans ?_ | refine (nxZ).trans ?_ | refine (nxT hS).trans ?_ | refine (nxF hS).trans ?_ | refine (nxAdd hS).trans ?_ | refine (nxSub hS).trans ?_ | refine (nxMul hS).trans ?_ | refine (nxShr hS).trans ?_ | refine (nxShl hS).trans ?_ | refine (nxRem hS).trans ?_ | refine (nxQuo hS).trans ?_ | refine (nxOr hS).trans ?_ | refine (nxAnd hS).trans ?_ | refine (nxCv hS).trans ?_ | refine (nxC8 hS).trans ?_
      | refine (reads_nil).trans ?_ | refine (reads_off).trans ?_ | refine (reads_pure).trans ?_ | refine (reads_loud).trans ?_ | refine (reads_alloc).trans ?_ | refine (reads_0 (by rfl)).trans ?_ | refine (reads_1 (by rfl)).trans ?_ | refine (stages_nil).trans ?_ | refine (stages_yes (by rfl) (by rfl)).trans ?_ | refine (stages_no (by rfl)).trans ?_ | refine (nxLa).trans ?_ | refine (again_s hS).trans ?_ | refine (nxEq).trans ?_ | refine (fL_eq _ _).trans ?_ | refine (nxAt).trans ?_ | refine (hx _ _).trans ?_); (conv => lhs; whnf))
  all_goals rfl
theorem rv_form0 (hS : S.Real B1) (hf : isFull 6 tm = true) (h0 : tm.find 0 = some (.string ⟨⟨s⟩⟩)) (h5 : tm.find 5 = some (.int .i64 (.ofNat i))) (hi : i < s.length) (hi9 : i ≤ 9) (hi0 : 0 < i) (hx : ByteAt s i 0) :
    ∃ tm', isFull 6 tm' = true ∧ tm'.find 2 = some (.int .u64 (.ofNat 0)) ∧ tm'.find 3 = some (.int .i64 (.ofNat 0)) ∧ tm'.find 4 = some (.int .i64 (.ofNat 21)) ∧
      ∀ m R J K, S.W R J (m + 60) (loopB B1 106 0) ⟨tm, h, 51, 106, none, []⟩ K = K .ret ⟨tm', h, 51, 106, none, []⟩ := by
  obtain ⟨g, rfl⟩ := full_look hf [(0, .string ⟨⟨s⟩⟩), (5, .int .i64 (.ofNat i))] (by simp [h0, h5])
  by_cases e9 : i = 9
  · subst e9
    refine ⟨?tm_6, ?_, ?_, ?_, ?_, ?walk_6⟩
    case walk_6 =>
      intro m R J K
      refine (S_loop hS).trans ?_
      conv => lhs; whnf
      repeat ((first
        | refine (V_all hS).trans ?_ | refine (fV_bool _ _).trans ?_ | refine (fN_eq _ _).trans ?_ | refine (S_cons hS).trans ?_ | refine (S_nil hS).trans ?_ | refine (nxB1 hS).trans ?_ | refine (nxB0 hS).trans ?_ | refine (newBlk_eq _ _ _).trans ?_ | refine (nxNc).trans ?_ | refine (nxLe).trans ?_ | refine (nxPn hS).trans ?_ | refine (nxLs).trans ?_ | refine (nxLt).trans ?_ | refine (S_draw0 hS (by rfl) (by kernel_rfl) (by rfl)).trans ?_ | refine (S_draw2 hS (by kernel_rfl) (by rfl)).trans ?_ | refine (nxZ).trans ?_ | refine (nxT hS).trans ?_ | refine (nxF hS).trans ?_ | refine (nxAdd hS).trans ?_ | refine (nxSub hS).trans ?_ | refine (nxMul hS).trans ?_ | refine (nxShr hS).trans ?_ | refine (nxShl hS).trans ?_ | refine (nxRem hS).trans ?_ | refine (nxQuo hS).trans ?_ | refine (nxOr hS).trans ?_ | refine (nxAnd hS).trans ?_ | refine (nxCv hS).trans ?_ | refine (nxC8 hS).trans ?_
        | refine (reads_nil).trans ?_ | refine (reads_off).trans ?_ | refine (reads_pure).trans ?_ | refine (reads_loud).trans ?_ | refine (reads_alloc).trans ?_ | refine (reads_0 (by rfl)).trans ?_ | refine (reads_1 (by rfl)).trans ?_ | refine (stages_nil).trans ?_ | refine (stages_yes (by rfl) (by rfl)).trans ?_ | refine (stages_no (by rfl)).trans ?_ | refine (nxLa).trans ?_ | refine (again_s hS).trans ?_ | refine (nxEq).trans ?_ | refine (fL_eq _ _).trans ?_ | refine (nxAt).trans ?_ | refine (hx _ _).trans ?_); (conv => lhs; whnf))
    all_goals rfl
  · refine ⟨?tm_7, ?_, ?_, ?_, ?_, ?walk_7⟩
    case walk_7 =>
      intro m R J K
      refine (S_loop hS).trans ?_
      conv => lhs; whnf
      repeat ((first
        | refine (V_all hS).trans ?_ | refine (fV_bool _ _).trans ?_ | refine (fN_eq _ _).trans ?_ | refine (S_cons hS).trans ?_ | refine (S_nil hS).trans ?_ | refine (nxB1 hS).trans ?_ | refine (nxB0 hS).trans ?_ | refine (newBlk_eq _ _ _).trans ?_ | refine (nxNc).trans ?_ | refine (nxLe).trans ?_ | refine (nxPn hS).trans ?_ | refine (nxLs).trans ?_ | refine (nxLt).trans ?_ | refine (S_draw0 hS (by rfl) (by kernel_rfl) (by rfl)).trans ?_ | refine (S_draw2 hS (by kernel_rfl) (by rfl)).trans ?_ | refine (nxZ).trans ?_ | refine (nxT hS).trans ?_ | refine (nxF hS).trans ?_ | refine (nxAdd hS).trans ?_ | refine (nxSub hS).trans ?_ | refine (nxMul hS).trans ?_ | refine (nxShr hS).trans ?_ | refine (nxShl hS).trans ?_ | refine (nxRem hS).trans ?_ | refine (nxQuo hS).trans ?_ | refine (nxOr hS).trans ?_ | refine (nxAnd hS).trans ?_ | refine (nxCv hS).trans ?_ | refine (nxC8 hS).trans ?_
        | refine (reads_nil).trans ?_ | refine (reads_off).trans ?_ | refine (reads_pure).trans ?_ | refine (reads_loud).trans ?_ | refine (reads_alloc).trans ?_ | refine (reads_0 (by rfl)).trans ?_ | refine (reads_1 (by rfl)).trans ?_ | refine (stages_nil).trans ?_ | refine (stages_yes (by rfl) (by rfl)).trans ?_ | refine (stages_no (by rfl)).trans ?_ | refine (nxLa).trans ?_ | refine (again_s hS).trans ?_ | refine (nxEq).trans ?_ | refine (fL_eq _ _).trans ?_ | refine (nxAt).trans ?_ | refine (hx _ _).trans ?_); (conv => lhs; whnf))
    all_goals rfl
/-- up to the inner loop, and behind it. -/
theorem rv_ok (hS : S.Real B1) (hf : isFull 6 tm = true) (h0 : tm.find 0 = some (.string ⟨⟨s⟩⟩)) (h5 : tm.find 5 = some (.int .i64 (.ofNat i))) (hi : i < s.length) (hi9 : i ≤ 9) (hx : ByteAt s i c) (h128 : c < 128) (h91 : i = 9 → c = 1) (h00 : c = 0 → i = 0) {n : Nat} :
    ∃ tm1, isFull 6 tm1 = true ∧ tm1.find 0 = some (.string ⟨⟨s⟩⟩) ∧ tm1.find 5 = some (.int .i64 (.ofNat i)) ∧ tm1.find 6 = some (.int .u64 (.ofNat 0)) ∧ tm1.find 7 = some (.int .i64 (.ofNat i)) ∧
      ∀ tm2, isFull 6 tm2 = true → tm2.find 5 = some (.int .i64 (.ofNat i)) → tm2.find 6 = some (.int .u64 (.ofNat n)) → ∃ tm3, isFull 6 tm3 = true ∧ tm3.find 2 = some (.int .u64 (.ofNat n)) ∧ tm3.find 3 = some (.int .i64 (.ofNat (i + 1))) ∧ tm3.find 4 = some (.int .i64 (.ofNat 0)) ∧
      ∀ m R J K, ∃ K1, S.W R J (m + 60) (loopB B1 106 0) ⟨tm, h, 51, 106, none, []⟩ K = S.W R J (m + 48) (loopB B1 106 1) ⟨tm1, h, 51, 106, none, []⟩ K1 ∧ K1 (.exit 2) ⟨tm2, h, 51, 106, none, []⟩ = K .ret ⟨tm3, h, 51, 106, none, []⟩ := by
  obtain ⟨g, rfl⟩ := full_look hf [(0, .string ⟨⟨s⟩⟩), (5, .int .i64 (.ofNat i))] (by simp [h0, h5])
  by_cases e9 : i = 9
  · have ec := h91 e9
    subst e9
    subst ec
    refine ⟨?tm1_8, ?_, ?_, ?_, ?_, ?_, ?rest_8⟩
    case rest_8 =>
      intro tm2 hf2 h52 h62
      obtain ⟨g2, rfl⟩ := full_look hf2 [(5, .int .i64 (.ofNat 9)), (6, .int .u64 (.ofNat n))] (by simp [h52, h62])
      refine ⟨?tm3_9, ?_, ?_, ?_, ?_, ?walk_9⟩
      case walk_9 =>
        intro m R J K
        refine ⟨?K1_10, ?eq1_10, ?eq2_10⟩
        case eq1_10 =>
          refine (S_loop hS).trans ?_
          conv => lhs; whnf
          repeat ((first
            | refine (V_all hS).trans ?_ | refine (fV_bool _ _).trans ?_ | refine (fN_eq _ _).trans ?_ | refine (S_cons hS).trans ?_ | refine (S_nil hS).trans ?_ | refine (nxB1 hS).trans ?_ | refine (nxB0 hS).trans ?_ | refine (newBlk_eq _ _ _).trans ?_ | refine (nxNc).trans ?_ | refine (nxLe).trans ?_ | refine (nxPn hS).trans ?_ | refine (nxLs).trans ?_ | refine (nxLt).trans ?_ | refine (S_draw0 hS (by rfl) (by kernel_rfl) (by rfl)).trans ?_ | refine (S_draw2 hS (by kernel_rfl) (by rfl)).trans ?_ | refine (nxZ).trans ?_ | refine (nxT hS).trans ?_ | refine (nxF hS).trans ?_ | refine (nxAdd hS).trans ?_ | refine (nxSub hS).trans ?_ | refine (nxMul hS).trans ?_ | refine (nxShr hS).trans ?_ | refine (nxShl hS).trans ?_ | refine (nxRem hS).trans ?_ | refine (nxQuo hS).trans ?_ | refine (nxOr hS).trans ?_ | refine (nxAnd hS).trans ?_ | refine (nxCv hS).trans ?_ | refine (nxC8 hS).trans ?_
            | refine (reads_nil).trans ?_ | refine (reads_off).trans ?_ | refine (reads_pure).trans ?_ | refine (reads_loud).trans ?_ | refine (reads_alloc).trans ?_ | refine (reads_0 (by rfl)).trans ?_ | refine (reads_1 (by rfl)).trans ?_ | refine (stages_nil).trans ?_ | refine (stages_yes (by rfl) (by rfl)).trans ?_ | refine (stages_no (by rfl)).trans ?_ | refine (nxLa).trans ?_ | refine (again_s hS).trans ?_ | refine (nxEq).trans ?_ | refine (fL_eq _ _).trans ?_ | refine (nxAt).trans ?_ | refine (hx _ _).trans ?_); (conv => lhs; whnf))
          rfl
        case eq2_10 =>
          conv => lhs; whnf
          repeat ((first
            | refine (V_all hS).trans ?_ | refine (fV_bool _ _).trans ?_ | refine (fN_eq _ _).trans ?_ | refine (S_cons hS).trans ?_ | refine (S_nil hS).trans ?_ | refine (nxB1 hS).trans ?_ | refine (nxB0 hS).trans ?_ | refine (newBlk_eq _ _ _).trans ?_ | refine (nxNc).trans ?_ | refine (nxLe).trans ?_ | refine (nxPn hS).trans ?_ | refine (nxLs).trans ?_ | refine (nxLt).trans ?_ | refine (S_draw0 hS (by rfl) (by kernel_rfl) (by rfl)).trans ?_ | refine (S_draw2 hS (by kernel_rfl) (by rfl)).trans ?_ | refine (nxZ).trans ?_ | refine (nxT hS).trans ?_ | refine (nxF hS).trans ?_ | refine (nxAdd hS).trans ?_ | refine (nxSub hS).trans ?_ | refine (nxMul hS).trans ?_ | refine (nxShr hS).trans ?_ | refine (nxShl hS).trans ?_ | refine (nxRem hS).trans ?_ | refine (nxQuo hS).trans ?_ | refine (nxOr hS).trans ?_ | refine (nxAnd hS).trans ?_ | refine (nxCv hS).trans ?_ | refine (nxC8 hS).trans ?_
            | refine (reads_nil).trans ?_ | refine (reads_off).trans ?_ | refine (reads_pure).trans ?_ | refine (reads_loud).trans ?_ | refine (reads_alloc).trans ?_ | refine (reads_0 (by rfl)).trans ?_ | refine (reads_1 (by rfl)).trans ?_ | refine (stages_nil).trans ?_ | refine (stages_yes (by rfl) (by rfl)).trans ?_ | refine (stages_no (by rfl)).trans ?_ | refine (nxLa).trans ?_ | refine (again_s hS).trans ?_ | refine (nxEq).trans ?_ | refine (fL_eq _ _).trans ?_ | refine (nxAt).trans ?_); (conv => lhs; whnf))
      all_goals rfl
    all_goals rfl
  · by_cases e0 : c = 0
    · have ei := h00 e0
      subst e0
      subst ei
      refine ⟨?tm1_11, ?_, ?_, ?_, ?_, ?_, ?rest_11⟩
      case rest_11 =>
        intro tm2 hf2 h52 h62
        obtain ⟨g2, rfl⟩ := full_look hf2 [(5, .int .i64 (.ofNat 0)), (6, .int .u64 (.ofNat n))] (by simp [h52, h62])
        refine ⟨?tm3_12, ?_, ?_, ?_, ?_, ?walk_12⟩
        case walk_12 =>
          intro m R J K
          refine ⟨?K1_13, ?eq1_13, ?eq2_13⟩
          case eq1_13 =>
            refine (S_loop hS).trans ?_
            conv => lhs; whnf
            repeat ((first
              | refine (V_all hS).trans ?_ | refine (fV_bool _ _).trans ?_ | refine (fN_eq _ _).trans ?_ | refine (S_cons hS).trans ?_ | refine (S_nil hS).trans ?_ | refine (nxB1 hS).trans ?_ | refine (nxB0 hS).trans ?_ | refine (newBlk_eq _ _ _).trans ?_ | refine (nxNc).trans ?_ | refine (nxLe).trans ?_ | refine (nxPn hS).trans ?_ | refine (nxLs).trans ?_ | refine (nxLt).trans ?_ | refine (S_draw0 hS (by rfl) (by kernel_rfl) (by rfl)).trans ?_ | refine (S_draw2 hS (by kernel_rfl) (by rfl)).trans ?_ | refine (nxZ).trans ?_ | refine (nxT hS).trans ?_ | refine (nxF hS).trans ?_ | refine (nxAdd hS).trans ?_ | refine (nxSub hS).trans ?_ | refine (nxMul hS).trans ?_ | refine (nxShr hS).trans ?_ | refine (nxShl hS).trans ?_ | refine (nxRem hS).trans ?_ | refine (nxQuo hS).trans ?_ | refine (nxOr hS).trans ?_ | refine (nxAnd hS).trans ?_ | refine (nxCv hS).trans ?_ | refine (nxC8 hS).trans ?_
              | refine (reads_nil).trans ?_ | refine (reads_off).trans ?_ | refine (reads_pure).trans ?_ | refine (reads_loud).trans ?_ | refine (reads_alloc).trans ?_ | refine (reads_0 (by rfl)).trans ?_ | refine (reads_1 (by rfl)).trans ?_ | refine (stages_nil).trans ?_ | refine (stages_yes (by rfl) (by rfl)).trans ?_ | refine (stages_no (by rfl)).trans ?_ | refine (nxLa).trans ?_ | refine (again_s hS).trans ?_ | refine (nxEq).trans ?_ | refine (fL_eq _ _).trans ?_ | refine (nxAt).trans ?_ | refine (hx _ _).trans ?_); (conv => lhs; whnf))
            rfl
          case eq2_13 =>
            conv => lhs; whnf
            repeat ((first
              | refine (V_all hS).trans ?_ | refine (fV_bool _ _).trans ?_ | refine (fN_eq _ _).trans ?_ | refine (S_cons hS).trans ?_ | refine (S_nil hS).trans ?_ | refine (nxB1 hS).trans ?_ | refine (nxB0 hS).trans ?_ | refine (newBlk_eq _ _ _).trans ?_ | refine (nxNc).trans ?_ | refine (nxLe).trans ?_ | refine (nxPn hS).trans ?_ | refine (nxLs).trans ?_ | refine (nxLt).trans ?_ | refine (S_draw0 hS (by rfl) (by kernel_rfl) (by rfl)).trans ?_ | refine (S_draw2 hS (by kernel_rfl) (by rfl)).trans ?_ | refine (nxZ).trans ?_ | refine (nxT hS).trans ?_ | refine (nxF hS).trans ?_ | refine (nxAdd hS).trans ?_ | refine (nxSub hS).trans ?_ | refine (nxMul hS).trans ?_ | refine (nxShr hS).trans ?_ | refine (nxShl hS).trans ?_ | refine (nxRem hS).trans ?_ | refine (nxQuo hS).trans ?_ | refine (nxOr hS).trans ?_ | refine (nxAnd hS).trans ?_ | refine (nxCv hS).trans ?_ | refine (nxC8 hS).trans ?_
              | refine (reads_nil).trans ?_ | refine (reads_off).trans ?_ | refine (reads_pure).trans ?_ | refine (reads_loud).trans ?_ | refine (reads_alloc).trans ?_ | refine (reads_0 (by rfl)).trans ?_ | refine (reads_1 (by rfl)).trans ?_ | refine (stages_nil).trans ?_ | refine (stages_yes (by rfl) (by rfl)).trans ?_ | refine (stages_no (by rfl)).trans ?_ | refine (nxLa).trans ?_ | refine (again_s hS).trans ?_ | refine (nxEq).trans ?_ | refine (fL_eq _ _).trans ?_ | refine (nxAt).trans ?_); (conv => lhs; whnf))
        all_goals rfl
      all_goals rfl
    · refine ⟨?tm1_14, ?_, ?_, ?_, ?_, ?_, ?rest_14⟩
      case rest_14 =>
        intro tm2 hf2 h52 h62
        obtain ⟨g2, rfl⟩ := full_look hf2 [(5, .int .i64 (.ofNat i)), (6, .int .u64 (.ofNat n))] (by simp [h52, h62])
        refine ⟨?tm3_15, ?_, ?_, ?_, ?_, ?walk_15⟩
        case walk_15 =>
          intro m R J K
          refine ⟨?K1_16, ?eq1_16, ?eq2_16⟩
          case eq1_16 =>
            refine (S_loop hS).trans ?_
            conv => lhs; whnf
            repeat ((first
              | refine (V_all hS).trans ?_ | refine (fV_bool _ _).trans ?_ | refine (fN_eq _ _).trans ?_ | refine (S_cons hS).trans ?_ | refine (S_nil hS).trans ?_ | refine (nxB1 hS).trans ?_ | refine (nxB0 hS).trans ?_ | refine (newBlk_eq _ _ _).trans ?_ | refine (nxNc).trans ?_ | refine (nxLe).trans ?_ | refine (nxPn hS).trans ?_ | refine (nxLs).trans ?_ | refine (nxLt).trans ?_ | refine (S_draw0 hS (by rfl) (by kernel_rfl) (by rfl)).trans ?_ | refine (S_draw2 hS (by kernel_rfl) (by rfl)).trans ?_ | refine (nxZ).trans ?_ | refine (nxT hS).trans ?_ | refine (nxF hS).trans ?_ | refine (nxAdd hS).trans ?_ | refine (nxSub hS).trans ?_ | refine (nxMul hS).trans ?_ | refine (nxShr hS).trans ?_ | refine (nxShl hS).trans ?_ | refine (nxRem hS).trans ?_ | refine (nxQuo hS).trans ?_ | refine (nxOr hS).trans ?_ | refine (nxAnd hS).trans ?_ | refine (nxCv hS).trans ?_ | refine (nxC8 hS).trans ?_
              | refine (reads_nil).trans ?_ | refine (reads_off).trans ?_ | refine (reads_pure).trans ?_ | refine (reads_loud).trans ?_ | refine (reads_alloc).trans ?_ | refine (reads_0 (by rfl)).trans ?_ | refine (reads_1 (by rfl)).trans ?_ | refine (stages_nil).trans ?_ | refine (stages_yes (by rfl) (by rfl)).trans ?_ | refine (stages_no (by rfl)).trans ?_ | refine (nxLa).trans ?_ | refine (again_s hS).trans ?_ | refine (nxEq).trans ?_ | refine (fL_eq _ _).trans ?_ | refine (nxAt).trans ?_ | refine (hx _ _).trans ?_); (conv => lhs; whnf))
            rfl
          case eq2_16 =>
            conv => lhs; whnf
            repeat ((first
              | refine (V_all hS).trans ?_ | refine (fV_bool _ _).trans ?_ | refine (fN_eq _ _).trans ?_ | refine (S_cons hS).trans ?_ | refine (S_nil hS).trans ?_ | refine (nxB1 hS).trans ?_ | refine (nxB0 hS).trans ?_ | refine (newBlk_eq _ _ _).trans ?_ | refine (nxNc).trans ?_ | refine (nxLe).trans ?_ | refine (nxPn hS).trans ?_ | refine (nxLs).trans ?_ | refine (nxLt).trans ?_ | refine (S_draw0 hS (by rfl) (by kernel_rfl) (by rfl)).trans ?_ | refine (S_draw2 hS (by kernel_rfl) (by rfl)).trans ?_ | refine (nxZ).trans ?_ | refine (nxT hS).trans ?_ | refine (nxF hS).trans ?_ | refine (nxAdd hS).trans ?_ | refine (nxSub hS).trans ?_ | refine (nxMul hS).trans ?_ | refine (nxShr hS).trans ?_ | refine (nxShl hS).trans ?_ | refine (nxRem hS).trans ?_ | refine (nxQuo hS).trans ?_ | refine (nxOr hS).trans ?_ | refine (nxAnd hS).trans ?_ | refine (nxCv hS).trans ?_ | refine (nxC8 hS).trans ?_
              | refine (reads_nil).trans ?_ | refine (reads_off).trans ?_ | refine (reads_pure).trans ?_ | refine (reads_loud).trans ?_ | refine (reads_alloc).trans ?_ | refine (reads_0 (by rfl)).trans ?_ | refine (reads_1 (by rfl)).trans ?_ | refine (stages_nil).trans ?_ | refine (stages_yes (by rfl) (by rfl)).trans ?_ | refine (stages_no (by rfl)).trans ?_ | refine (nxLa).trans ?_ | refine (again_s hS).trans ?_ | refine (nxEq).trans ?_ | refine (fL_eq _ _).trans ?_ | refine (nxAt).trans ?_); (conv => lhs; whnf))
        all_goals rfl
      all_goals rfl
end
theorem hor_take_ok {s : List UInt8} {i : Nat} {b : UInt8} (ht : s.take (i + 1) = s.take i ++ [b]) (hli : (s.take i).length = i) (hi9 : i ≤ 9) (h91 : i = 9 → b.toNat = 1) : hor (s.take (i + 1)) < 18446744073709551616 := by
  obtain ⟨h1, h2⟩ := hor_take_lt (s := s) hi9
  rcases Nat.lt_or_ge i 9 with h | h
  · have := (hor_take_lt (s := s) (i := i + 1) (by omega)).1
    omega
  · have e : i = 9 := by omega
    rw [ht, hor_snoc, hli, h91 e, e]
    subst e
    have : 1 % 128 * 128 ^ 9 = 9223372036854775808 := by decide
    omega
theorem rv_loop {S : Stops} (hS : S.Real B1) {s : List UInt8} {h : Hp} : ∀ (rest : List UInt8) {i : Nat} {tm : T Value}, s.drop i = rest → i ≤ 9 → i ≤ s.length → isFull 6 tm = true → tm.find 0 = some (.string ⟨⟨s⟩⟩) → tm.find 5 = some (.int .i64 (.ofNat i)) →
    ∃ tm' n q e, isFull 6 tm' = true ∧ (∀ p, rlen i rest = some p → n = hor (s.take p) ∧ q = p ∧ e = 0) ∧ (rlen i rest = none → n = 0 ∧ q = 0 ∧ 0 < e ∧ e < 100) ∧
      tm'.find 2 = some (.int .u64 (.ofNat n)) ∧ tm'.find 3 = some (.int .i64 (.ofNat q)) ∧ tm'.find 4 = some (.int .i64 (.ofNat e)) ∧
      ∀ n, rest.length + 60 ≤ n → ∀ R J K, S.W R J n (loopB B1 106 0) ⟨tm, h, 51, 106, none, []⟩ K = K .ret ⟨tm', h, 51, 106, none, []⟩
  | [], i, tm, hd, hi9, hil, hf, h0, h5 => by
    have hi : s.length = i := by
      have := congrArg List.length hd
      simp at this
      omega
    obtain ⟨tm', a1, a2, a3, a4, a5⟩ := rv_short (h := h) hS hf h0 h5 hi (by omega)
    refine ⟨tm', 0, 0, 20, a1, fun p hp => (by cases hp), fun _ => ⟨rfl, rfl, by decide, by decide⟩, a2, a3, a4, fun n hn R J K => ?_⟩
    obtain ⟨m, rfl⟩ : ∃ m, n = m + 60 := ⟨n - 60, by simp at hn; omega⟩
    exact a5 m R J K
  | b :: r, i, tm, hd, hi9, hil, hf, h0, h5 => by
    obtain ⟨hb, ht, hr, hi⟩ := take_snoc hd
    have hx := byteAt hb
    have hc : b.toNat < 256 := b.toNat_lt
    have hli : (s.take i).length = i := by rw [List.length_take]; omega
    by_cases e0 : i = 9 ∧ 1 < b.toNat
    · obtain ⟨rfl, e1⟩ := e0
      obtain ⟨tm', b1, b2, b3, b4, b5⟩ := rv_form9 (h := h) hS hf h0 h5 hi hx e1
      have hq : rlen 9 (b :: r) = none := by unfold rlen; rw [if_pos ⟨rfl, by omega⟩]
      refine ⟨tm', 0, 0, 21, b1, fun q e => (by rw [hq] at e; cases e), fun _ => ⟨rfl, rfl, by decide, by decide⟩, b2, b3, b4, fun n hn R J K => ?_⟩
      obtain ⟨m, rfl⟩ : ∃ m, n = m + 60 := ⟨n - 60, by omega⟩
      exact b5 m R J K
    · by_cases e2 : b.toNat < 128
      · by_cases e3 : b.toNat = 0 ∧ 0 < i
        · have hq : rlen i (b :: r) = none := by
            unfold rlen
            by_cases e1 : i = 9 ∧ b.toNat ≠ 1
            · rw [if_pos e1]
            · rw [if_neg e1, if_pos e2, if_pos e3]
          rw [e3.1] at hx
          obtain ⟨tm', b1, b2, b3, b4, b5⟩ := rv_form0 (h := h) hS hf h0 h5 hi hi9 e3.2 hx
          refine ⟨tm', 0, 0, 21, b1, fun q e => (by rw [hq] at e; cases e), fun _ => ⟨rfl, rfl, by decide, by decide⟩, b2, b3, b4, fun n hn R J K => ?_⟩
          obtain ⟨m, rfl⟩ : ∃ m, n = m + 60 := ⟨n - 60, by omega⟩
          exact b5 m R J K
        · have h91 : i = 9 → b.toNat = 1 := fun e => by
            rcases Nat.lt_or_ge 1 b.toNat with h | h
            · exact absurd ⟨e, h⟩ e0
            · rcases Nat.eq_zero_or_pos b.toNat with h' | h'
              · exact absurd ⟨h', by omega⟩ e3
              · omega
          have hq : rlen i (b :: r) = some (i + 1) := by unfold rlen; rw [if_neg (fun e => e.2 (h91 e.1)), if_pos e2, if_neg e3]
          have hnl := hor_take_ok ht hli hi9 h91
          obtain ⟨tm1, c1, c2, c3, c4, c5, c6⟩ := rv_ok (h := h) (n := hor (s.take (i + 1))) hS hf h0 h5 hi hi9 hx e2 h91 (fun e => by
            rcases Nat.eq_zero_or_pos i with h | h
            · exact h
            · exact absurd ⟨e, h⟩ e3)
          obtain ⟨tm2, d1, d2, d3, d4⟩ := rv_inner (h := h) hS hnl hi hi9 i (Nat.le_refl _) c1 c2 c3 c4 c5 (by
            have : (s.take (i + 1)).drop (i + 1) = [] := by rw [List.drop_eq_nil_iff, List.length_take]; omega
            rw [this]
            rfl)
          obtain ⟨tm3, f1, f2, f3, f4, f5⟩ := c6 tm2 d1 d2 d3
          refine ⟨tm3, _, i + 1, 0, f1, fun q e => ?_, fun e => (by rw [hq] at e; cases e), f2, f3, f4, fun n hn R J K => ?_⟩
          · rw [hq] at e
            cases e
            exact ⟨rfl, rfl, rfl⟩
          · obtain ⟨m, rfl⟩ : ∃ m, n = m + 60 := ⟨n - 60, by omega⟩
            obtain ⟨K1, g1, g2⟩ := f5 m R J K
            rw [g1, d4 _ (by omega), g2]
      · have hi9' : i < 9 := by
          rcases Nat.lt_or_ge i 9 with h | h
          · exact h
          · exact absurd ⟨by omega, by omega⟩ e0
        obtain ⟨tm2, b1, b2, b3, b6⟩ := rv_more (h := h) hS hf h0 h5 hi hi9' hx (by omega)
        have hq : rlen i (b :: r) = rlen (i + 1) r := by
          conv => lhs; unfold rlen
          rw [if_neg (fun e => by omega), if_neg e2]
        obtain ⟨tm', n', q, e, a1, a2, a3, a4, a5, a6, a7⟩ := rv_loop hS r (h := h) hr (by omega) (by omega) b1 b2 b3
        refine ⟨tm', n', q, e, a1, fun p hp => a2 p (hq ▸ hp), fun hp => a3 (hq ▸ hp), a4, a5, a6, fun n hn R J K => ?_⟩
        obtain ⟨m, rfl⟩ : ∃ m, n = m + 60 := ⟨n - 60, by omega⟩
        rw [b6]
        exact a7 (m + 59) (by simp at hn; omega) R J K
theorem readVarint_does (s : List UInt8) (h : Hp) : ∃ n q e, (∀ p, rlen 0 s = some p → n = hor (s.take p) ∧ q = p ∧ e = 0) ∧ (rlen 0 s = none → n = 0 ∧ q = 0 ∧ 0 < e ∧ e < 100) ∧
    Runs B1 106 [.string ⟨⟨s⟩⟩] h (.tuple ⟨[.int .u64 (.ofNat n), .int .i64 (.ofNat q), .int .i64 (.ofNat e)]⟩) h := by
  let tm0 : T Value := (((((fullT 6).put 0 (some (.string ⟨⟨s⟩⟩))).put 2 (some (.int .u64 (.ofNat 0)))).put 3 (some (.int .i64 (.ofNat 0)))).put 4 (some (.int .i64 (.ofNat 0)))).put 5 (some (.int .i64 (.ofNat 0)))
  obtain ⟨tm', n, q, e, a1, a2, a3, a4, a5, a6, a7⟩ := rv_loop (stops_real B1) (h := h) s (i := 0) (tm := tm0) rfl (by decide) (by omega) rfl rfl rfl
  refine ⟨n, q, e, a2, a3, ?_⟩
  obtain ⟨g, rfl⟩ := full_look a1 [(2, .int .u64 (.ofNat n)), (3, .int .i64 (.ofNat q)), (4, .int .i64 (.ofNat e))] (by simp [a4, a5, a6])
  refine runs_of B1 (s.length + 60) fun S hS m hm R J c => ?_
  unfold enterS
  conv => lhs; whnf
  repeat ((first
    | refine (V_all hS).trans ?_ | refine (fV_bool _ _).trans ?_ | refine (fN_eq _ _).trans ?_ | refine (S_cons hS).trans ?_ | refine (S_nil hS).trans ?_ | refine (nxB1 hS).trans ?_ | refine (nxB0 hS).trans ?_ | refine (newBlk_eq _ _ _).trans ?_ | refine (nxNc).trans ?_ | refine (nxLe).trans ?_ | refine (nxPn hS).trans ?_ | refine (nxLs).trans ?_ | refine (nxLt).trans ?_ | refine (S_draw0 hS (by rfl) (by kernel_rfl) (by rfl)).trans ?_ | refine (S_draw2 hS (by kernel_rfl) (by rfl)).trans ?_ | refine (nxZ).trans ?_ | refine (nxT hS).trans ?_ | refine (nxF hS).trans ?_ | refine (nxAdd hS).trans ?_ | refine (nxSub hS).trans ?_ | refine (nxMul hS).trans ?_ | refine (nxShr hS).trans ?_ | refine (nxShl hS).trans ?_ | refine (nxRem hS).trans ?_ | refine (nxQuo hS).trans ?_ | refine (nxOr hS).trans ?_ | refine (nxAnd hS).trans ?_ | refine (nxCv hS).trans ?_ | refine (nxC8 hS).trans ?_
    | refine (reads_nil).trans ?_ | refine (reads_off).trans ?_ | refine (reads_pure).trans ?_ | refine (reads_loud).trans ?_ | refine (reads_alloc).trans ?_ | refine (reads_0 (by rfl)).trans ?_ | refine (reads_1 (by rfl)).trans ?_ | refine (stages_nil).trans ?_ | refine (stages_yes (by rfl) (by rfl)).trans ?_ | refine (stages_no (by rfl)).trans ?_ | refine (nxLa).trans ?_ | refine (again_s hS).trans ?_ | refine (nxEq).trans ?_ | refine (fL_eq _ _).trans ?_ | refine (nxAt).trans ?_); (conv => lhs; whnf))
  refine (S_run hS (x := ?_) ?_).trans ?_
  rotate_left
  · refine a7 _ ?_ R J _
    omega
  conv => lhs; whnf
  repeat ((first
    | refine (V_all hS).trans ?_ | refine (fV_bool _ _).trans ?_ | refine (fN_eq _ _).trans ?_ | refine (S_cons hS).trans ?_ | refine (S_nil hS).trans ?_ | refine (nxB1 hS).trans ?_ | refine (nxB0 hS).trans ?_ | refine (newBlk_eq _ _ _).trans ?_ | refine (nxNc).trans ?_ | refine (nxLe).trans ?_ | refine (nxPn hS).trans ?_ | refine (nxLs).trans ?_ | refine (nxLt).trans ?_ | refine (S_draw0 hS (by rfl) (by kernel_rfl) (by rfl)).trans ?_ | refine (S_draw2 hS (by kernel_rfl) (by rfl)).trans ?_ | refine (nxZ).trans ?_ | refine (nxT hS).trans ?_ | refine (nxF hS).trans ?_ | refine (nxAdd hS).trans ?_ | refine (nxSub hS).trans ?_ | refine (nxMul hS).trans ?_ | refine (nxShr hS).trans ?_ | refine (nxShl hS).trans ?_ | refine (nxRem hS).trans ?_ | refine (nxQuo hS).trans ?_ | refine (nxOr hS).trans ?_ | refine (nxAnd hS).trans ?_ | refine (nxCv hS).trans ?_ | refine (nxC8 hS).trans ?_
    | refine (reads_nil).trans ?_ | refine (reads_off).trans ?_ | refine (reads_pure).trans ?_ | refine (reads_loud).trans ?_ | refine (reads_alloc).trans ?_ | refine (reads_0 (by rfl)).trans ?_ | refine (reads_1 (by rfl)).trans ?_ | refine (stages_nil).trans ?_ | refine (stages_yes (by rfl) (by rfl)).trans ?_ | refine (stages_no (by rfl)).trans ?_ | refine (nxLa).trans ?_ | refine (again_s hS).trans ?_ | refine (nxEq).trans ?_ | refine (fL_eq _ _).trans ?_ | refine (nxAt).trans ?_); (conv => lhs; whnf))
  rfl
/-- a text, as the document reads it. -/
theorem refread_some {s x y : List UInt8} (hs : s.length < 1073741824) (hq : rtext s = some (x, y)) (h : Hp) : Runs B1 49 [.string ⟨⟨s⟩⟩] h (.tuple ⟨[.string ⟨⟨x⟩⟩, .string ⟨⟨y⟩⟩, .bool true]⟩) ⟨h.t, h.next + 16⟩ := by
  obtain ⟨n, q, e, a1, a2, N, r1⟩ := readVarint_does s h
  cases hl : rlen 0 s with
  | none =>
    unfold rtext at hq
    rw [hl] at hq
    cases hq
  | some p =>
    obtain ⟨rfl, rfl, rfl⟩ := a1 p hl
    have hp := rlen_ok hl
    have hn : hor (s.take q) ≤ (s.drop q).length ∧ x = (s.drop q).take (hor (s.take q)) ∧ y = (s.drop q).drop (hor (s.take q)) := by
      unfold rtext at hq
      rw [hl] at hq
      simp only at hq
      split at hq
      · cases hq
      · cases hq
        exact ⟨by omega, rfl, rfl⟩
    obtain ⟨hn, hx, hy⟩ := hn
    rw [List.length_drop] at hn
    clear hq hl a1 a2
    generalize hor (s.take q) = n at *
    have e1 : (s.take (q + n)).drop q = x := by
      rw [hx, List.drop_take]
      congr 1
      omega
    have e2 : s.drop (q + n) = y := by rw [hy, List.drop_drop]
    refine runs_of B1 N fun S hS m hm R J c => ?_
    unfold enterS
    conv => lhs; whnf
    repeat ((first
      | refine (V_all hS).trans ?_ | refine (fV_bool _ _).trans ?_ | refine (fN_eq _ _).trans ?_ | refine (S_cons hS).trans ?_ | refine (S_nil hS).trans ?_ | refine (nxB1 hS).trans ?_ | refine (nxB0 hS).trans ?_ | refine (newBlk_eq _ _ _).trans ?_ | refine (nxNc).trans ?_ | refine (nxLe).trans ?_ | refine (nxPn hS).trans ?_ | refine (nxLs).trans ?_ | refine (nxLt).trans ?_ | refine (S_draw0 hS (by rfl) (by kernel_rfl) (by rfl)).trans ?_ | refine (S_draw2 hS (by kernel_rfl) (by rfl)).trans ?_ | refine (nxZ).trans ?_ | refine (nxT hS).trans ?_ | refine (nxF hS).trans ?_ | refine (nxAdd hS).trans ?_ | refine (nxSub hS).trans ?_ | refine (nxMul hS).trans ?_ | refine (nxShr hS).trans ?_ | refine (nxShl hS).trans ?_ | refine (nxRem hS).trans ?_ | refine (nxQuo hS).trans ?_ | refine (nxOr hS).trans ?_ | refine (nxAnd hS).trans ?_ | refine (nxCv hS).trans ?_ | refine (nxC8 hS).trans ?_
      | refine (reads_nil).trans ?_ | refine (reads_off).trans ?_ | refine (reads_pure).trans ?_ | refine (reads_loud).trans ?_ | refine (reads_alloc).trans ?_ | refine (reads_0 (by rfl)).trans ?_ | refine (reads_1 (by rfl)).trans ?_ | refine (stages_nil).trans ?_ | refine (stages_yes (by rfl) (by rfl)).trans ?_ | refine (stages_no (by rfl)).trans ?_ | refine (nxLa).trans ?_ | refine (again_s hS).trans ?_ | refine (nxEq).trans ?_ | refine (fL_eq _ _).trans ?_ | refine (nxAt).trans ?_ | refine (S_call hS fun R J c => r1 _ (by omega) R J c).trans ?_ | refine (slice_both (l := s) (i := q) (j := q + n) u9 (by omega) (by omega) _).trans ?_ | rw [e1] | refine (slice_lo (l := s) (i := q + n) u9 (by omega) _).trans ?_ | rw [e2]); (conv => lhs; whnf))
    rfl
theorem refread_none {s : List UInt8} (hs : s.length < 1073741824) (hq : rtext s = none) (h : Hp) : Runs B1 49 [.string ⟨⟨s⟩⟩] h (.tuple ⟨[.string ⟨⟨[]⟩⟩, .string ⟨⟨[]⟩⟩, .bool false]⟩) h := by
  obtain ⟨n, q, e, a1, a2, N, r1⟩ := readVarint_does s h
  cases hl : rlen 0 s with
  | none =>
    obtain ⟨rfl, rfl, he, he2⟩ := a2 hl
    refine runs_of B1 N fun S hS m hm R J c => ?_
    unfold enterS
    conv => lhs; whnf
    repeat ((first
      | refine (V_all hS).trans ?_ | refine (fV_bool _ _).trans ?_ | refine (fN_eq _ _).trans ?_ | refine (S_cons hS).trans ?_ | refine (S_nil hS).trans ?_ | refine (nxB1 hS).trans ?_ | refine (nxB0 hS).trans ?_ | refine (newBlk_eq _ _ _).trans ?_ | refine (nxNc).trans ?_ | refine (nxLe).trans ?_ | refine (nxPn hS).trans ?_ | refine (nxLs).trans ?_ | refine (nxLt).trans ?_ | refine (S_draw0 hS (by rfl) (by kernel_rfl) (by rfl)).trans ?_ | refine (S_draw2 hS (by kernel_rfl) (by rfl)).trans ?_ | refine (nxZ).trans ?_ | refine (nxT hS).trans ?_ | refine (nxF hS).trans ?_ | refine (nxAdd hS).trans ?_ | refine (nxSub hS).trans ?_ | refine (nxMul hS).trans ?_ | refine (nxShr hS).trans ?_ | refine (nxShl hS).trans ?_ | refine (nxRem hS).trans ?_ | refine (nxQuo hS).trans ?_ | refine (nxOr hS).trans ?_ | refine (nxAnd hS).trans ?_ | refine (nxCv hS).trans ?_ | refine (nxC8 hS).trans ?_
      | refine (reads_nil).trans ?_ | refine (reads_off).trans ?_ | refine (reads_pure).trans ?_ | refine (reads_loud).trans ?_ | refine (reads_alloc).trans ?_ | refine (reads_0 (by rfl)).trans ?_ | refine (reads_1 (by rfl)).trans ?_ | refine (stages_nil).trans ?_ | refine (stages_yes (by rfl) (by rfl)).trans ?_ | refine (stages_no (by rfl)).trans ?_ | refine (nxLa).trans ?_ | refine (again_s hS).trans ?_ | refine (nxEq).trans ?_ | refine (fL_eq _ _).trans ?_ | refine (nxAt).trans ?_ | refine (S_call hS fun R J c => r1 _ (by omega) R J c).trans ?_); (conv => lhs; whnf))
  | some p =>
    obtain ⟨rfl, rfl, rfl⟩ := a1 p hl
    have hp := rlen_ok hl
    have hn : (s.drop q).length < hor (s.take q) := by
      unfold rtext at hq
      rw [hl] at hq
      simp only at hq
      split at hq
      · assumption
      · cases hq
    rw [List.length_drop] at hn
    clear hq hl a1 a2
    generalize hor (s.take q) = n at *
    refine runs_of B1 N fun S hS m hm R J c => ?_
    unfold enterS
    conv => lhs; whnf
    repeat ((first
      | refine (V_all hS).trans ?_ | refine (fV_bool _ _).trans ?_ | refine (fN_eq _ _).trans ?_ | refine (S_cons hS).trans ?_ | refine (S_nil hS).trans ?_ | refine (nxB1 hS).trans ?_ | refine (nxB0 hS).trans ?_ | refine (newBlk_eq _ _ _).trans ?_ | refine (nxNc).trans ?_ | refine (nxLe).trans ?_ | refine (nxPn hS).trans ?_ | refine (nxLs).trans ?_ | refine (nxLt).trans ?_ | refine (S_draw0 hS (by rfl) (by kernel_rfl) (by rfl)).trans ?_ | refine (S_draw2 hS (by kernel_rfl) (by rfl)).trans ?_ | refine (nxZ).trans ?_ | refine (nxT hS).trans ?_ | refine (nxF hS).trans ?_ | refine (nxAdd hS).trans ?_ | refine (nxSub hS).trans ?_ | refine (nxMul hS).trans ?_ | refine (nxShr hS).trans ?_ | refine (nxShl hS).trans ?_ | refine (nxRem hS).trans ?_ | refine (nxQuo hS).trans ?_ | refine (nxOr hS).trans ?_ | refine (nxAnd hS).trans ?_ | refine (nxCv hS).trans ?_ | refine (nxC8 hS).trans ?_
      | refine (reads_nil).trans ?_ | refine (reads_off).trans ?_ | refine (reads_pure).trans ?_ | refine (reads_loud).trans ?_ | refine (reads_alloc).trans ?_ | refine (reads_0 (by rfl)).trans ?_ | refine (reads_1 (by rfl)).trans ?_ | refine (stages_nil).trans ?_ | refine (stages_yes (by rfl) (by rfl)).trans ?_ | refine (stages_no (by rfl)).trans ?_ | refine (nxLa).trans ?_ | refine (again_s hS).trans ?_ | refine (nxEq).trans ?_ | refine (fL_eq _ _).trans ?_ | refine (nxAt).trans ?_ | refine (S_call hS fun R J c => r1 _ (by omega) R J c).trans ?_); (conv => lhs; whnf))
end Go.Proofs.YtopkigockpiggaaGreat
