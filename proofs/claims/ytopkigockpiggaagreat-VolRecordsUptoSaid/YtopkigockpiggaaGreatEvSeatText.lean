/-
  The reader's varints and texts, walked.
-/
import Derived.Test.YtopkigockpiggaaGreatEvSeatShape
set_option maxRecDepth 100000
set_option linter.unusedVariables false
set_option linter.unusedSimpArgs false
open Go Go.Ev
namespace Go.Proofs.YtopkigockpiggaaGreat
attribute [local irreducible] loadAt storeAt newBlk newCells writeAt appendK binK indexAddrK indexK sliceK lenK convK fN fV fL boolK maxK zeroOf enterK drawK rowsK leK okK readsK stagesK lastK againK eqvK
section
variable {h : Hp} {k e q : Nat} {s : List UInt8}
theorem rvarint_bad (r : Rd h k s e) (he : 0 < e) : Runs B1 99 [.pointer (some ⟨k, 0, none⟩)] h (.int .u64 (.ofNat 0)) h := by
  obtain ⟨el, z, pl, d, tr, hb, h0, h1, hk⟩ := r
  refine runs_of B1 0 fun S hS m hm R J c => ?_
  unfold enterS
  conv => lhs; whnf
  repeat ((first
    | refine (V_all hS).trans ?_ | refine (fV_bool _ _).trans ?_ | refine (fN_eq _ _).trans ?_ | refine (S_cons hS).trans ?_ | refine (S_nil hS).trans ?_ | refine (nxB1 hS).trans ?_ | refine (nxB0 hS).trans ?_ | refine (newBlk_eq _ _ _).trans ?_ | refine (nxNc).trans ?_ | refine (nxLe).trans ?_ | refine (nxPn hS).trans ?_ | refine (nxLs).trans ?_ | refine (nxLt).trans ?_ | refine (S_draw0 hS (by rfl) (by kernel_rfl) (by rfl)).trans ?_ | refine (S_draw2 hS (by kernel_rfl) (by rfl)).trans ?_ | refine (nxZ).trans ?_ | refine (nxT hS).trans ?_ | refine (nxF hS).trans ?_ | refine (nxAdd hS).trans ?_ | refine (nxSub hS).trans ?_ | refine (nxMul hS).trans ?_ | refine (nxShr hS).trans ?_ | refine (nxShl hS).trans ?_ | refine (nxRem hS).trans ?_ | refine (nxQuo hS).trans ?_ | refine (nxOr hS).trans ?_ | refine (nxAnd hS).trans ?_ | refine (nxCv hS).trans ?_ | refine (nxC8 hS).trans ?_
    | refine (reads_nil).trans ?_ | refine (reads_off).trans ?_ | refine (reads_pure).trans ?_ | refine (reads_loud).trans ?_ | refine (reads_alloc).trans ?_ | refine (reads_0 (by rfl)).trans ?_ | refine (reads_1 (by rfl)).trans ?_ | refine (stages_nil).trans ?_ | refine (stages_yes (by rfl) (by rfl)).trans ?_ | refine (stages_no (by rfl)).trans ?_ | refine (nxLa).trans ?_ | refine (again_s hS).trans ?_ | refine (nxEq).trans ?_ | refine (fL_eq _ _).trans ?_ | refine (nxAt).trans ?_ | refine (load1 (t := 28) (by rfl) (by rfl) hb (by decide) h1 _).trans ?_); (conv => lhs; whnf))
  rfl
theorem rvarint_none (r : Rd h k s 0) (hs : s.length < 1073741824) (hq : rlen 0 s = none) :
    ∃ h' e, 0 < e ∧ e < 100 ∧ Runs B1 99 [.pointer (some ⟨k, 0, none⟩)] h (.int .u64 (.ofNat 0)) h' ∧ Rd h' k s e ∧ Same (fun j => j = k) h h' := by
  obtain ⟨e, he, he2, N1, r1⟩ := (shape_does hs h).2 hq
  obtain ⟨h', ⟨N2, r2⟩, a2, a3⟩ := fault_does (e := e) r
  obtain ⟨el, z, pl, d, tr, hb, h0, h1, hk⟩ := r
  refine ⟨h', e, he, he2, runs_of B1 (N1 + N2) fun S hS m hm R J c => ?_, a2, a3⟩
  unfold enterS
  conv => lhs; whnf
  repeat ((first
    | refine (V_all hS).trans ?_ | refine (fV_bool _ _).trans ?_ | refine (fN_eq _ _).trans ?_ | refine (S_cons hS).trans ?_ | refine (S_nil hS).trans ?_ | refine (nxB1 hS).trans ?_ | refine (nxB0 hS).trans ?_ | refine (newBlk_eq _ _ _).trans ?_ | refine (nxNc).trans ?_ | refine (nxLe).trans ?_ | refine (nxPn hS).trans ?_ | refine (nxLs).trans ?_ | refine (nxLt).trans ?_ | refine (S_draw0 hS (by rfl) (by kernel_rfl) (by rfl)).trans ?_ | refine (S_draw2 hS (by kernel_rfl) (by rfl)).trans ?_ | refine (nxZ).trans ?_ | refine (nxT hS).trans ?_ | refine (nxF hS).trans ?_ | refine (nxAdd hS).trans ?_ | refine (nxSub hS).trans ?_ | refine (nxMul hS).trans ?_ | refine (nxShr hS).trans ?_ | refine (nxShl hS).trans ?_ | refine (nxRem hS).trans ?_ | refine (nxQuo hS).trans ?_ | refine (nxOr hS).trans ?_ | refine (nxAnd hS).trans ?_ | refine (nxCv hS).trans ?_ | refine (nxC8 hS).trans ?_
    | refine (reads_nil).trans ?_ | refine (reads_off).trans ?_ | refine (reads_pure).trans ?_ | refine (reads_loud).trans ?_ | refine (reads_alloc).trans ?_ | refine (reads_0 (by rfl)).trans ?_ | refine (reads_1 (by rfl)).trans ?_ | refine (stages_nil).trans ?_ | refine (stages_yes (by rfl) (by rfl)).trans ?_ | refine (stages_no (by rfl)).trans ?_ | refine (nxLa).trans ?_ | refine (again_s hS).trans ?_ | refine (nxEq).trans ?_ | refine (fL_eq _ _).trans ?_ | refine (nxAt).trans ?_ | refine (load1 (t := 28) (by rfl) (by rfl) hb (by decide) h1 _).trans ?_ | refine (load1 (t := 9) (by rfl) (by rfl) hb (by decide) h0 _).trans ?_ | refine (S_call hS fun R J c => r1 _ (by omega) R J c).trans ?_ | refine (S_call hS fun R J c => r2 _ (by omega) R J c).trans ?_); (conv => lhs; whnf))
  rfl
theorem rvarint_some (r : Rd h k s 0) (hs : s.length < 1073741824) (hq : rlen 0 s = some q) :
    ∃ h', Runs B1 99 [.pointer (some ⟨k, 0, none⟩)] h (.int .u64 (.ofNat (hor (s.take q)))) h' ∧ Rd h' k (s.drop q) 0 ∧ Same (fun j => j = k) h h' := by
  obtain ⟨N1, r1⟩ := (shape_does hs h).1 q hq
  have hql : q ≤ s.length := by have := rlen_ok hq; omega
  obtain ⟨el, z, pl, d, tr, hb, h0, h1, hk⟩ := r
  refine ⟨wr h k (.cells 2 el z true pl d (putL [.string ⟨⟨s.drop q⟩⟩] 0 tr)), runs_of B1 N1 fun S hS m hm R J c => ?_, ?_, wr_same _ _ _⟩
  · unfold enterS
    conv => lhs; whnf
    repeat ((first
      | refine (V_all hS).trans ?_ | refine (fV_bool _ _).trans ?_ | refine (fN_eq _ _).trans ?_ | refine (S_cons hS).trans ?_ | refine (S_nil hS).trans ?_ | refine (nxB1 hS).trans ?_ | refine (nxB0 hS).trans ?_ | refine (newBlk_eq _ _ _).trans ?_ | refine (nxNc).trans ?_ | refine (nxLe).trans ?_ | refine (nxPn hS).trans ?_ | refine (nxLs).trans ?_ | refine (nxLt).trans ?_ | refine (S_draw0 hS (by rfl) (by kernel_rfl) (by rfl)).trans ?_ | refine (S_draw2 hS (by kernel_rfl) (by rfl)).trans ?_ | refine (nxZ).trans ?_ | refine (nxT hS).trans ?_ | refine (nxF hS).trans ?_ | refine (nxAdd hS).trans ?_ | refine (nxSub hS).trans ?_ | refine (nxMul hS).trans ?_ | refine (nxShr hS).trans ?_ | refine (nxShl hS).trans ?_ | refine (nxRem hS).trans ?_ | refine (nxQuo hS).trans ?_ | refine (nxOr hS).trans ?_ | refine (nxAnd hS).trans ?_ | refine (nxCv hS).trans ?_ | refine (nxC8 hS).trans ?_
      | refine (reads_nil).trans ?_ | refine (reads_off).trans ?_ | refine (reads_pure).trans ?_ | refine (reads_loud).trans ?_ | refine (reads_alloc).trans ?_ | refine (reads_0 (by rfl)).trans ?_ | refine (reads_1 (by rfl)).trans ?_ | refine (stages_nil).trans ?_ | refine (stages_yes (by rfl) (by rfl)).trans ?_ | refine (stages_no (by rfl)).trans ?_ | refine (nxLa).trans ?_ | refine (again_s hS).trans ?_ | refine (nxEq).trans ?_ | refine (fL_eq _ _).trans ?_ | refine (nxAt).trans ?_ | refine (load1 (t := 28) (by rfl) (by rfl) hb (by decide) h1 _).trans ?_ | refine (load1 (t := 9) (by rfl) (by rfl) hb (by decide) h0 _).trans ?_ | refine (S_call hS fun R J c => r1 _ (by omega) R J c).trans ?_ | refine (slice_lo u9 hql _).trans ?_ | refine (store_eq (t := 9) (L := [.string ⟨⟨s.drop q⟩⟩]) (by rfl) hb (by rfl) (by rfl) (by decide) (by rfl) _).trans ?_); (conv => lhs; whnf))
    rfl
  · exact ⟨el, z, pl, d, _, wr_at _ _ _, by rw [find_putL, if_pos (by simp)]; rfl, by rw [find_putL, if_neg (by simp)]; exact h1, hk⟩
theorem rtext_bad (r : Rd h k s e) (he : 0 < e) : Runs B1 44 [.pointer (some ⟨k, 0, none⟩)] h (.string ⟨⟨[]⟩⟩) h := by
  obtain ⟨N1, r1⟩ := rvarint_bad r he
  obtain ⟨el, z, pl, d, tr, hb, h0, h1, hk⟩ := r
  refine runs_of B1 N1 fun S hS m hm R J c => ?_
  unfold enterS
  conv => lhs; whnf
  repeat ((first
    | refine (V_all hS).trans ?_ | refine (fV_bool _ _).trans ?_ | refine (fN_eq _ _).trans ?_ | refine (S_cons hS).trans ?_ | refine (S_nil hS).trans ?_ | refine (nxB1 hS).trans ?_ | refine (nxB0 hS).trans ?_ | refine (newBlk_eq _ _ _).trans ?_ | refine (nxNc).trans ?_ | refine (nxLe).trans ?_ | refine (nxPn hS).trans ?_ | refine (nxLs).trans ?_ | refine (nxLt).trans ?_ | refine (S_draw0 hS (by rfl) (by kernel_rfl) (by rfl)).trans ?_ | refine (S_draw2 hS (by kernel_rfl) (by rfl)).trans ?_ | refine (nxZ).trans ?_ | refine (nxT hS).trans ?_ | refine (nxF hS).trans ?_ | refine (nxAdd hS).trans ?_ | refine (nxSub hS).trans ?_ | refine (nxMul hS).trans ?_ | refine (nxShr hS).trans ?_ | refine (nxShl hS).trans ?_ | refine (nxRem hS).trans ?_ | refine (nxQuo hS).trans ?_ | refine (nxOr hS).trans ?_ | refine (nxAnd hS).trans ?_ | refine (nxCv hS).trans ?_ | refine (nxC8 hS).trans ?_
    | refine (reads_nil).trans ?_ | refine (reads_off).trans ?_ | refine (reads_pure).trans ?_ | refine (reads_loud).trans ?_ | refine (reads_alloc).trans ?_ | refine (reads_0 (by rfl)).trans ?_ | refine (reads_1 (by rfl)).trans ?_ | refine (stages_nil).trans ?_ | refine (stages_yes (by rfl) (by rfl)).trans ?_ | refine (stages_no (by rfl)).trans ?_ | refine (nxLa).trans ?_ | refine (again_s hS).trans ?_ | refine (nxEq).trans ?_ | refine (fL_eq _ _).trans ?_ | refine (nxAt).trans ?_ | refine (S_call hS fun R J c => r1 _ (by omega) R J c).trans ?_ | refine (load1 (t := 28) (by rfl) (by rfl) hb (by decide) h1 _).trans ?_); (conv => lhs; whnf))
/-- a text that is none. -/
theorem rtext_none (r : Rd h k s 0) (hs : s.length < 1073741824) (hq : rtext s = none) :
    ∃ h' s' e, 0 < e ∧ e < 100 ∧ Runs B1 44 [.pointer (some ⟨k, 0, none⟩)] h (.string ⟨⟨[]⟩⟩) h' ∧ Rd h' k s' e ∧ Same (fun j => j = k) h h' := by
  cases hl : rlen 0 s with
  | none =>
    obtain ⟨h1, e, he, he2, ⟨N1, r1⟩, a2, a3⟩ := rvarint_none r hs hl
    refine ⟨h1, s, e, he, he2, ?_, a2, a3⟩
    obtain ⟨el, z, pl, d, tr, hb, h0, h1', hk⟩ := a2
    refine runs_of B1 N1 fun S hS m hm R J c => ?_
    unfold enterS
    conv => lhs; whnf
    repeat ((first
      | refine (V_all hS).trans ?_ | refine (fV_bool _ _).trans ?_ | refine (fN_eq _ _).trans ?_ | refine (S_cons hS).trans ?_ | refine (S_nil hS).trans ?_ | refine (nxB1 hS).trans ?_ | refine (nxB0 hS).trans ?_ | refine (newBlk_eq _ _ _).trans ?_ | refine (nxNc).trans ?_ | refine (nxLe).trans ?_ | refine (nxPn hS).trans ?_ | refine (nxLs).trans ?_ | refine (nxLt).trans ?_ | refine (S_draw0 hS (by rfl) (by kernel_rfl) (by rfl)).trans ?_ | refine (S_draw2 hS (by kernel_rfl) (by rfl)).trans ?_ | refine (nxZ).trans ?_ | refine (nxT hS).trans ?_ | refine (nxF hS).trans ?_ | refine (nxAdd hS).trans ?_ | refine (nxSub hS).trans ?_ | refine (nxMul hS).trans ?_ | refine (nxShr hS).trans ?_ | refine (nxShl hS).trans ?_ | refine (nxRem hS).trans ?_ | refine (nxQuo hS).trans ?_ | refine (nxOr hS).trans ?_ | refine (nxAnd hS).trans ?_ | refine (nxCv hS).trans ?_ | refine (nxC8 hS).trans ?_
      | refine (reads_nil).trans ?_ | refine (reads_off).trans ?_ | refine (reads_pure).trans ?_ | refine (reads_loud).trans ?_ | refine (reads_alloc).trans ?_ | refine (reads_0 (by rfl)).trans ?_ | refine (reads_1 (by rfl)).trans ?_ | refine (stages_nil).trans ?_ | refine (stages_yes (by rfl) (by rfl)).trans ?_ | refine (stages_no (by rfl)).trans ?_ | refine (nxLa).trans ?_ | refine (again_s hS).trans ?_ | refine (nxEq).trans ?_ | refine (fL_eq _ _).trans ?_ | refine (nxAt).trans ?_ | refine (S_call hS fun R J c => r1 _ (by omega) R J c).trans ?_ | refine (load1 (t := 28) (by rfl) (by rfl) hb (by decide) h1' _).trans ?_); (conv => lhs; whnf))
  | some q =>
    have hn : (s.drop q).length < hor (s.take q) := by
      unfold rtext at hq
      rw [hl] at hq
      simp only at hq
      split at hq
      · assumption
      · cases hq
    obtain ⟨h1, ⟨N1, r1⟩, a2, a3⟩ := rvarint_some r hs hl
    obtain ⟨h2, ⟨N2, r2⟩, b2, b3⟩ := fault_does (e := 20) a2
    refine ⟨h2, s.drop q, 20, by decide, by decide, ?_, b2, a3.trans b3⟩
    have hl2 : (s.drop q).length < 1073741824 := by rw [List.length_drop]; omega
    obtain ⟨el, z, pl, d, tr, hb, h0, h1', hk⟩ := a2
    generalize hor (s.take q) = n at *
    generalize s.drop q = y at *
    refine runs_of B1 (N1 + N2) fun S hS m hm R J c => ?_
    unfold enterS
    conv => lhs; whnf
    repeat ((first
      | refine (V_all hS).trans ?_ | refine (fV_bool _ _).trans ?_ | refine (fN_eq _ _).trans ?_ | refine (S_cons hS).trans ?_ | refine (S_nil hS).trans ?_ | refine (nxB1 hS).trans ?_ | refine (nxB0 hS).trans ?_ | refine (newBlk_eq _ _ _).trans ?_ | refine (nxNc).trans ?_ | refine (nxLe).trans ?_ | refine (nxPn hS).trans ?_ | refine (nxLs).trans ?_ | refine (nxLt).trans ?_ | refine (S_draw0 hS (by rfl) (by kernel_rfl) (by rfl)).trans ?_ | refine (S_draw2 hS (by kernel_rfl) (by rfl)).trans ?_ | refine (nxZ).trans ?_ | refine (nxT hS).trans ?_ | refine (nxF hS).trans ?_ | refine (nxAdd hS).trans ?_ | refine (nxSub hS).trans ?_ | refine (nxMul hS).trans ?_ | refine (nxShr hS).trans ?_ | refine (nxShl hS).trans ?_ | refine (nxRem hS).trans ?_ | refine (nxQuo hS).trans ?_ | refine (nxOr hS).trans ?_ | refine (nxAnd hS).trans ?_ | refine (nxCv hS).trans ?_ | refine (nxC8 hS).trans ?_
      | refine (reads_nil).trans ?_ | refine (reads_off).trans ?_ | refine (reads_pure).trans ?_ | refine (reads_loud).trans ?_ | refine (reads_alloc).trans ?_ | refine (reads_0 (by rfl)).trans ?_ | refine (reads_1 (by rfl)).trans ?_ | refine (stages_nil).trans ?_ | refine (stages_yes (by rfl) (by rfl)).trans ?_ | refine (stages_no (by rfl)).trans ?_ | refine (nxLa).trans ?_ | refine (again_s hS).trans ?_ | refine (nxEq).trans ?_ | refine (fL_eq _ _).trans ?_ | refine (nxAt).trans ?_ | refine (S_call hS fun R J c => r1 _ (by omega) R J c).trans ?_ | refine (load1 (t := 28) (by rfl) (by rfl) hb (by decide) h1' _).trans ?_ | refine (load1 (t := 9) (by rfl) (by rfl) hb (by decide) h0 _).trans ?_ | refine (S_call hS fun R J c => r2 _ (by omega) R J c).trans ?_); (conv => lhs; whnf))
theorem rtext_some {x y : List UInt8} (r : Rd h k s 0) (hs : s.length < 1073741824) (hq : rtext s = some (x, y)) :
    ∃ h', Runs B1 44 [.pointer (some ⟨k, 0, none⟩)] h (.string ⟨⟨x⟩⟩) h' ∧ Rd h' k y 0 ∧ Same (fun j => j = k) h h' := by
  cases hl : rlen 0 s with
  | none =>
    unfold rtext at hq
    rw [hl] at hq
    cases hq
  | some q =>
    have hn : hor (s.take q) ≤ (s.drop q).length ∧ x = (s.drop q).take (hor (s.take q)) ∧ y = (s.drop q).drop (hor (s.take q)) := by
      unfold rtext at hq
      rw [hl] at hq
      simp only at hq
      split at hq
      · cases hq
      · cases hq
        exact ⟨by omega, rfl, rfl⟩
    obtain ⟨hn, hx, hy⟩ := hn
    obtain ⟨h1, ⟨N1, r1⟩, a2, a3⟩ := rvarint_some r hs hl
    have hl2 : (s.drop q).length < 1073741824 := by rw [List.length_drop]; omega
    obtain ⟨h2, ⟨N2, r2⟩, b2, b3⟩ := raw_does a2 hn hx.symm hy.symm
    refine ⟨h2, ?_, b2, a3.trans b3⟩
    obtain ⟨el, z, pl, d, tr, hb, h0, h1', hk⟩ := a2
    clear hx hy hq hl
    generalize hor (s.take q) = n at *
    generalize s.drop q = y at *
    refine runs_of B1 (N1 + N2) fun S hS m hm R J c => ?_
    unfold enterS
    conv => lhs; whnf
    repeat ((first
      | refine (V_all hS).trans ?_ | refine (fV_bool _ _).trans ?_ | refine (fN_eq _ _).trans ?_ | refine (S_cons hS).trans ?_ | refine (S_nil hS).trans ?_ | refine (nxB1 hS).trans ?_ | refine (nxB0 hS).trans ?_ | refine (newBlk_eq _ _ _).trans ?_ | refine (nxNc).trans ?_ | refine (nxLe).trans ?_ | refine (nxPn hS).trans ?_ | refine (nxLs).trans ?_ | refine (nxLt).trans ?_ | refine (S_draw0 hS (by rfl) (by kernel_rfl) (by rfl)).trans ?_ | refine (S_draw2 hS (by kernel_rfl) (by rfl)).trans ?_ | refine (nxZ).trans ?_ | refine (nxT hS).trans ?_ | refine (nxF hS).trans ?_ | refine (nxAdd hS).trans ?_ | refine (nxSub hS).trans ?_ | refine (nxMul hS).trans ?_ | refine (nxShr hS).trans ?_ | refine (nxShl hS).trans ?_ | refine (nxRem hS).trans ?_ | refine (nxQuo hS).trans ?_ | refine (nxOr hS).trans ?_ | refine (nxAnd hS).trans ?_ | refine (nxCv hS).trans ?_ | refine (nxC8 hS).trans ?_
      | refine (reads_nil).trans ?_ | refine (reads_off).trans ?_ | refine (reads_pure).trans ?_ | refine (reads_loud).trans ?_ | refine (reads_alloc).trans ?_ | refine (reads_0 (by rfl)).trans ?_ | refine (reads_1 (by rfl)).trans ?_ | refine (stages_nil).trans ?_ | refine (stages_yes (by rfl) (by rfl)).trans ?_ | refine (stages_no (by rfl)).trans ?_ | refine (nxLa).trans ?_ | refine (again_s hS).trans ?_ | refine (nxEq).trans ?_ | refine (fL_eq _ _).trans ?_ | refine (nxAt).trans ?_ | refine (S_call hS fun R J c => r1 _ (by omega) R J c).trans ?_ | refine (load1 (t := 28) (by rfl) (by rfl) hb (by decide) h1' _).trans ?_ | refine (load1 (t := 9) (by rfl) (by rfl) hb (by decide) h0 _).trans ?_ | refine (S_call hS fun R J c => r2 _ (by omega) R J c).trans ?_); (conv => lhs; whnf))
end
end Go.Proofs.YtopkigockpiggaaGreat
