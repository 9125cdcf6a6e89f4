/-
  The document's varints, texts and records, walked.
-/
import Derived.Test.YtopkigockpiggaaGreatEvSeatRecord
set_option maxRecDepth 100000
set_option linter.unusedVariables false
set_option linter.unusedSimpArgs false
open Go Go.Ev
namespace Go.Proofs.YtopkigockpiggaaGreat
attribute [local irreducible] loadAt storeAt newBlk newCells writeAt appendK binK indexAddrK indexK sliceK lenK convK fN fV fL boolK maxK zeroOf enterK drawK rowsK leK okK readsK stagesK lastK againK eqvK
theorem ref_exit {S : Stops} (hS : S.Real B1) {n : Nat} {tm : T Value} {h : Hp} {s : Value} (hf : isFull 5 tm = true) (h0 : tm.find 0 = some (.int .u64 (.ofNat n))) (h3 : tm.find 3 = some s) (hn : n < 128) :
    ∃ tm', isFull 5 tm' = true ∧ tm'.find 0 = some (.int .u64 (.ofNat n)) ∧ tm'.find 3 = some s ∧ ∀ m R J K, S.W R J (m + 20) (loopB B1 102 0) ⟨tm, h, 21, 102, none, []⟩ K = K (.exit 0) ⟨tm', h, 21, 102, none, []⟩ := by
  obtain ⟨g, rfl⟩ := full_look hf [(0, .int .u64 (.ofNat n)), (3, s)] (by simp [h0, h3])
  refine ⟨?tm, ?_, ?_, ?_, ?walk⟩
  case walk =>
    intro m R J K
    refine (S_loop hS).trans ?_
    conv => lhs; whnf
    repeat ((first
      | refine (V_all hS).trans ?_ | refine (fV_bool _ _).trans ?_ | refine (fN_eq _ _).trans ?_ | refine (S_cons hS).trans ?_ | refine (S_nil hS).trans ?_ | refine (nxB1 hS).trans ?_ | refine (nxB0 hS).trans ?_ | refine (newBlk_eq _ _ _).trans ?_ | refine (nxNc).trans ?_ | refine (nxLe).trans ?_ | refine (nxPn hS).trans ?_ | refine (nxLs).trans ?_ | refine (nxLt).trans ?_ | refine (S_draw0 hS (by rfl) (by kernel_rfl) (by rfl)).trans ?_ | refine (S_draw2 hS (by kernel_rfl) (by rfl)).trans ?_ | refine (nxZ).trans ?_ | refine (nxT hS).trans ?_ | refine (nxF hS).trans ?_ | refine (nxAdd hS).trans ?_ | refine (nxSub hS).trans ?_ | refine (nxMul hS).trans ?_ | refine (nxShr hS).trans ?_ | refine (nxShl hS).trans ?_ | refine (nxRem hS).trans ?_ | refine (nxQuo hS).trans ?_ | refine (nxOr hS).trans ?_ | refine (nxAnd hS).trans ?_ | refine (nxCv hS).trans ?_ | refine (nxC8 hS).trans ?_
      | refine (reads_nil).trans ?_ | refine (reads_off).trans ?_ | refine (reads_pure).trans ?_ | refine (reads_loud).trans ?_ | refine (reads_alloc).trans ?_ | refine (reads_0 (by rfl)).trans ?_ | refine (reads_1 (by rfl)).trans ?_ | refine (stages_nil).trans ?_ | refine (stages_yes (by rfl) (by rfl)).trans ?_ | refine (stages_no (by rfl)).trans ?_ | refine (nxLa).trans ?_ | refine (again_s hS).trans ?_ | refine (nxEq).trans ?_ | refine (fL_eq _ _).trans ?_ | refine (nxAt).trans ?_); (conv => lhs; whnf))
  all_goals rfl
theorem ref_step {S : Stops} (hS : S.Real B1) {n : Nat} {tm : T Value} {h h2 : Hp} {s s2 : Value} (hf : isFull 5 tm = true) (h0 : tm.find 0 = some (.int .u64 (.ofNat n))) (h3 : tm.find 3 = some s) (hn : 128 ≤ n) (hlt : n < 18446744073709551616)
    (ha : ∀ (R : Type) (c : Value → Hp → An R), appendK B1 128 128 s (.slice (some ⟨h.next, 0, none⟩) 1 1) ⟨h.t.put h.next (some (.cells 1 5 1 true true undef (putL [.int .u8 (.ofNat (n % 128 + 128))] 0 .nil))), h.next + 1⟩ c = c s2 h2) :
    ∃ tm', isFull 5 tm' = true ∧ tm'.find 0 = some (.int .u64 (.ofNat (n / 128))) ∧ tm'.find 3 = some s2 ∧ ∀ m R J K, S.W R J (m + 20) (loopB B1 102 0) ⟨tm, h, 21, 102, none, []⟩ K = S.W R J (m + 19) (loopB B1 102 0) ⟨tm', h2, 21, 102, none, []⟩ K := by
  obtain ⟨g, rfl⟩ := full_look hf [(0, .int .u64 (.ofNat n)), (3, s)] (by simp [h0, h3])
  refine ⟨?tm, ?_, ?_, ?_, ?walk⟩
  case walk =>
    intro m R J K
    refine (S_loop hS).trans ?_
    conv => lhs; whnf
    repeat ((first
      | refine (V_all hS).trans ?_ | refine (fV_bool _ _).trans ?_ | refine (fN_eq _ _).trans ?_ | refine (S_cons hS).trans ?_ | refine (S_nil hS).trans ?_ | refine (nxB1 hS).trans ?_ | refine (nxB0 hS).trans ?_ | refine (newBlk_eq _ _ _).trans ?_ | refine (nxNc).trans ?_ | refine (nxLe).trans ?_ | refine (nxPn hS).trans ?_ | refine (nxLs).trans ?_ | refine (nxLt).trans ?_ | refine (S_draw0 hS (by rfl) (by kernel_rfl) (by rfl)).trans ?_ | refine (S_draw2 hS (by kernel_rfl) (by rfl)).trans ?_ | refine (nxZ).trans ?_ | refine (nxT hS).trans ?_ | refine (nxF hS).trans ?_ | refine (nxAdd hS).trans ?_ | refine (nxSub hS).trans ?_ | refine (nxMul hS).trans ?_ | refine (nxShr hS).trans ?_ | refine (nxShl hS).trans ?_ | refine (nxRem hS).trans ?_ | refine (nxQuo hS).trans ?_ | refine (nxOr hS).trans ?_ | refine (nxAnd hS).trans ?_ | refine (nxCv hS).trans ?_ | refine (nxC8 hS).trans ?_
      | refine (reads_nil).trans ?_ | refine (reads_off).trans ?_ | refine (reads_pure).trans ?_ | refine (reads_loud).trans ?_ | refine (reads_alloc).trans ?_ | refine (reads_0 (by rfl)).trans ?_ | refine (reads_1 (by rfl)).trans ?_ | refine (stages_nil).trans ?_ | refine (stages_yes (by rfl) (by rfl)).trans ?_ | refine (stages_no (by rfl)).trans ?_ | refine (nxLa).trans ?_ | refine (again_s hS).trans ?_ | refine (nxEq).trans ?_ | refine (fL_eq _ _).trans ?_ | refine (nxAt).trans ?_ | refine (ha _ _).trans ?_); (conv => lhs; whnf))
  all_goals rfl
theorem ref_loop {S : Stops} (hS : S.Real B1) : ∀ (n : Nat) {tm : T Value} {h : Hp} {s : Value} {L : List Value}, isFull 5 tm = true → tm.find 0 = some (.int .u64 (.ofNat n)) → tm.find 3 = some s → Mine h s 5 1 L.length L → L.all cellOk = true →
    n < 18446744073709551616 → L.length + (vari n).length ≤ 1073741824 →
    ∃ n' pre tm' s' h', n' < 128 ∧ vari n = pre ++ [UInt8.ofNat n'] ∧ isFull 5 tm' = true ∧ tm'.find 0 = some (.int .u64 (.ofNat n')) ∧ tm'.find 3 = some s' ∧ Mine h' s' 5 1 (L ++ bys pre).length (L ++ bys pre) ∧ Same (fun j => blkOf s = some j) h h' ∧
      (∀ k, blkOf s' = some k → h.next ≤ k ∨ blkOf s = some k) ∧ ∀ m, pre.length + 20 ≤ m → ∀ R J K, S.W R J m (loopB B1 102 0) ⟨tm, h, 21, 102, none, []⟩ K = K (.exit 0) ⟨tm', h', 21, 102, none, []⟩ := by
  intro n
  induction n using Nat.strongRecOn with
  | ind n ih =>
    intro tm h s L hf h0 h3 hm hL hlt hlen
    by_cases hn : n < 128
    · obtain ⟨tm', hf', h0', h3', hw⟩ := ref_exit (h := h) hS hf h0 h3 hn
      refine ⟨n, [], tm', s, h, hn, vari_lt hn, hf', h0', h3', by simpa [bys] using hm, Same.refl h, fun k hk => .inr hk, fun m hm R J K => ?_⟩
      obtain ⟨q, rfl⟩ : ∃ q, m = q + 20 := ⟨m - 20, by simp at hm; omega⟩
      exact hw q R J K
    · have hn : 128 ≤ n := by omega
      rw [vari_ge hn, List.length_cons] at hlen
      let v : Value := .int .u8 (.ofNat (n % 128 + 128))
      let h1 : Hp := ⟨h.t.put h.next (some (.cells 1 5 1 true true undef (putL [v] 0 .nil))), h.next + 1⟩
      have hs1 : Same (fun _ => False) h h1 := same_one _ h _
      obtain ⟨s2, h2, ha, hm2, hsm, hnx, hb2⟩ := append_span A8 u128 (hm.same hs1 fun _ _ e => e) (span_one h 5 v 1) hL rfl (by omega)
      obtain ⟨tm2, hf2, h02, h32, hw2⟩ := ref_step hS hf h0 h3 hn hlt ha
      have hlv : (L ++ [v]).length = L.length + 1 := by simp
      rw [← hlv] at hm2
      obtain ⟨n', pre, tm', s', h', a1, a2, a3, a4, a5, a6, a7, a8, a9⟩ := ih (n / 128) (by omega) hf2 h02 h32 hm2 (by rw [List.all_append, hL]; rfl) (by omega) (by rw [hlv]; omega)
      have hv : bys (UInt8.ofNat (n % 128 + 128) :: pre) = v :: bys pre := by
        show Value.int .u8 (.ofNat (UInt8.ofNat (n % 128 + 128)).toNat) :: bys pre = _
        rw [byte_toNat (by omega)]
      have hbk : ∀ k, blkOf s2 = some k → h.next ≤ k ∨ blkOf s = some k := fun k hk => by
        rcases hb2 k hk with e | e
        · left; rw [e]; exact Nat.le_succ _
        · exact .inr e
      refine ⟨n', UInt8.ofNat (n % 128 + 128) :: pre, tm', s', h', a1, by rw [vari_ge hn, a2]; rfl, a3, a4, a5, ?_, ?_, ?_, fun m hm R J K => ?_⟩
      · rw [hv]
        simpa using a6
      · refine ⟨Nat.le_trans hs1.1 (Nat.le_trans hsm.1 a7.1), fun j hj hjs => ?_⟩
        have hj1 : j < h1.next := Nat.lt_of_lt_of_le hj hs1.1
        rw [a7.2 j (Nat.lt_of_lt_of_le hj1 hsm.1) (fun e => by
          rcases hbk j e with e | e
          · omega
          · exact hjs e), hsm.2 j hj1 hjs, hs1.2 j hj (fun e => e)]
      · intro k hk
        rcases a8 k hk with e | e
        · left; exact Nat.le_trans (Nat.le_trans hs1.1 hsm.1) e
        · exact hbk k e
      · rw [List.length_cons] at hm
        obtain ⟨q, rfl⟩ : ∃ q, m = q + 20 := ⟨m - 20, by omega⟩
        rw [hw2]
        exact a9 (q + 19) (by omega) R J K
theorem refVarint_does {n : Nat} (hlt : n < 18446744073709551616) (h : Hp) : ∃ h', Runs B1 102 [.int .u64 (.ofNat n)] h (.string ⟨⟨vari n⟩⟩) h' ∧ Same (fun _ => False) h h' := by
  have hlen : (vari n).length ≤ 10 := vari_len 9 n (Nat.lt_of_lt_of_le hlt (by decide))
  let tm0 : T Value := (((fullT 5).put 0 (some (.int .u64 (.ofNat n)))).put 2 (some (.string ⟨⟨[]⟩⟩))).put 3 (some (.slice none 0 0))
  obtain ⟨n', pre, tm', s', h', a1, a2, a3, a4, a5, a6, a7, a8, a9⟩ := ref_loop (stops_real B1) n (tm := tm0) (h := h) rfl rfl rfl (Mine.nil h 5 1) rfl hlt (by simp; omega)
  obtain ⟨g, rfl⟩ := full_look a3 [(0, .int .u64 (.ofNat n')), (3, s')] (by simp [a4, a5])
  simp only [List.nil_append] at a6
  have hl : (bys pre).length + 1 ≤ 1073741824 := by rw [bys_length]; rw [a2] at hlen; simp at hlen; omega
  let v : Value := .int .u8 (.ofNat n')
  let h1 : Hp := ⟨h'.t.put h'.next (some (.cells 1 5 1 true true undef (putL [v] 0 .nil))), h'.next + 1⟩
  have hs1 : Same (fun _ => False) h' h1 := same_one _ h' _
  obtain ⟨s2, h2, ha, hm2, hsm, hnx, hb2⟩ := append_span A8 u128 (a6.same hs1 fun _ _ e => e) (span_one h' 5 v 1) (bys_ok pre) rfl hl
  have hbk : ∀ k, blkOf s' = some k → h.next ≤ k := fun k hk => by
    rcases a8 k hk with e | e
    · exact e
    · cases e
  have hv : bys (vari n) = bys pre ++ [v] := by
    rw [a2, bys_append]
    show _ ++ [Value.int .u8 (.ofNat (UInt8.ofNat n').toNat)] = _
    rw [byte_toNat (by omega)]
  have sAll : Same (fun j => h.next ≤ j) h h2 :=
    ((a7.mono fun j _ e => by cases e).trans (hs1.mono fun j _ e => e.elim)).trans (hsm.mono fun j _ e => hbk j e)
  rw [← hv] at hm2
  refine ⟨h2, runs_of B1 pre.length fun S hS m hm R J c => ?_, sAll.mono fun j hj e => by omega⟩
  unfold enterS
  conv => lhs; whnf
  repeat ((first
    | refine (V_all hS).trans ?_ | refine (fV_bool _ _).trans ?_ | refine (fN_eq _ _).trans ?_ | refine (S_cons hS).trans ?_ | refine (S_nil hS).trans ?_ | refine (nxB1 hS).trans ?_ | refine (nxB0 hS).trans ?_ | refine (newBlk_eq _ _ _).trans ?_ | refine (nxNc).trans ?_ | refine (nxLe).trans ?_ | refine (nxPn hS).trans ?_ | refine (nxLs).trans ?_ | refine (nxLt).trans ?_ | refine (S_draw0 hS (by rfl) (by kernel_rfl) (by rfl)).trans ?_ | refine (S_draw2 hS (by kernel_rfl) (by rfl)).trans ?_ | refine (nxZ).trans ?_ | refine (nxT hS).trans ?_ | refine (nxF hS).trans ?_ | refine (nxAdd hS).trans ?_ | refine (nxSub hS).trans ?_ | refine (nxMul hS).trans ?_ | refine (nxShr hS).trans ?_ | refine (nxShl hS).trans ?_ | refine (nxRem hS).trans ?_ | refine (nxQuo hS).trans ?_ | refine (nxOr hS).trans ?_ | refine (nxAnd hS).trans ?_ | refine (nxCv hS).trans ?_ | refine (nxC8 hS).trans ?_
    | refine (reads_nil).trans ?_ | refine (reads_off).trans ?_ | refine (reads_pure).trans ?_ | refine (reads_loud).trans ?_ | refine (reads_alloc).trans ?_ | refine (reads_0 (by rfl)).trans ?_ | refine (reads_1 (by rfl)).trans ?_ | refine (stages_nil).trans ?_ | refine (stages_yes (by rfl) (by rfl)).trans ?_ | refine (stages_no (by rfl)).trans ?_ | refine (nxLa).trans ?_ | refine (again_s hS).trans ?_ | refine (nxEq).trans ?_ | refine (fL_eq _ _).trans ?_ | refine (nxAt).trans ?_); (conv => lhs; whnf))
  refine (S_run hS (x := ?_) ?_).trans ?_
  rotate_left
  · refine a9 _ ?_ R J _
    omega
  conv => lhs; whnf
  repeat ((first
    | refine (V_all hS).trans ?_ | refine (fV_bool _ _).trans ?_ | refine (fN_eq _ _).trans ?_ | refine (S_cons hS).trans ?_ | refine (S_nil hS).trans ?_ | refine (nxB1 hS).trans ?_ | refine (nxB0 hS).trans ?_ | refine (newBlk_eq _ _ _).trans ?_ | refine (nxNc).trans ?_ | refine (nxLe).trans ?_ | refine (nxPn hS).trans ?_ | refine (nxLs).trans ?_ | refine (nxLt).trans ?_ | refine (S_draw0 hS (by rfl) (by kernel_rfl) (by rfl)).trans ?_ | refine (S_draw2 hS (by kernel_rfl) (by rfl)).trans ?_ | refine (nxZ).trans ?_ | refine (nxT hS).trans ?_ | refine (nxF hS).trans ?_ | refine (nxAdd hS).trans ?_ | refine (nxSub hS).trans ?_ | refine (nxMul hS).trans ?_ | refine (nxShr hS).trans ?_ | refine (nxShl hS).trans ?_ | refine (nxRem hS).trans ?_ | refine (nxQuo hS).trans ?_ | refine (nxOr hS).trans ?_ | refine (nxAnd hS).trans ?_ | refine (nxCv hS).trans ?_ | refine (nxC8 hS).trans ?_
    | refine (reads_nil).trans ?_ | refine (reads_off).trans ?_ | refine (reads_pure).trans ?_ | refine (reads_loud).trans ?_ | refine (reads_alloc).trans ?_ | refine (reads_0 (by rfl)).trans ?_ | refine (reads_1 (by rfl)).trans ?_ | refine (stages_nil).trans ?_ | refine (stages_yes (by rfl) (by rfl)).trans ?_ | refine (stages_no (by rfl)).trans ?_ | refine (nxLa).trans ?_ | refine (again_s hS).trans ?_ | refine (nxEq).trans ?_ | refine (fL_eq _ _).trans ?_ | refine (nxAt).trans ?_ | refine (ha _ _).trans ?_ | refine (cv hS (conv_text (by rfl) (by rfl) (by rfl) hm2.span _)).trans ?_); (conv => lhs; whnf))
theorem refText_does {l : List UInt8} (hl : l.length < 1073741824) (h : Hp) : ∃ h', Runs B1 46 [.string ⟨⟨l⟩⟩] h (.string ⟨⟨vari l.length ++ l⟩⟩) h' ∧ Same (fun _ => False) h h' := by
  have hlen : (vari l.length).length ≤ 10 := vari_len 9 _ (Nat.lt_of_lt_of_le hl (by decide))
  obtain ⟨h1, ⟨N, r1⟩, s1⟩ := refVarint_does (n := l.length) (by omega) h
  refine ⟨h1, runs_of B1 N fun S hS m hm R J c => ?_, s1⟩
  unfold enterS
  conv => lhs; whnf
  repeat ((first
    | refine (V_all hS).trans ?_ | refine (fV_bool _ _).trans ?_ | refine (fN_eq _ _).trans ?_ | refine (S_cons hS).trans ?_ | refine (S_nil hS).trans ?_ | refine (nxB1 hS).trans ?_ | refine (nxB0 hS).trans ?_ | refine (newBlk_eq _ _ _).trans ?_ | refine (nxNc).trans ?_ | refine (nxLe).trans ?_ | refine (nxPn hS).trans ?_ | refine (nxLs).trans ?_ | refine (nxLt).trans ?_ | refine (S_draw0 hS (by rfl) (by kernel_rfl) (by rfl)).trans ?_ | refine (S_draw2 hS (by kernel_rfl) (by rfl)).trans ?_ | refine (nxZ).trans ?_ | refine (nxT hS).trans ?_ | refine (nxF hS).trans ?_ | refine (nxAdd hS).trans ?_ | refine (nxSub hS).trans ?_ | refine (nxMul hS).trans ?_ | refine (nxShr hS).trans ?_ | refine (nxShl hS).trans ?_ | refine (nxRem hS).trans ?_ | refine (nxQuo hS).trans ?_ | refine (nxOr hS).trans ?_ | refine (nxAnd hS).trans ?_ | refine (nxCv hS).trans ?_ | refine (nxC8 hS).trans ?_
    | refine (reads_nil).trans ?_ | refine (reads_off).trans ?_ | refine (reads_pure).trans ?_ | refine (reads_loud).trans ?_ | refine (reads_alloc).trans ?_ | refine (reads_0 (by rfl)).trans ?_ | refine (reads_1 (by rfl)).trans ?_ | refine (stages_nil).trans ?_ | refine (stages_yes (by rfl) (by rfl)).trans ?_ | refine (stages_no (by rfl)).trans ?_ | refine (nxLa).trans ?_ | refine (again_s hS).trans ?_ | refine (nxEq).trans ?_ | refine (fL_eq _ _).trans ?_ | refine (nxAt).trans ?_ | refine (S_call hS fun R J c => r1 _ (by omega) R J c).trans ?_ | refine (b2 hS (add_str (by omega) _)).trans ?_); (conv => lhs; whnf))
end Go.Proofs.YtopkigockpiggaaGreat
