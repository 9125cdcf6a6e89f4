/-
  The functions of package codec, walked by the evaluator with unknown values.
-/
import Derived.Test.YtopkigockpiggaaGreatEvSeatTabs
import Derived.Test.YtopkigockpiggaaGreatEvStop
set_option maxRecDepth 100000
set_option linter.unusedVariables false
set_option linter.unusedSimpArgs false
open Go Go.Ev
namespace Go.Proofs.YtopkigockpiggaaGreat
/-- the table: lives is told. -/
noncomputable abbrev B1 : Tab := tabOf [6] [] [(6, told [] (.bool true))] []
attribute [local irreducible] loadAt storeAt newBlk newCells writeAt appendK binK indexAddrK indexK sliceK lenK convK fN fV fL boolK maxK zeroOf enterK drawK rowsK leK okK readsK stagesK lastK againK eqvK
abbrev unit : Value := .tuple ⟨[]⟩
theorem u5 : B1.un.find 5 = some (.int .u8) := by rfl
theorem u128 : B1.un.find 128 = some (.slice 5) := by rfl
theorem u9 : B1.un.find 9 = some .string := by rfl
noncomputable def A8 : AppT B1 128 5 1 := ⟨Tryz.t5, .int .u8 0, u128, by rfl, by rfl, by decide +kernel, by rfl, by rfl, by rfl, by decide⟩
/-- a writer with room, that holds bytes; F: the blocks that are its own. -/
noncomputable def Wr (h : Hp) (k : Nat) (F : Nat → Prop) (most : Nat) (L : List Value) : Prop :=
  ∃ e z pl tr s, h.t.find k = some (.cells 3 e z true pl undef tr) ∧ tr.find 0 = some (.int .i64 (.ofNat most)) ∧ tr.find 1 = some s ∧ tr.find 2 = some (.bool false) ∧ Mine h s 5 1 L.length L ∧ L.all cellOk = true ∧ F k ∧ k < h.next ∧
    ∀ j, blkOf s = some j → F j ∧ j ≠ k
theorem Wr.mono {h : Hp} {k most : Nat} {F F' : Nat → Prop} {L : List Value} (w : Wr h k F most L) (hF : ∀ j, j < h.next → F j → F' j) : Wr h k F' most L := by
  obtain ⟨e, z, pl, tr, s, hb, h0, h1, h2, ho, hL, hk0, hk, hs⟩ := w
  exact ⟨e, z, pl, tr, s, hb, h0, h1, h2, ho, hL, hF k hk hk0, hk, fun j hj => ⟨hF j (own_old ho j hj) (hs j hj).1, (hs j hj).2⟩⟩
theorem Wr.same {h h' : Hp} {k most : Nat} {F : Nat → Prop} {L : List Value} {S : Nat → Prop} (w : Wr h k F most L) (s : Same S h h') (hs : ∀ j, j < h.next → S j → ¬ F j) : Wr h' k F most L := by
  obtain ⟨e, z, pl, tr, s', hb, h0, h1, h2, ho, hL, hk0, hk, hs'⟩ := w
  exact ⟨e, z, pl, tr, s', (s.2 k hk fun e => hs k hk e hk0).trans hb, h0, h1, h2, ho.same s fun j hj e => hs j (own_old ho j hj) e (hs' j hj).1, hL, hk0, Nat.lt_of_lt_of_le hk s.1, hs'⟩
theorem put_does {h : Hp} {k most : Nat} {F : Nat → Prop} {L : List Value} {x : Value} {m : Nat} {M : List Value} (w : Wr h k F most L) (hx : Span h x 1 m M) (hM : M.all cellOk = true) (hn : L.length + m ≤ most) (hmost : most ≤ 1073741824) :
    ∃ h', Runs B1 96 [.pointer (some ⟨k, 0, none⟩), x] h unit h' ∧ Wr h' k (fun j => F j ∨ h.next ≤ j) most (L ++ M) ∧ Same F h h' := by
  obtain ⟨e, z, pl, tr, s, hb, h0, h1, h2, ho, hL, hk0, hk, hs⟩ := w
  obtain ⟨s', h', hap, ho', hsame, hnx, hb'⟩ := append_span A8 u128 ho hx hL hM (by omega)
  obtain ⟨xb, xc, rfl⟩ : ∃ b c, x = .slice b m c := by rcases hx.2 with ⟨rfl, cap, rfl⟩ | ⟨k, off, cap, _, _, _, _, _, _, rfl, _⟩ <;> exact ⟨_, _, rfl⟩
  obtain ⟨sb, sc, rfl⟩ : ∃ b c, s = .slice b L.length c := by
    rcases ho.2 with ⟨h0, rfl⟩ | ⟨k, _, _, rfl, _⟩
    · rw [h0]; exact ⟨_, _, rfl⟩
    · exact ⟨_, _, rfl⟩
  have hb2 : h'.t.find k = some (.cells 3 e z true pl undef tr) := (hsame.2 k hk fun e => (hs k e).2 rfl).trans hb
  refine ⟨⟨h'.t.put k (some (.cells 3 e z true pl undef (putL [s'] 1 tr))), h'.next⟩, runs_of B1 0 fun S hS n _ R J c => ?_, ?_, ?_⟩
  · unfold enterS
    conv => lhs; whnf
    repeat ((first
      | refine (V_all hS).trans ?_ | refine (fV_bool _ _).trans ?_ | refine (fN_eq _ _).trans ?_ | refine (S_cons hS).trans ?_ | refine (S_nil hS).trans ?_ | refine (nxB1 hS).trans ?_ | refine (nxB0 hS).trans ?_ | refine (newBlk_eq _ _ _).trans ?_ | refine (nxNc).trans ?_ | refine (nxLe).trans ?_ | refine (nxPn hS).trans ?_ | refine (nxLs).trans ?_ | refine (nxLt).trans ?_ | refine (S_draw0 hS (by rfl) (by kernel_rfl) (by rfl)).trans ?_ | refine (S_draw2 hS (by kernel_rfl) (by rfl)).trans ?_ | refine (nxZ).trans ?_ | refine (nxT hS).trans ?_ | refine (nxF hS).trans ?_ | refine (nxAdd hS).trans ?_ | refine (nxSub hS).trans ?_ | refine (nxMul hS).trans ?_ | refine (nxShr hS).trans ?_ | refine (nxShl hS).trans ?_ | refine (nxRem hS).trans ?_ | refine (nxQuo hS).trans ?_ | refine (nxOr hS).trans ?_ | refine (nxAnd hS).trans ?_ | refine (nxCv hS).trans ?_ | refine (nxC8 hS).trans ?_
      | refine (reads_nil).trans ?_ | refine (reads_off).trans ?_ | refine (reads_pure).trans ?_ | refine (reads_loud).trans ?_ | refine (reads_alloc).trans ?_ | refine (reads_0 (by rfl)).trans ?_ | refine (reads_1 (by rfl)).trans ?_ | refine (stages_nil).trans ?_ | refine (stages_yes (by rfl) (by rfl)).trans ?_ | refine (stages_no (by rfl)).trans ?_ | refine (nxLa).trans ?_ | refine (again_s hS).trans ?_ | refine (nxEq).trans ?_ | refine (fL_eq _ _).trans ?_ | refine (nxAt).trans ?_ | refine (load1 (t := 4) (by rfl) (by rfl) hb (by decide) h2 _).trans ?_ | refine (load1 (t := 3) (by rfl) (by rfl) hb (by decide) h0 _).trans ?_ | refine (load1 (t := 128) (by rfl) (by rfl) hb (by decide) h1 _).trans ?_ | refine (hap _ _).trans ?_); (conv => lhs; whnf))
    refine (store_eq (t := 128) (L := [s']) (by rfl) hb2 ?_ (by rfl) (by decide) ?_ _).trans ?_
    · rcases ho'.2 with ⟨_, rfl⟩ | ⟨_, _, _, rfl, _⟩ <;> rfl
    · rcases ho'.2 with ⟨_, rfl⟩ | ⟨_, _, _, rfl, _⟩ <;> rfl
    conv => lhs; whnf
    repeat ((first
      | refine (V_all hS).trans ?_ | refine (fV_bool _ _).trans ?_ | refine (fN_eq _ _).trans ?_ | refine (S_cons hS).trans ?_ | refine (S_nil hS).trans ?_ | refine (nxB1 hS).trans ?_ | refine (nxB0 hS).trans ?_ | refine (newBlk_eq _ _ _).trans ?_ | refine (nxNc).trans ?_ | refine (nxLe).trans ?_ | refine (nxPn hS).trans ?_ | refine (nxLs).trans ?_ | refine (nxLt).trans ?_ | refine (S_draw0 hS (by rfl) (by kernel_rfl) (by rfl)).trans ?_ | refine (S_draw2 hS (by kernel_rfl) (by rfl)).trans ?_ | refine (nxZ).trans ?_ | refine (nxT hS).trans ?_ | refine (nxF hS).trans ?_ | refine (nxAdd hS).trans ?_ | refine (nxSub hS).trans ?_ | refine (nxMul hS).trans ?_ | refine (nxShr hS).trans ?_ | refine (nxShl hS).trans ?_ | refine (nxRem hS).trans ?_ | refine (nxQuo hS).trans ?_ | refine (nxOr hS).trans ?_ | refine (nxAnd hS).trans ?_ | refine (nxCv hS).trans ?_ | refine (nxC8 hS).trans ?_
      | refine (reads_nil).trans ?_ | refine (reads_off).trans ?_ | refine (reads_pure).trans ?_ | refine (reads_loud).trans ?_ | refine (reads_alloc).trans ?_ | refine (reads_0 (by rfl)).trans ?_ | refine (reads_1 (by rfl)).trans ?_ | refine (stages_nil).trans ?_ | refine (stages_yes (by rfl) (by rfl)).trans ?_ | refine (stages_no (by rfl)).trans ?_ | refine (nxLa).trans ?_ | refine (again_s hS).trans ?_ | refine (nxEq).trans ?_ | refine (fL_eq _ _).trans ?_ | refine (nxAt).trans ?_); (conv => lhs; whnf))
    rfl
  · have hnk : k < h'.next := Nat.lt_of_lt_of_le hk hsame.1
    have hk2 : ∀ j, blkOf s' = some j → (F j ∨ h.next ≤ j) ∧ j ≠ k := fun j hj => by
      rcases hb' j hj with rfl | h
      · exact ⟨.inr (Nat.le_refl _), by omega⟩
      · exact ⟨.inl (hs j h).1, (hs j h).2⟩
    have hso : Same (fun j => j = k) h' ⟨h'.t.put k (some (.cells 3 e z true pl undef (putL [s'] 1 tr))), h'.next⟩ :=
      ⟨Nat.le_refl _, fun j _ hj => by show (h'.t.put _ _).find _ = _; rw [T.find_put, if_neg hj]⟩
    refine ⟨e, z, pl, putL [s'] 1 tr, s', ?_, ?_, ?_, ?_, ?_, ?_, .inl hk0, hnk, hk2⟩
    · show (h'.t.put _ _).find _ = _
      rw [T.find_put, if_pos rfl]
    · rw [find_putL, if_neg (by simp), h0]
    · rw [find_putL, if_pos (by simp)]
      rfl
    · rw [find_putL, if_neg (by simp), h2]
    · have : (L ++ M).length = L.length + m := by rw [List.length_append, hx.1, Nat.mul_one]
      rw [this]
      exact ho'.same hso fun j hj e => (hk2 j hj).2 e
    · rw [List.all_append, hL, hM]; rfl
  · refine ⟨hsame.1, fun j hj hs' => ?_⟩
    show (h'.t.put _ _).find _ = _
    rw [T.find_put, if_neg (by intro e; subst e; exact hs' hk0)]
    exact hsame.2 j hj fun e => hs' (hs j e).1
/-- the heap, one block more. -/
theorem same_new (S : Nat → Prop) (h : Hp) (b : Option Blk) : Same S h ⟨h.t.put h.next b, h.next + 1⟩ :=
  ⟨Nat.le_succ _, fun j hj _ => by show (h.t.put _ _).find _ = _; rw [T.find_put, if_neg (by omega)]⟩
theorem same_new2 (S : Nat → Prop) (h : Hp) (b b' : Option Blk) : Same S h ⟨(h.t.put h.next b).put h.next b', h.next + 1⟩ :=
  ⟨Nat.le_succ _, fun j hj _ => by show ((h.t.put _ _).put _ _).find _ = _; rw [T.find_put, if_neg (by omega), T.find_put, if_neg (by omega)]⟩
theorem number8_does {h : Hp} {k most : Nat} {F : Nat → Prop} {L : List Value} {b : Nat} (w : Wr h k F most L) (hb : b < 256) (hn : L.length + 1 ≤ most) (hmost : most ≤ 1073741824) :
    ∃ h', Runs B1 95 [.pointer (some ⟨k, 0, none⟩), .int .u8 (.ofNat b), .int .i64 (.ofNat 1)] h unit h' ∧ Wr h' k (fun j => F j ∨ h.next ≤ j) most (L ++ [.int .u8 (.ofNat b)]) ∧ Same F h h' := by
  let h2 : Hp := ⟨(h.t.put h.next (some (.cells 1 5 1 true true (.int .u8 (.ofNat 0)) .nil))).put h.next (some (.cells 1 5 1 true true (.int .u8 (.ofNat 0)) (putL [.int .u8 (.ofNat b)] 0 .nil))), h.next + 1⟩
  have s2 : Same (fun _ => False) h h2 := same_new2 _ h _ _
  have f2 : h2.t.find h.next = some (.cells 1 5 1 true true (.int .u8 (.ofNat 0)) (putL [.int .u8 (.ofNat b)] 0 .nil)) := by show ((h.t.put _ _).put _ _).find _ = _; rw [T.find_put, if_pos rfl]
  have x2 : Span h2 (.slice (some ⟨h.next, 0, none⟩) 1 1) 1 1 [.int .u8 (.ofNat b)] :=
    ⟨rfl, .inr ⟨h.next, 0, 1, 1, 5, true, true, _, _, rfl, Nat.lt_succ_self _, f2, by decide, fun i hi => by
      have hi : i < 1 := hi
      obtain rfl : i = 0 := by omega
      rfl⟩⟩
  obtain ⟨h3, ⟨N, r3⟩, w3, s3⟩ := put_does (w.same s2 fun j _ hj => hj.elim) x2 rfl hn hmost
  refine ⟨h3, runs_of B1 N fun S hS n hnN R J c => ?_, w3.mono fun j _ hj => hj.imp id (Nat.le_trans (Nat.le_succ _)), (s2.mono fun j _ hj => hj.elim).trans s3⟩
  unfold enterS
  conv => lhs; whnf
  repeat ((first
    | refine (V_all hS).trans ?_ | refine (fV_bool _ _).trans ?_ | refine (fN_eq _ _).trans ?_ | refine (S_cons hS).trans ?_ | refine (S_nil hS).trans ?_ | refine (nxB1 hS).trans ?_ | refine (nxB0 hS).trans ?_ | refine (newBlk_eq _ _ _).trans ?_ | refine (nxNc).trans ?_ | refine (nxLe).trans ?_ | refine (nxPn hS).trans ?_ | refine (nxLs).trans ?_ | refine (nxLt).trans ?_ | refine (S_draw0 hS (by rfl) (by kernel_rfl) (by rfl)).trans ?_ | refine (S_draw2 hS (by kernel_rfl) (by rfl)).trans ?_ | refine (nxZ).trans ?_ | refine (nxT hS).trans ?_ | refine (nxF hS).trans ?_ | refine (nxAdd hS).trans ?_ | refine (nxSub hS).trans ?_ | refine (nxMul hS).trans ?_ | refine (nxShr hS).trans ?_ | refine (nxShl hS).trans ?_ | refine (nxRem hS).trans ?_ | refine (nxQuo hS).trans ?_ | refine (nxOr hS).trans ?_ | refine (nxAnd hS).trans ?_ | refine (nxCv hS).trans ?_ | refine (nxC8 hS).trans ?_
    | refine (reads_nil).trans ?_ | refine (reads_off).trans ?_ | refine (reads_pure).trans ?_ | refine (reads_loud).trans ?_ | refine (reads_alloc).trans ?_ | refine (reads_0 (by rfl)).trans ?_ | refine (reads_1 (by rfl)).trans ?_ | refine (stages_nil).trans ?_ | refine (stages_yes (by rfl) (by rfl)).trans ?_ | refine (stages_no (by rfl)).trans ?_ | refine (nxLa).trans ?_ | refine (again_s hS).trans ?_ | refine (nxEq).trans ?_ | refine (fL_eq _ _).trans ?_ | refine (nxAt).trans ?_ | refine (S_loop hS).trans ?_ | refine (store_eq (t := 5) (by rfl) (by show (h.t.put _ _).find _ = _; rw [T.find_put, if_pos rfl]) rfl (by rfl) (by decide) rfl _).trans ?_ | refine (S_call (h' := h3) (v := unit) hS fun R J c => r3 _ (by omega) R J c).trans ?_); (conv => lhs; whnf))
theorem u8_does {h : Hp} {k most : Nat} {F : Nat → Prop} {L : List Value} {b : Nat} (w : Wr h k F most L) (hb : b < 256) (hn : L.length + 1 ≤ most) (hmost : most ≤ 1073741824) :
    ∃ h', Runs B1 38 [.pointer (some ⟨k, 0, none⟩), .int .u8 (.ofNat b)] h unit h' ∧ Wr h' k (fun j => F j ∨ h.next ≤ j) most (L ++ [.int .u8 (.ofNat b)]) ∧ Same F h h' := by
  obtain ⟨h3, ⟨N, r3⟩, w3, s3⟩ := number8_does w hb hn hmost
  refine ⟨h3, runs_of B1 N fun S hS n hnN R J c => ?_, w3, s3⟩
  unfold enterS
  conv => lhs; whnf
  repeat ((first
    | refine (V_all hS).trans ?_ | refine (fV_bool _ _).trans ?_ | refine (fN_eq _ _).trans ?_ | refine (S_cons hS).trans ?_ | refine (S_nil hS).trans ?_ | refine (nxB1 hS).trans ?_ | refine (nxB0 hS).trans ?_ | refine (newBlk_eq _ _ _).trans ?_ | refine (nxNc).trans ?_ | refine (nxLe).trans ?_ | refine (nxPn hS).trans ?_ | refine (nxLs).trans ?_ | refine (nxLt).trans ?_ | refine (S_draw0 hS (by rfl) (by kernel_rfl) (by rfl)).trans ?_ | refine (S_draw2 hS (by kernel_rfl) (by rfl)).trans ?_ | refine (nxZ).trans ?_ | refine (nxT hS).trans ?_ | refine (nxF hS).trans ?_ | refine (nxAdd hS).trans ?_ | refine (nxSub hS).trans ?_ | refine (nxMul hS).trans ?_ | refine (nxShr hS).trans ?_ | refine (nxShl hS).trans ?_ | refine (nxRem hS).trans ?_ | refine (nxQuo hS).trans ?_ | refine (nxOr hS).trans ?_ | refine (nxAnd hS).trans ?_ | refine (nxCv hS).trans ?_ | refine (nxC8 hS).trans ?_
    | refine (reads_nil).trans ?_ | refine (reads_off).trans ?_ | refine (reads_pure).trans ?_ | refine (reads_loud).trans ?_ | refine (reads_alloc).trans ?_ | refine (reads_0 (by rfl)).trans ?_ | refine (reads_1 (by rfl)).trans ?_ | refine (stages_nil).trans ?_ | refine (stages_yes (by rfl) (by rfl)).trans ?_ | refine (stages_no (by rfl)).trans ?_ | refine (nxLa).trans ?_ | refine (again_s hS).trans ?_ | refine (nxEq).trans ?_ | refine (fL_eq _ _).trans ?_ | refine (nxAt).trans ?_ | refine (S_call (h' := h3) (v := unit) hS fun R J c => r3 _ (by omega) R J c).trans ?_); (conv => lhs; whnf))
end Go.Proofs.YtopkigockpiggaaGreat
set_option maxRecDepth 100000
set_option linter.unusedVariables false
open Go Go.Ev
namespace Go.Proofs.YtopkigockpiggaaGreat
attribute [local irreducible] loadAt storeAt newBlk newCells writeAt appendK binK indexAddrK indexK sliceK lenK convK fN fV fL boolK maxK zeroOf enterK drawK rowsK leK okK readsK stagesK lastK againK eqvK
/-- a number in groups of 7 bits. -/
noncomputable def vari (n : Nat) : List UInt8 := if h : n < 128 then [UInt8.ofNat n] else UInt8.ofNat (n % 128 + 128) :: vari (n / 128)
termination_by n
decreasing_by omega
theorem buildByte_same (h : Hp) (b : Nat) : True := trivial
theorem varint_exit {S : Stops} (hS : S.Real B1) {n : Nat} {tm : T Value} {h : Hp} {s : Value} (hf : isFull 5 tm = true) (h0 : tm.find 0 = some (.int .u64 (.ofNat n))) (h3 : tm.find 3 = some s) (hn : n < 128) :
    ∃ tm', isFull 5 tm' = true ∧ tm'.find 0 = some (.int .u64 (.ofNat n)) ∧ tm'.find 3 = some s ∧ ∀ m R J K, S.W R J (m + 20) (loopB B1 97 0) ⟨tm, h, 19, 97, none, []⟩ K = K (.exit 0) ⟨tm', h, 19, 97, none, []⟩ := by
  obtain ⟨g, rfl⟩ := full_look hf [(0, .int .u64 (.ofNat n)), (3, s)] (by simp [h0, h3])
  refine ⟨?tm, ?_, ?_, ?_, ?walk⟩
  case walk =>
    intro m R J K
    refine (S_loop hS).trans ?_
    conv => lhs; whnf
    repeat ((first
      | refine (V_all hS).trans ?_ | refine (fV_bool _ _).trans ?_ | refine (fN_eq _ _).trans ?_ | refine (S_cons hS).trans ?_ | refine (S_nil hS).trans ?_ | refine (nxB1 hS).trans ?_ | refine (nxB0 hS).trans ?_ | refine (newBlk_eq _ _ _).trans ?_ | refine (nxNc).trans ?_ | refine (nxLe).trans ?_ | refine (nxPn hS).trans ?_ | refine (nxLs).trans ?_ | refine (nxLt).trans ?_ | refine (S_draw0 hS (by rfl) (by kernel_rfl) (by rfl)).trans ?_ | refine (S_draw2 hS (by kernel_rfl) (by rfl)).trans ?_ | refine (nxZ).trans ?_ | refine (nxT hS).trans ?_ | refine (nxF hS).trans ?_ | refine (nxAdd hS).trans ?_ | refine (nxSub hS).trans ?_ | refine (nxMul hS).trans ?_ | refine (nxShr hS).trans ?_ | refine (nxShl hS).trans ?_ | refine (nxRem hS).trans ?_ | refine (nxQuo hS).trans ?_ | refine (nxOr hS).trans ?_ | refine (nxAnd hS).trans ?_ | refine (nxCv hS).trans ?_ | refine (nxC8 hS).trans ?_
      | refine (reads_nil).trans ?_ | refine (reads_off).trans ?_ | refine (reads_pure).trans ?_ | refine (reads_loud).trans ?_ | refine (reads_alloc).trans ?_ | refine (reads_0 (by rfl)).trans ?_ | refine (reads_1 (by rfl)).trans ?_ | refine (stages_nil).trans ?_ | refine (stages_yes (by rfl) (by rfl)).trans ?_ | refine (stages_no (by rfl)).trans ?_ | refine (nxLa).trans ?_ | refine (again_s hS).trans ?_ | refine (nxEq).trans ?_ | refine (fL_eq _ _).trans ?_ | refine (nxAt).trans ?_); (conv => lhs; whnf))
  all_goals rfl
theorem varint_step {S : Stops} (hS : S.Real B1) {n : Nat} {tm : T Value} {h h2 : Hp} {s s2 : Value} (hf : isFull 5 tm = true) (h0 : tm.find 0 = some (.int .u64 (.ofNat n))) (h3 : tm.find 3 = some s) (hn : 128 ≤ n) (hlt : n < 18446744073709551616)
    (ha : ∀ (R : Type) (c : Value → Hp → An R), appendK B1 128 128 s (.slice (some ⟨h.next, 0, none⟩) 1 1) ⟨h.t.put h.next (some (.cells 1 5 1 true true undef (putL [.int .u8 (.ofNat (n % 256 ||| 128))] 0 .nil))), h.next + 1⟩ c = c s2 h2) :
    ∃ tm', isFull 5 tm' = true ∧ tm'.find 0 = some (.int .u64 (.ofNat (n >>> 7))) ∧ tm'.find 3 = some s2 ∧ ∀ m R J K, S.W R J (m + 20) (loopB B1 97 0) ⟨tm, h, 19, 97, none, []⟩ K = S.W R J (m + 19) (loopB B1 97 0) ⟨tm', h2, 19, 97, none, []⟩ K := by
  obtain ⟨g, rfl⟩ := full_look hf [(0, .int .u64 (.ofNat n)), (3, s)] (by simp [h0, h3])
  refine ⟨?tm, ?_, ?_, ?_, ?walk⟩
  case walk =>
    intro m R J K
    refine (S_loop hS).trans ?_
    conv => lhs; whnf
    repeat ((first
      | refine (V_all hS).trans ?_ | refine (fV_bool _ _).trans ?_ | refine (fN_eq _ _).trans ?_ | refine (S_cons hS).trans ?_ | refine (S_nil hS).trans ?_ | refine (nxB1 hS).trans ?_ | refine (nxB0 hS).trans ?_ | refine (newBlk_eq _ _ _).trans ?_ | refine (nxNc).trans ?_ | refine (nxLe).trans ?_ | refine (nxPn hS).trans ?_ | refine (nxLs).trans ?_ | refine (nxLt).trans ?_ | refine (S_draw0 hS (by rfl) (by kernel_rfl) (by rfl)).trans ?_ | refine (S_draw2 hS (by kernel_rfl) (by rfl)).trans ?_ | refine (nxZ).trans ?_ | refine (nxT hS).trans ?_ | refine (nxF hS).trans ?_ | refine (nxAdd hS).trans ?_ | refine (nxSub hS).trans ?_ | refine (nxMul hS).trans ?_ | refine (nxShr hS).trans ?_ | refine (nxShl hS).trans ?_ | refine (nxRem hS).trans ?_ | refine (nxQuo hS).trans ?_ | refine (nxOr hS).trans ?_ | refine (nxAnd hS).trans ?_ | refine (nxCv hS).trans ?_ | refine (nxC8 hS).trans ?_
      | refine (reads_nil).trans ?_ | refine (reads_off).trans ?_ | refine (reads_pure).trans ?_ | refine (reads_loud).trans ?_ | refine (reads_alloc).trans ?_ | refine (reads_0 (by rfl)).trans ?_ | refine (reads_1 (by rfl)).trans ?_ | refine (stages_nil).trans ?_ | refine (stages_yes (by rfl) (by rfl)).trans ?_ | refine (stages_no (by rfl)).trans ?_ | refine (nxLa).trans ?_ | refine (again_s hS).trans ?_ | refine (nxEq).trans ?_ | refine (fL_eq _ _).trans ?_ | refine (nxAt).trans ?_ | refine (ha _ _).trans ?_); (conv => lhs; whnf))
  all_goals rfl
theorem vari_lt {n : Nat} (h : n < 128) : vari n = [UInt8.ofNat n] := by rw [vari, dif_pos h]
theorem vari_ge {n : Nat} (h : 128 ≤ n) : vari n = UInt8.ofNat (n % 128 + 128) :: vari (n / 128) := by rw [vari, dif_neg (by omega)]
theorem or128 (n : Nat) : n % 256 ||| 128 = n % 128 + 128 := by
  have h : ∀ m, m < 256 → m ||| 128 = m % 128 + 128 := by decide +kernel
  rw [h _ (Nat.mod_lt _ (by decide))]
  omega
theorem byte_toNat {n : Nat} (h : n < 256) : (UInt8.ofNat n).toNat = n := by
  rw [UInt8.toNat_ofNat']
  exact Nat.mod_eq_of_lt h
theorem vari_len : ∀ (k n : Nat), n < 128 ^ (k + 1) → (vari n).length ≤ k + 1
  | 0, n, h => by rw [vari_lt (by simpa using h)]; simp
  | k + 1, n, h => by
    by_cases hn : n < 128
    · rw [vari_lt hn]; simp
    · rw [vari_ge (by omega), List.length_cons]
      have := vari_len k (n / 128) (by rw [Nat.pow_succ] at h; exact Nat.div_lt_of_lt_mul (by rw [Nat.mul_comm]; exact h))
      omega
theorem same_one (S : Nat → Prop) (h : Hp) (b : Blk) : Same S h ⟨h.t.put h.next (some b), h.next + 1⟩ := same_new S h _
/-- one cell, in a block of its own. -/
theorem span_one (h : Hp) (el : TypeId) (v : Value) (cap : Nat) : Span ⟨h.t.put h.next (some (.cells 1 el 1 true true undef (putL [v] 0 .nil))), h.next + 1⟩ (.slice (some ⟨h.next, 0, none⟩) 1 cap) 1 1 [v] :=
  ⟨rfl, .inr ⟨h.next, 0, cap, 1, el, true, true, undef, _, rfl, Nat.lt_succ_self _, by show (h.t.put _ _).find _ = _; rw [T.find_put, if_pos rfl], by decide, fun i hi => by
    have hi : i < 1 := hi
    obtain rfl : i = 0 := by omega
    rfl⟩⟩
theorem varint_loop {S : Stops} (hS : S.Real B1) : ∀ (n : Nat) {tm : T Value} {h : Hp} {s : Value} {L : List Value}, isFull 5 tm = true → tm.find 0 = some (.int .u64 (.ofNat n)) → tm.find 3 = some s → Mine h s 5 1 L.length L → L.all cellOk = true →
    n < 18446744073709551616 → L.length + (vari n).length ≤ 1073741824 →
    ∃ n' pre tm' s' h', n' < 128 ∧ vari n = pre ++ [UInt8.ofNat n'] ∧ isFull 5 tm' = true ∧ tm'.find 0 = some (.int .u64 (.ofNat n')) ∧ tm'.find 3 = some s' ∧ Mine h' s' 5 1 (L ++ bys pre).length (L ++ bys pre) ∧ Same (fun j => blkOf s = some j) h h' ∧
      (∀ k, blkOf s' = some k → h.next ≤ k ∨ blkOf s = some k) ∧ ∀ m, ∀ R J K, S.W R J (m + pre.length + 20) (loopB B1 97 0) ⟨tm, h, 19, 97, none, []⟩ K = K (.exit 0) ⟨tm', h', 19, 97, none, []⟩ := by
  intro n
  induction n using Nat.strongRecOn with
  | ind n ih =>
    intro tm h s L hf h0 h3 hm hL hlt hlen
    by_cases hn : n < 128
    · obtain ⟨tm', hf', h0', h3', hw⟩ := varint_exit hS hf h0 h3 hn
      exact ⟨n, [], tm', s, h, hn, vari_lt hn, hf', h0', h3', by simpa [bys] using hm, Same.refl h, fun k hk => .inr hk, fun m R J K => hw m R J K⟩
    · have hn : 128 ≤ n := by omega
      rw [vari_ge hn, List.length_cons] at hlen
      let v : Value := .int .u8 (.ofNat (n % 256 ||| 128))
      let h1 : Hp := ⟨h.t.put h.next (some (.cells 1 5 1 true true undef (putL [v] 0 .nil))), h.next + 1⟩
      have hs1 : Same (fun _ => False) h h1 := same_one _ h _
      obtain ⟨s2, h2, ha, hm2, hsm, hnx, hb2⟩ := append_span A8 u128 (hm.same hs1 fun _ _ e => e) (span_one h 5 v 1) hL rfl (by omega)
      obtain ⟨tm2, hf2, h02, h32, hw2⟩ := varint_step hS hf h0 h3 hn hlt ha
      have e7 : n >>> 7 = n / 128 := by rw [Nat.shiftRight_eq_div_pow]
      rw [e7] at h02
      have hlv : (L ++ [v]).length = L.length + 1 := by simp
      rw [← hlv] at hm2
      obtain ⟨n', pre, tm', s', h', a1, a2, a3, a4, a5, a6, a7, a8, a9⟩ := ih (n / 128) (by omega) hf2 h02 h32 hm2 (by rw [List.all_append, hL]; rfl) (by omega) (by rw [hlv]; omega)
      have hv : bys (UInt8.ofNat (n % 128 + 128) :: pre) = v :: bys pre := by
        show Value.int .u8 (.ofNat (UInt8.ofNat (n % 128 + 128)).toNat) :: bys pre = _
        rw [byte_toNat (by omega), ← or128]
      have hbk : ∀ k, blkOf s2 = some k → h.next ≤ k ∨ blkOf s = some k := fun k hk => by
        rcases hb2 k hk with e | e
        · left; rw [e]; exact Nat.le_succ _
        · exact .inr e
      refine ⟨n', UInt8.ofNat (n % 128 + 128) :: pre, tm', s', h', a1, by rw [vari_ge hn, a2]; rfl, a3, a4, a5, ?_, ?_, ?_, fun m R J K => ?_⟩
      · rw [hv]
        simpa using a6
      · refine ⟨Nat.le_trans hs1.1 (Nat.le_trans hsm.1 a7.1), fun j hj hjs => ?_⟩
        have hj1 : j < h1.next := Nat.lt_of_lt_of_le hj hs1.1
        rw [a7.2 j (Nat.lt_of_lt_of_le hj1 hsm.1) (fun e => by
          rcases hbk j e with e | e
          · omega
          · exact hjs e), hsm.2 j hj1 hjs, hs1.2 j hj (fun e => e)]
      · intro k hk
        rcases a8 k hk with e | e
        · left; exact Nat.le_trans (Nat.le_trans hs1.1 hsm.1) e
        · exact hbk k e
      · rw [List.length_cons]
        have e1 : m + (pre.length + 1) + 20 = (m + pre.length + 1) + 20 := by omega
        rw [e1, hw2]
        have e2 : m + pre.length + 1 + 19 = m + pre.length + 20 := by omega
        rw [e2]
        exact a9 m R J K
theorem varint_does {n : Nat} (hlt : n < 18446744073709551616) (h : Hp) : ∃ s' h', Runs B1 97 [.int .u64 (.ofNat n)] h s' h' ∧ Mine h' s' 5 1 (bys (vari n)).length (bys (vari n)) ∧ Same (fun _ => False) h h' ∧ ∀ k, blkOf s' = some k → h.next ≤ k := by
  have hlen : (vari n).length ≤ 10 := vari_len 9 n (Nat.lt_of_lt_of_le hlt (by decide))
  let tm0 : T Value := (((fullT 5).put 0 (some (.int .u64 (.ofNat n)))).put 2 (some (.slice none 0 0))).put 3 (some (.slice none 0 0))
  obtain ⟨n', pre, tm', s', h', a1, a2, a3, a4, a5, a6, a7, a8, a9⟩ := varint_loop (stops_real B1) n (tm := tm0) (h := h) rfl rfl rfl (Mine.nil h 5 1) rfl hlt (by simp; omega)
  obtain ⟨g, rfl⟩ := full_look a3 [(0, .int .u64 (.ofNat n')), (3, s')] (by simp [a4, a5])
  simp only [List.nil_append] at a6
  have hl : (bys pre).length + 1 ≤ 1073741824 := by rw [bys_length]; rw [a2] at hlen; simp at hlen; omega
  let v : Value := .int .u8 (.ofNat n')
  let h1 : Hp := ⟨h'.t.put h'.next (some (.cells 1 5 1 true true undef (putL [v] 0 .nil))), h'.next + 1⟩
  have hs1 : Same (fun _ => False) h' h1 := same_one _ h' _
  obtain ⟨s2, h2, ha, hm2, hsm, hnx, hb2⟩ := append_span A8 u128 (a6.same hs1 fun _ _ e => e) (span_one h' 5 v 1) (bys_ok pre) rfl hl
  have hbk : ∀ k, blkOf s' = some k → h.next ≤ k := fun k hk => by
    rcases a8 k hk with e | e
    · exact e
    · cases e
  have hv : bys (vari n) = bys pre ++ [v] := by
    rw [a2, bys_append]
    show _ ++ [Value.int .u8 (.ofNat (UInt8.ofNat n').toNat)] = _
    rw [byte_toNat (by omega)]
  have sAll : Same (fun j => h.next ≤ j) h h2 :=
    ((a7.mono fun j _ e => by cases e).trans (hs1.mono fun j _ e => e.elim)).trans (hsm.mono fun j _ e => hbk j e)
  refine ⟨s2, h2, runs_of B1 pre.length fun S hS m hm R J c => ?_, ?_, sAll.mono fun j hj e => by omega, fun k hk => ?_⟩
  · unfold enterS
    conv => lhs; whnf
    repeat ((first
      | refine (V_all hS).trans ?_ | refine (fV_bool _ _).trans ?_ | refine (fN_eq _ _).trans ?_ | refine (S_cons hS).trans ?_ | refine (S_nil hS).trans ?_ | refine (nxB1 hS).trans ?_ | refine (nxB0 hS).trans ?_ | refine (newBlk_eq _ _ _).trans ?_ | refine (nxNc).trans ?_ | refine (nxLe).trans ?_ | refine (nxPn hS).trans ?_ | refine (nxLs).trans ?_ | refine (nxLt).trans ?_ | refine (S_draw0 hS (by rfl) (by kernel_rfl) (by rfl)).trans ?_ | refine (S_draw2 hS (by kernel_rfl) (by rfl)).trans ?_ | refine (nxZ).trans ?_ | refine (nxT hS).trans ?_ | refine (nxF hS).trans ?_ | refine (nxAdd hS).trans ?_ | refine (nxSub hS).trans ?_ | refine (nxMul hS).trans ?_ | refine (nxShr hS).trans ?_ | refine (nxShl hS).trans ?_ | refine (nxRem hS).trans ?_ | refine (nxQuo hS).trans ?_ | refine (nxOr hS).trans ?_ | refine (nxAnd hS).trans ?_ | refine (nxCv hS).trans ?_ | refine (nxC8 hS).trans ?_
      | refine (reads_nil).trans ?_ | refine (reads_off).trans ?_ | refine (reads_pure).trans ?_ | refine (reads_loud).trans ?_ | refine (reads_alloc).trans ?_ | refine (reads_0 (by rfl)).trans ?_ | refine (reads_1 (by rfl)).trans ?_ | refine (stages_nil).trans ?_ | refine (stages_yes (by rfl) (by rfl)).trans ?_ | refine (stages_no (by rfl)).trans ?_ | refine (nxLa).trans ?_ | refine (again_s hS).trans ?_ | refine (nxEq).trans ?_ | refine (fL_eq _ _).trans ?_ | refine (nxAt).trans ?_); (conv => lhs; whnf))
    refine (S_run hS (x := ?_) ?_).trans ?_
    rotate_left
    · obtain ⟨q, e⟩ : ∃ q, m + 55 + 1 = q + pre.length + 20 := ⟨m + 56 - pre.length - 20, by omega⟩
      rw [e]
      exact a9 q R J _
    conv => lhs; whnf
    repeat ((first
      | refine (V_all hS).trans ?_ | refine (fV_bool _ _).trans ?_ | refine (fN_eq _ _).trans ?_ | refine (S_cons hS).trans ?_ | refine (S_nil hS).trans ?_ | refine (nxB1 hS).trans ?_ | refine (nxB0 hS).trans ?_ | refine (newBlk_eq _ _ _).trans ?_ | refine (nxNc).trans ?_ | refine (nxLe).trans ?_ | refine (nxPn hS).trans ?_ | refine (nxLs).trans ?_ | refine (nxLt).trans ?_ | refine (S_draw0 hS (by rfl) (by kernel_rfl) (by rfl)).trans ?_ | refine (S_draw2 hS (by kernel_rfl) (by rfl)).trans ?_ | refine (nxZ).trans ?_ | refine (nxT hS).trans ?_ | refine (nxF hS).trans ?_ | refine (nxAdd hS).trans ?_ | refine (nxSub hS).trans ?_ | refine (nxMul hS).trans ?_ | refine (nxShr hS).trans ?_ | refine (nxShl hS).trans ?_ | refine (nxRem hS).trans ?_ | refine (nxQuo hS).trans ?_ | refine (nxOr hS).trans ?_ | refine (nxAnd hS).trans ?_ | refine (nxCv hS).trans ?_ | refine (nxC8 hS).trans ?_
      | refine (reads_nil).trans ?_ | refine (reads_off).trans ?_ | refine (reads_pure).trans ?_ | refine (reads_loud).trans ?_ | refine (reads_alloc).trans ?_ | refine (reads_0 (by rfl)).trans ?_ | refine (reads_1 (by rfl)).trans ?_ | refine (stages_nil).trans ?_ | refine (stages_yes (by rfl) (by rfl)).trans ?_ | refine (stages_no (by rfl)).trans ?_ | refine (nxLa).trans ?_ | refine (again_s hS).trans ?_ | refine (nxEq).trans ?_ | refine (fL_eq _ _).trans ?_ | refine (nxAt).trans ?_ | refine (ha _ _).trans ?_); (conv => lhs; whnf))
  · rw [hv]
    simpa using hm2
  · rcases hb2 k hk with e | e
    · have := a7.1
      have := hs1.1
      omega
    · exact hbk k e
theorem text_does {h : Hp} {k most : Nat} {F : Nat → Prop} {L : List Value} {l : List UInt8} (w : Wr h k F most L) (hl : l.length < 9223372036854775808) (hn : L.length + ((vari l.length).length + l.length) ≤ most) (hmost : most ≤ 1073741824) :
    ∃ h', Runs B1 39 [.pointer (some ⟨k, 0, none⟩), .string ⟨⟨l⟩⟩] h unit h' ∧ Wr h' k (fun j => F j ∨ h.next ≤ j) most (L ++ bys (vari l.length ++ l)) ∧ Same F h h' := by
  obtain ⟨s1, h1, ⟨N1, r1⟩, m1, e1, b1⟩ := varint_does (n := l.length) (by omega) h
  obtain ⟨s2, h2, ha, m2, e2, nx2, b2⟩ := append_str (xT := 9) A8 u9 (l := l) m1 (bys_ok _) (by rw [bys_length]; omega)
  have e2' : Same (fun _ => False) h h2 := ⟨Nat.le_trans e1.1 e2.1, fun j hj _ => (e2.2 j (Nat.lt_of_lt_of_le hj e1.1) fun e => by have := b1 j e; omega).trans (e1.2 j hj fun e => e)⟩
  have w2 := w.same e2' fun j _ e => e.elim
  rw [← bys_append] at m2
  have hx : Span h2 s2 1 (vari l.length ++ l).length (bys (vari l.length ++ l)) := by
    have := m2.span
    rwa [bys_length, ← List.length_append] at this
  obtain ⟨h3, ⟨N3, r3⟩, w3, e3⟩ := put_does w2 hx (bys_ok _) (by rw [List.length_append]; exact hn) hmost
  refine ⟨h3, runs_of B1 (N1 + N3) fun S hS m hm R J c => ?_, w3.mono fun j _ hj => hj.imp id (Nat.le_trans e2'.1), (e2'.mono fun j _ e => e.elim).trans e3⟩
  unfold enterS
  conv => lhs; whnf
  repeat ((first
    | refine (V_all hS).trans ?_ | refine (fV_bool _ _).trans ?_ | refine (fN_eq _ _).trans ?_ | refine (S_cons hS).trans ?_ | refine (S_nil hS).trans ?_ | refine (nxB1 hS).trans ?_ | refine (nxB0 hS).trans ?_ | refine (newBlk_eq _ _ _).trans ?_ | refine (nxNc).trans ?_ | refine (nxLe).trans ?_ | refine (nxPn hS).trans ?_ | refine (nxLs).trans ?_ | refine (nxLt).trans ?_ | refine (S_draw0 hS (by rfl) (by kernel_rfl) (by rfl)).trans ?_ | refine (S_draw2 hS (by kernel_rfl) (by rfl)).trans ?_ | refine (nxZ).trans ?_ | refine (nxT hS).trans ?_ | refine (nxF hS).trans ?_ | refine (nxAdd hS).trans ?_ | refine (nxSub hS).trans ?_ | refine (nxMul hS).trans ?_ | refine (nxShr hS).trans ?_ | refine (nxShl hS).trans ?_ | refine (nxRem hS).trans ?_ | refine (nxQuo hS).trans ?_ | refine (nxOr hS).trans ?_ | refine (nxAnd hS).trans ?_ | refine (nxCv hS).trans ?_ | refine (nxC8 hS).trans ?_
    | refine (reads_nil).trans ?_ | refine (reads_off).trans ?_ | refine (reads_pure).trans ?_ | refine (reads_loud).trans ?_ | refine (reads_alloc).trans ?_ | refine (reads_0 (by rfl)).trans ?_ | refine (reads_1 (by rfl)).trans ?_ | refine (stages_nil).trans ?_ | refine (stages_yes (by rfl) (by rfl)).trans ?_ | refine (stages_no (by rfl)).trans ?_ | refine (nxLa).trans ?_ | refine (again_s hS).trans ?_ | refine (nxEq).trans ?_ | refine (fL_eq _ _).trans ?_ | refine (nxAt).trans ?_ | refine (S_call hS fun R J c => r1 _ (by omega) R J c).trans ?_ | refine (ha _ _).trans ?_ | refine (S_call hS fun R J c => r3 _ (by omega) R J c).trans ?_); (conv => lhs; whnf))
/-- the bytes that were written. -/
theorem done_does {h : Hp} {k most : Nat} {F : Nat → Prop} {l : List UInt8} (w : Wr h k F most (bys l)) : Runs B1 40 [.pointer (some ⟨k, 0, none⟩)] h (.tuple ⟨[.string ⟨⟨l⟩⟩, .int .i64 (.ofNat 0)]⟩) h := by
  obtain ⟨e, z, pl, tr, s, hb, h0, h1, h2, ho, hL, hk0, hk, hs⟩ := w
  refine runs_of B1 0 fun S hS m hm R J c => ?_
  unfold enterS
  conv => lhs; whnf
  repeat ((first
    | refine (V_all hS).trans ?_ | refine (fV_bool _ _).trans ?_ | refine (fN_eq _ _).trans ?_ | refine (S_cons hS).trans ?_ | refine (S_nil hS).trans ?_ | refine (nxB1 hS).trans ?_ | refine (nxB0 hS).trans ?_ | refine (newBlk_eq _ _ _).trans ?_ | refine (nxNc).trans ?_ | refine (nxLe).trans ?_ | refine (nxPn hS).trans ?_ | refine (nxLs).trans ?_ | refine (nxLt).trans ?_ | refine (S_draw0 hS (by rfl) (by kernel_rfl) (by rfl)).trans ?_ | refine (S_draw2 hS (by kernel_rfl) (by rfl)).trans ?_ | refine (nxZ).trans ?_ | refine (nxT hS).trans ?_ | refine (nxF hS).trans ?_ | refine (nxAdd hS).trans ?_ | refine (nxSub hS).trans ?_ | refine (nxMul hS).trans ?_ | refine (nxShr hS).trans ?_ | refine (nxShl hS).trans ?_ | refine (nxRem hS).trans ?_ | refine (nxQuo hS).trans ?_ | refine (nxOr hS).trans ?_ | refine (nxAnd hS).trans ?_ | refine (nxCv hS).trans ?_ | refine (nxC8 hS).trans ?_
    | refine (reads_nil).trans ?_ | refine (reads_off).trans ?_ | refine (reads_pure).trans ?_ | refine (reads_loud).trans ?_ | refine (reads_alloc).trans ?_ | refine (reads_0 (by rfl)).trans ?_ | refine (reads_1 (by rfl)).trans ?_ | refine (stages_nil).trans ?_ | refine (stages_yes (by rfl) (by rfl)).trans ?_ | refine (stages_no (by rfl)).trans ?_ | refine (nxLa).trans ?_ | refine (again_s hS).trans ?_ | refine (nxEq).trans ?_ | refine (fL_eq _ _).trans ?_ | refine (nxAt).trans ?_ | refine (load1 (t := 4) (by rfl) (by rfl) hb (by decide) h2 _).trans ?_ | refine (load1 (t := 128) (by rfl) (by rfl) hb (by decide) h1 _).trans ?_ | refine (cv hS (conv_text (by rfl) (by rfl) (by rfl) ho.span _)).trans ?_); (conv => lhs; whnf))
  rfl
theorem newWriter_does {most : Nat} (h : Hp) : ∃ h', Runs B1 37 [.int .i64 (.ofNat most)] h (.pointer (some ⟨h.next, 0, none⟩)) h' ∧ Wr h' h.next (fun j => j = h.next) most [] ∧ Same (fun _ => False) h h' := by
  refine ⟨⟨h.t.put h.next (some (.cells 3 165 1 true true undef (putL [.int .i64 (.ofNat most), .slice none 0 0, .bool false] 0 .nil))), h.next + 1⟩, runs_of B1 0 fun S hS m hm R J c => ?_, ?_, same_new _ h _⟩
  · unfold enterS
    conv => lhs; whnf
    repeat ((first
      | refine (V_all hS).trans ?_ | refine (fV_bool _ _).trans ?_ | refine (fN_eq _ _).trans ?_ | refine (S_cons hS).trans ?_ | refine (S_nil hS).trans ?_ | refine (nxB1 hS).trans ?_ | refine (nxB0 hS).trans ?_ | refine (newBlk_eq _ _ _).trans ?_ | refine (nxNc).trans ?_ | refine (nxLe).trans ?_ | refine (nxPn hS).trans ?_ | refine (nxLs).trans ?_ | refine (nxLt).trans ?_ | refine (S_draw0 hS (by rfl) (by kernel_rfl) (by rfl)).trans ?_ | refine (S_draw2 hS (by kernel_rfl) (by rfl)).trans ?_ | refine (nxZ).trans ?_ | refine (nxT hS).trans ?_ | refine (nxF hS).trans ?_ | refine (nxAdd hS).trans ?_ | refine (nxSub hS).trans ?_ | refine (nxMul hS).trans ?_ | refine (nxShr hS).trans ?_ | refine (nxShl hS).trans ?_ | refine (nxRem hS).trans ?_ | refine (nxQuo hS).trans ?_ | refine (nxOr hS).trans ?_ | refine (nxAnd hS).trans ?_ | refine (nxCv hS).trans ?_ | refine (nxC8 hS).trans ?_
      | refine (reads_nil).trans ?_ | refine (reads_off).trans ?_ | refine (reads_pure).trans ?_ | refine (reads_loud).trans ?_ | refine (reads_alloc).trans ?_ | refine (reads_0 (by rfl)).trans ?_ | refine (reads_1 (by rfl)).trans ?_ | refine (stages_nil).trans ?_ | refine (stages_yes (by rfl) (by rfl)).trans ?_ | refine (stages_no (by rfl)).trans ?_ | refine (nxLa).trans ?_ | refine (again_s hS).trans ?_ | refine (nxEq).trans ?_ | refine (fL_eq _ _).trans ?_ | refine (nxAt).trans ?_ | refine (max_0 _).trans ?_); (conv => lhs; whnf))
    rfl
  · refine ⟨165, 1, true, _, .slice none 0 0, by show (h.t.put _ _).find _ = _; rw [T.find_put, if_pos rfl], rfl, rfl, rfl, Mine.nil _ _ _, rfl, rfl, Nat.lt_succ_self _, fun j e => by cases e⟩
end Go.Proofs.YtopkigockpiggaaGreat
set_option maxRecDepth 100000
set_option linter.unusedVariables false
open Go Go.Ev
namespace Go.Proofs.YtopkigockpiggaaGreat
attribute [local irreducible] loadAt storeAt newBlk newCells writeAt appendK binK indexAddrK indexK sliceK lenK convK fN fV fL boolK maxK zeroOf enterK drawK rowsK leK okK readsK stagesK lastK againK eqvK
/-- a reader: what is left, the first fault. -/
noncomputable def Rd (h : Hp) (k : Nat) (s : List UInt8) (e : Nat) : Prop :=
  ∃ el z pl d tr, h.t.find k = some (.cells 2 el z true pl d tr) ∧ tr.find 0 = some (.string ⟨⟨s⟩⟩) ∧ tr.find 1 = some (.int .i64 (.ofNat e)) ∧ k < h.next
theorem Rd.same {h h' : Hp} {k e : Nat} {s : List UInt8} {S : Nat → Prop} (r : Rd h k s e) (x : Same S h h') (hk : ¬ S k) : Rd h' k s e := by
  obtain ⟨el, z, pl, d, tr, hb, h0, h1, hn⟩ := r
  exact ⟨el, z, pl, d, tr, (x.2 k hn hk).trans hb, h0, h1, Nat.lt_of_lt_of_le hn x.1⟩
/-- a block, written over. -/
noncomputable abbrev wr (h : Hp) (k : Nat) (b : Blk) : Hp := ⟨h.t.put k (some b), h.next⟩
theorem wr_same (h : Hp) (k : Nat) (b : Blk) : Same (fun j => j = k) h (wr h k b) :=
  ⟨Nat.le_refl _, fun j hj hs => by show (h.t.put _ _).find _ = _; rw [T.find_put, if_neg hs]⟩
theorem wr_at (h : Hp) (k : Nat) (b : Blk) : (wr h k b).t.find k = some b := by show (h.t.put _ _).find _ = _; rw [T.find_put, if_pos rfl]
theorem newReader_does (s : List UInt8) (h : Hp) : ∃ h', Runs B1 41 [.string ⟨⟨s⟩⟩] h (.pointer (some ⟨h.next, 0, none⟩)) h' ∧ Rd h' h.next s 0 ∧ Same (fun _ => False) h h' := by
  refine ⟨⟨h.t.put h.next (some (.cells 2 170 1 true true undef (putL [.string ⟨⟨s⟩⟩, .int .i64 (.ofNat 0)] 0 .nil))), h.next + 1⟩, runs_of B1 0 fun S hS m hm R J c => ?_, ?_, same_new _ h _⟩
  · unfold enterS
    conv => lhs; whnf
    repeat ((first
      | refine (V_all hS).trans ?_ | refine (fV_bool _ _).trans ?_ | refine (fN_eq _ _).trans ?_ | refine (S_cons hS).trans ?_ | refine (S_nil hS).trans ?_ | refine (nxB1 hS).trans ?_ | refine (nxB0 hS).trans ?_ | refine (newBlk_eq _ _ _).trans ?_ | refine (nxNc).trans ?_ | refine (nxLe).trans ?_ | refine (nxPn hS).trans ?_ | refine (nxLs).trans ?_ | refine (nxLt).trans ?_ | refine (S_draw0 hS (by rfl) (by kernel_rfl) (by rfl)).trans ?_ | refine (S_draw2 hS (by kernel_rfl) (by rfl)).trans ?_ | refine (nxZ).trans ?_ | refine (nxT hS).trans ?_ | refine (nxF hS).trans ?_ | refine (nxAdd hS).trans ?_ | refine (nxSub hS).trans ?_ | refine (nxMul hS).trans ?_ | refine (nxShr hS).trans ?_ | refine (nxShl hS).trans ?_ | refine (nxRem hS).trans ?_ | refine (nxQuo hS).trans ?_ | refine (nxOr hS).trans ?_ | refine (nxAnd hS).trans ?_ | refine (nxCv hS).trans ?_ | refine (nxC8 hS).trans ?_
      | refine (reads_nil).trans ?_ | refine (reads_off).trans ?_ | refine (reads_pure).trans ?_ | refine (reads_loud).trans ?_ | refine (reads_alloc).trans ?_ | refine (reads_0 (by rfl)).trans ?_ | refine (reads_1 (by rfl)).trans ?_ | refine (stages_nil).trans ?_ | refine (stages_yes (by rfl) (by rfl)).trans ?_ | refine (stages_no (by rfl)).trans ?_ | refine (nxLa).trans ?_ | refine (again_s hS).trans ?_ | refine (nxEq).trans ?_ | refine (fL_eq _ _).trans ?_ | refine (nxAt).trans ?_); (conv => lhs; whnf))
    rfl
  · exact ⟨170, 1, true, _, _, by show (h.t.put _ _).find _ = _; rw [T.find_put, if_pos rfl], rfl, rfl, Nat.lt_succ_self _⟩
theorem left_does {h : Hp} {k : Nat} {s : List UInt8} (r : Rd h k s 0) : Runs B1 42 [.pointer (some ⟨k, 0, none⟩)] h (.int .i64 (.ofNat s.length)) h := by
  obtain ⟨el, z, pl, d, tr, hb, h0, h1, hk⟩ := r
  refine runs_of B1 0 fun S hS m hm R J c => ?_
  unfold enterS
  conv => lhs; whnf
  repeat ((first
    | refine (V_all hS).trans ?_ | refine (fV_bool _ _).trans ?_ | refine (fN_eq _ _).trans ?_ | refine (S_cons hS).trans ?_ | refine (S_nil hS).trans ?_ | refine (nxB1 hS).trans ?_ | refine (nxB0 hS).trans ?_ | refine (newBlk_eq _ _ _).trans ?_ | refine (nxNc).trans ?_ | refine (nxLe).trans ?_ | refine (nxPn hS).trans ?_ | refine (nxLs).trans ?_ | refine (nxLt).trans ?_ | refine (S_draw0 hS (by rfl) (by kernel_rfl) (by rfl)).trans ?_ | refine (S_draw2 hS (by kernel_rfl) (by rfl)).trans ?_ | refine (nxZ).trans ?_ | refine (nxT hS).trans ?_ | refine (nxF hS).trans ?_ | refine (nxAdd hS).trans ?_ | refine (nxSub hS).trans ?_ | refine (nxMul hS).trans ?_ | refine (nxShr hS).trans ?_ | refine (nxShl hS).trans ?_ | refine (nxRem hS).trans ?_ | refine (nxQuo hS).trans ?_ | refine (nxOr hS).trans ?_ | refine (nxAnd hS).trans ?_ | refine (nxCv hS).trans ?_ | refine (nxC8 hS).trans ?_
    | refine (reads_nil).trans ?_ | refine (reads_off).trans ?_ | refine (reads_pure).trans ?_ | refine (reads_loud).trans ?_ | refine (reads_alloc).trans ?_ | refine (reads_0 (by rfl)).trans ?_ | refine (reads_1 (by rfl)).trans ?_ | refine (stages_nil).trans ?_ | refine (stages_yes (by rfl) (by rfl)).trans ?_ | refine (stages_no (by rfl)).trans ?_ | refine (nxLa).trans ?_ | refine (again_s hS).trans ?_ | refine (nxEq).trans ?_ | refine (fL_eq _ _).trans ?_ | refine (nxAt).trans ?_ | refine (load1 (t := 28) (by rfl) (by rfl) hb (by decide) h1 _).trans ?_ | refine (load1 (t := 9) (by rfl) (by rfl) hb (by decide) h0 _).trans ?_); (conv => lhs; whnf))
theorem err_does {h : Hp} {k e : Nat} {s : List UInt8} (r : Rd h k s e) : Runs B1 45 [.pointer (some ⟨k, 0, none⟩)] h (.int .i64 (.ofNat e)) h := by
  obtain ⟨el, z, pl, d, tr, hb, h0, h1, hk⟩ := r
  refine runs_of B1 0 fun S hS m hm R J c => ?_
  unfold enterS
  conv => lhs; whnf
  repeat ((first
    | refine (V_all hS).trans ?_ | refine (fV_bool _ _).trans ?_ | refine (fN_eq _ _).trans ?_ | refine (S_cons hS).trans ?_ | refine (S_nil hS).trans ?_ | refine (nxB1 hS).trans ?_ | refine (nxB0 hS).trans ?_ | refine (newBlk_eq _ _ _).trans ?_ | refine (nxNc).trans ?_ | refine (nxLe).trans ?_ | refine (nxPn hS).trans ?_ | refine (nxLs).trans ?_ | refine (nxLt).trans ?_ | refine (S_draw0 hS (by rfl) (by kernel_rfl) (by rfl)).trans ?_ | refine (S_draw2 hS (by kernel_rfl) (by rfl)).trans ?_ | refine (nxZ).trans ?_ | refine (nxT hS).trans ?_ | refine (nxF hS).trans ?_ | refine (nxAdd hS).trans ?_ | refine (nxSub hS).trans ?_ | refine (nxMul hS).trans ?_ | refine (nxShr hS).trans ?_ | refine (nxShl hS).trans ?_ | refine (nxRem hS).trans ?_ | refine (nxQuo hS).trans ?_ | refine (nxOr hS).trans ?_ | refine (nxAnd hS).trans ?_ | refine (nxCv hS).trans ?_ | refine (nxC8 hS).trans ?_
    | refine (reads_nil).trans ?_ | refine (reads_off).trans ?_ | refine (reads_pure).trans ?_ | refine (reads_loud).trans ?_ | refine (reads_alloc).trans ?_ | refine (reads_0 (by rfl)).trans ?_ | refine (reads_1 (by rfl)).trans ?_ | refine (stages_nil).trans ?_ | refine (stages_yes (by rfl) (by rfl)).trans ?_ | refine (stages_no (by rfl)).trans ?_ | refine (nxLa).trans ?_ | refine (again_s hS).trans ?_ | refine (nxEq).trans ?_ | refine (fL_eq _ _).trans ?_ | refine (nxAt).trans ?_ | refine (load1 (t := 28) (by rfl) (by rfl) hb (by decide) h1 _).trans ?_); (conv => lhs; whnf))
theorem fault_does {h : Hp} {k e : Nat} {s : List UInt8} (r : Rd h k s 0) : ∃ h', Runs B1 100 [.pointer (some ⟨k, 0, none⟩), .int .i64 (.ofNat e)] h (.string ⟨⟨[]⟩⟩) h' ∧ Rd h' k s e ∧ Same (fun j => j = k) h h' := by
  obtain ⟨el, z, pl, d, tr, hb, h0, h1, hk⟩ := r
  refine ⟨wr h k (.cells 2 el z true pl d (putL [.int .i64 (.ofNat e)] 1 tr)), runs_of B1 0 fun S hS m hm R J c => ?_, ?_, wr_same _ _ _⟩
  · unfold enterS
    conv => lhs; whnf
    repeat ((first
      | refine (V_all hS).trans ?_ | refine (fV_bool _ _).trans ?_ | refine (fN_eq _ _).trans ?_ | refine (S_cons hS).trans ?_ | refine (S_nil hS).trans ?_ | refine (nxB1 hS).trans ?_ | refine (nxB0 hS).trans ?_ | refine (newBlk_eq _ _ _).trans ?_ | refine (nxNc).trans ?_ | refine (nxLe).trans ?_ | refine (nxPn hS).trans ?_ | refine (nxLs).trans ?_ | refine (nxLt).trans ?_ | refine (S_draw0 hS (by rfl) (by kernel_rfl) (by rfl)).trans ?_ | refine (S_draw2 hS (by kernel_rfl) (by rfl)).trans ?_ | refine (nxZ).trans ?_ | refine (nxT hS).trans ?_ | refine (nxF hS).trans ?_ | refine (nxAdd hS).trans ?_ | refine (nxSub hS).trans ?_ | refine (nxMul hS).trans ?_ | refine (nxShr hS).trans ?_ | refine (nxShl hS).trans ?_ | refine (nxRem hS).trans ?_ | refine (nxQuo hS).trans ?_ | refine (nxOr hS).trans ?_ | refine (nxAnd hS).trans ?_ | refine (nxCv hS).trans ?_ | refine (nxC8 hS).trans ?_
      | refine (reads_nil).trans ?_ | refine (reads_off).trans ?_ | refine (reads_pure).trans ?_ | refine (reads_loud).trans ?_ | refine (reads_alloc).trans ?_ | refine (reads_0 (by rfl)).trans ?_ | refine (reads_1 (by rfl)).trans ?_ | refine (stages_nil).trans ?_ | refine (stages_yes (by rfl) (by rfl)).trans ?_ | refine (stages_no (by rfl)).trans ?_ | refine (nxLa).trans ?_ | refine (again_s hS).trans ?_ | refine (nxEq).trans ?_ | refine (fL_eq _ _).trans ?_ | refine (nxAt).trans ?_ | refine (load1 (t := 28) (by rfl) (by rfl) hb (by decide) h1 _).trans ?_ | refine (store_eq (t := 28) (L := [.int .i64 (.ofNat e)]) (by rfl) hb (by rfl) (by rfl) (by decide) (by rfl) _).trans ?_); (conv => lhs; whnf))
    rfl
  · exact ⟨el, z, pl, d, _, wr_at _ _ _, by rw [find_putL, if_neg (by simp)]; exact h0, by rw [find_putL, if_pos (by simp)]; rfl, hk⟩
theorem raw_short {h : Hp} {k n : Nat} {s : List UInt8} (r : Rd h k s 0) (hn : s.length < n) : ∃ h', Runs B1 101 [.pointer (some ⟨k, 0, none⟩), .int .i64 (.ofNat n)] h (.string ⟨⟨[]⟩⟩) h' ∧ Rd h' k s 20 ∧ Same (fun j => j = k) h h' := by
  obtain ⟨h', ⟨N, r1⟩, a2, a3⟩ := fault_does (e := 20) r
  obtain ⟨el, z, pl, d, tr, hb, h0, h1, hk⟩ := r
  refine ⟨h', runs_of B1 N fun S hS m hm R J c => ?_, a2, a3⟩
  unfold enterS
  conv => lhs; whnf
  repeat ((first
    | refine (V_all hS).trans ?_ | refine (fV_bool _ _).trans ?_ | refine (fN_eq _ _).trans ?_ | refine (S_cons hS).trans ?_ | refine (S_nil hS).trans ?_ | refine (nxB1 hS).trans ?_ | refine (nxB0 hS).trans ?_ | refine (newBlk_eq _ _ _).trans ?_ | refine (nxNc).trans ?_ | refine (nxLe).trans ?_ | refine (nxPn hS).trans ?_ | refine (nxLs).trans ?_ | refine (nxLt).trans ?_ | refine (S_draw0 hS (by rfl) (by kernel_rfl) (by rfl)).trans ?_ | refine (S_draw2 hS (by kernel_rfl) (by rfl)).trans ?_ | refine (nxZ).trans ?_ | refine (nxT hS).trans ?_ | refine (nxF hS).trans ?_ | refine (nxAdd hS).trans ?_ | refine (nxSub hS).trans ?_ | refine (nxMul hS).trans ?_ | refine (nxShr hS).trans ?_ | refine (nxShl hS).trans ?_ | refine (nxRem hS).trans ?_ | refine (nxQuo hS).trans ?_ | refine (nxOr hS).trans ?_ | refine (nxAnd hS).trans ?_ | refine (nxCv hS).trans ?_ | refine (nxC8 hS).trans ?_
    | refine (reads_nil).trans ?_ | refine (reads_off).trans ?_ | refine (reads_pure).trans ?_ | refine (reads_loud).trans ?_ | refine (reads_alloc).trans ?_ | refine (reads_0 (by rfl)).trans ?_ | refine (reads_1 (by rfl)).trans ?_ | refine (stages_nil).trans ?_ | refine (stages_yes (by rfl) (by rfl)).trans ?_ | refine (stages_no (by rfl)).trans ?_ | refine (nxLa).trans ?_ | refine (again_s hS).trans ?_ | refine (nxEq).trans ?_ | refine (fL_eq _ _).trans ?_ | refine (nxAt).trans ?_ | refine (load1 (t := 28) (by rfl) (by rfl) hb (by decide) h1 _).trans ?_ | refine (load1 (t := 9) (by rfl) (by rfl) hb (by decide) h0 _).trans ?_ | refine (S_call hS fun R J c => r1 _ (by omega) R J c).trans ?_); (conv => lhs; whnf))
theorem raw_does {h : Hp} {k n : Nat} {s a b : List UInt8} (r : Rd h k s 0) (hn : n ≤ s.length) (ha : s.take n = a) (hd : s.drop n = b) :
    ∃ h', Runs B1 101 [.pointer (some ⟨k, 0, none⟩), .int .i64 (.ofNat n)] h (.string ⟨⟨a⟩⟩) h' ∧ Rd h' k b 0 ∧ Same (fun j => j = k) h h' := by
  subst ha
  subst hd
  obtain ⟨el, z, pl, d, tr, hb, h0, h1, hk⟩ := r
  refine ⟨wr h k (.cells 2 el z true pl d (putL [.string ⟨⟨s.drop n⟩⟩] 0 tr)), runs_of B1 0 fun S hS m hm R J c => ?_, ?_, wr_same _ _ _⟩
  · unfold enterS
    conv => lhs; whnf
    repeat ((first
      | refine (V_all hS).trans ?_ | refine (fV_bool _ _).trans ?_ | refine (fN_eq _ _).trans ?_ | refine (S_cons hS).trans ?_ | refine (S_nil hS).trans ?_ | refine (nxB1 hS).trans ?_ | refine (nxB0 hS).trans ?_ | refine (newBlk_eq _ _ _).trans ?_ | refine (nxNc).trans ?_ | refine (nxLe).trans ?_ | refine (nxPn hS).trans ?_ | refine (nxLs).trans ?_ | refine (nxLt).trans ?_ | refine (S_draw0 hS (by rfl) (by kernel_rfl) (by rfl)).trans ?_ | refine (S_draw2 hS (by kernel_rfl) (by rfl)).trans ?_ | refine (nxZ).trans ?_ | refine (nxT hS).trans ?_ | refine (nxF hS).trans ?_ | refine (nxAdd hS).trans ?_ | refine (nxSub hS).trans ?_ | refine (nxMul hS).trans ?_ | refine (nxShr hS).trans ?_ | refine (nxShl hS).trans ?_ | refine (nxRem hS).trans ?_ | refine (nxQuo hS).trans ?_ | refine (nxOr hS).trans ?_ | refine (nxAnd hS).trans ?_ | refine (nxCv hS).trans ?_ | refine (nxC8 hS).trans ?_
      | refine (reads_nil).trans ?_ | refine (reads_off).trans ?_ | refine (reads_pure).trans ?_ | refine (reads_loud).trans ?_ | refine (reads_alloc).trans ?_ | refine (reads_0 (by rfl)).trans ?_ | refine (reads_1 (by rfl)).trans ?_ | refine (stages_nil).trans ?_ | refine (stages_yes (by rfl) (by rfl)).trans ?_ | refine (stages_no (by rfl)).trans ?_ | refine (nxLa).trans ?_ | refine (again_s hS).trans ?_ | refine (nxEq).trans ?_ | refine (fL_eq _ _).trans ?_ | refine (nxAt).trans ?_ | refine (load1 (t := 28) (by rfl) (by rfl) hb (by decide) h1 _).trans ?_ | refine (load1 (t := 9) (by rfl) (by rfl) hb (by decide) h0 _).trans ?_ | refine (slice_hi u9 hn _).trans ?_ | refine (slice_lo u9 hn _).trans ?_ | refine (store_eq (t := 9) (L := [.string ⟨⟨s.drop n⟩⟩]) (by rfl) hb (by rfl) (by rfl) (by decide) (by rfl) _).trans ?_); (conv => lhs; whnf))
    rfl
  · exact ⟨el, z, pl, d, _, wr_at _ _ _, by rw [find_putL, if_pos (by simp)]; rfl, by rw [find_putL, if_neg (by simp)]; exact h1, hk⟩
theorem read_does {h : Hp} {k : Nat} {s : List UInt8} {b : UInt8} (r : Rd h k (b :: s) 0) :
    ∃ h', Runs B1 98 [.pointer (some ⟨k, 0, none⟩), .int .i64 (.ofNat 1)] h (.int .u64 (.ofNat b.toNat)) h' ∧ Rd h' k s 0 ∧ Same (fun j => j = k) h h' := by
  have hb8 : b.toNat < 256 := b.toNat_lt
  have hb1 : [b].length = 1 := rfl
  obtain ⟨h1, ⟨N, r1⟩, a2, a3⟩ := raw_does r (n := 1) (a := [b]) (b := s) (by simp) (by simp) (by simp)
  let h2 := grown h1 none (.cells [b].length 5 1 true false undef (putL (bys [b]) 0 .nil))
  have s2 : Same (fun _ => False) h1 h2 := same_new _ h1 _
  refine ⟨h2, runs_of B1 N fun S hS m hm R J c => ?_, a2.same s2 (fun e => e), a3.trans (s2.mono fun _ _ e => e.elim)⟩
  have hf : h2.t.find h1.next = some (.cells [b].length 5 1 true false undef (putL (bys [b]) 0 .nil)) := by show (h1.t.put _ _).find _ = _; rw [T.find_put, if_pos rfl]
  unfold enterS
  conv => lhs; whnf
  repeat ((first
    | refine (V_all hS).trans ?_ | refine (fV_bool _ _).trans ?_ | refine (fN_eq _ _).trans ?_ | refine (S_cons hS).trans ?_ | refine (S_nil hS).trans ?_ | refine (nxB1 hS).trans ?_ | refine (nxB0 hS).trans ?_ | refine (newBlk_eq _ _ _).trans ?_ | refine (nxNc).trans ?_ | refine (nxLe).trans ?_ | refine (nxPn hS).trans ?_ | refine (nxLs).trans ?_ | refine (nxLt).trans ?_ | refine (S_draw0 hS (by rfl) (by kernel_rfl) (by rfl)).trans ?_ | refine (S_draw2 hS (by kernel_rfl) (by rfl)).trans ?_ | refine (nxZ).trans ?_ | refine (nxT hS).trans ?_ | refine (nxF hS).trans ?_ | refine (nxAdd hS).trans ?_ | refine (nxSub hS).trans ?_ | refine (nxMul hS).trans ?_ | refine (nxShr hS).trans ?_ | refine (nxShl hS).trans ?_ | refine (nxRem hS).trans ?_ | refine (nxQuo hS).trans ?_ | refine (nxOr hS).trans ?_ | refine (nxAnd hS).trans ?_ | refine (nxCv hS).trans ?_ | refine (nxC8 hS).trans ?_
    | refine (reads_nil).trans ?_ | refine (reads_off).trans ?_ | refine (reads_pure).trans ?_ | refine (reads_loud).trans ?_ | refine (reads_alloc).trans ?_ | refine (reads_0 (by rfl)).trans ?_ | refine (reads_1 (by rfl)).trans ?_ | refine (stages_nil).trans ?_ | refine (stages_yes (by rfl) (by rfl)).trans ?_ | refine (stages_no (by rfl)).trans ?_ | refine (nxLa).trans ?_ | refine (again_s hS).trans ?_ | refine (nxEq).trans ?_ | refine (fL_eq _ _).trans ?_ | refine (nxAt).trans ?_ | refine (S_call hS fun R J c => r1 _ (by omega) R J c).trans ?_ | refine (cv hS (conv_bytes u9 u128 u5 (l := [b]) (by simp) _)).trans ?_ | refine (S_loop hS).trans ?_ | refine (load1 (t := 5) (by rfl) (by rfl) hf (show 0 < 1 by decide) (by rfl) _).trans ?_); (conv => lhs; whnf))
  exact congrArg (fun n => c (Value.int .u64 (.ofNat n)) h2) (show 0 * 2 ^ 8 ||| b.toNat = b.toNat by simp)
theorem ru8_does {h : Hp} {k : Nat} {s : List UInt8} {b : UInt8} (r : Rd h k (b :: s) 0) :
    ∃ h', Runs B1 43 [.pointer (some ⟨k, 0, none⟩)] h (.int .u8 (.ofNat b.toNat)) h' ∧ Rd h' k s 0 ∧ Same (fun j => j = k) h h' := by
  have hb8 : b.toNat < 256 := b.toNat_lt
  obtain ⟨h1, ⟨N, r1⟩, a2, a3⟩ := read_does r
  refine ⟨h1, runs_of B1 N fun S hS m hm R J c => ?_, a2, a3⟩
  unfold enterS
  conv => lhs; whnf
  repeat ((first
    | refine (V_all hS).trans ?_ | refine (fV_bool _ _).trans ?_ | refine (fN_eq _ _).trans ?_ | refine (S_cons hS).trans ?_ | refine (S_nil hS).trans ?_ | refine (nxB1 hS).trans ?_ | refine (nxB0 hS).trans ?_ | refine (newBlk_eq _ _ _).trans ?_ | refine (nxNc).trans ?_ | refine (nxLe).trans ?_ | refine (nxPn hS).trans ?_ | refine (nxLs).trans ?_ | refine (nxLt).trans ?_ | refine (S_draw0 hS (by rfl) (by kernel_rfl) (by rfl)).trans ?_ | refine (S_draw2 hS (by kernel_rfl) (by rfl)).trans ?_ | refine (nxZ).trans ?_ | refine (nxT hS).trans ?_ | refine (nxF hS).trans ?_ | refine (nxAdd hS).trans ?_ | refine (nxSub hS).trans ?_ | refine (nxMul hS).trans ?_ | refine (nxShr hS).trans ?_ | refine (nxShl hS).trans ?_ | refine (nxRem hS).trans ?_ | refine (nxQuo hS).trans ?_ | refine (nxOr hS).trans ?_ | refine (nxAnd hS).trans ?_ | refine (nxCv hS).trans ?_ | refine (nxC8 hS).trans ?_
    | refine (reads_nil).trans ?_ | refine (reads_off).trans ?_ | refine (reads_pure).trans ?_ | refine (reads_loud).trans ?_ | refine (reads_alloc).trans ?_ | refine (reads_0 (by rfl)).trans ?_ | refine (reads_1 (by rfl)).trans ?_ | refine (stages_nil).trans ?_ | refine (stages_yes (by rfl) (by rfl)).trans ?_ | refine (stages_no (by rfl)).trans ?_ | refine (nxLa).trans ?_ | refine (again_s hS).trans ?_ | refine (nxEq).trans ?_ | refine (fL_eq _ _).trans ?_ | refine (nxAt).trans ?_ | refine (S_call hS fun R J c => r1 _ (by omega) R J c).trans ?_); (conv => lhs; whnf))
end Go.Proofs.YtopkigockpiggaaGreat
