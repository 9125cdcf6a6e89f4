/-
  vol.Record, walked to its end.
-/
import Derived.Test.YtopkigockpiggaaGreatEvSeatEntsRound
set_option maxRecDepth 100000
set_option linter.unusedVariables false
set_option linter.unusedSimpArgs false
open Go Go.Ev
namespace Go.Proofs.YtopkigockpiggaaGreat
attribute [local irreducible] loadAt storeAt newBlk newCells writeAt appendK binK indexAddrK indexK sliceK lenK convK fN fV fL boolK maxK zeroOf enterK drawK rowsK leK okK readsK stagesK lastK againK eqvK
/-- an entry's bytes. -/
noncomputable def recE (e : Entr) : List UInt8 := if e.2.2 = true then 2 :: (vari e.1.length ++ e.1) else 1 :: ((vari e.1.length ++ e.1) ++ (vari e.2.1.length ++ e.2.1))
noncomputable def recL (l : List Entr) : List UInt8 := l.flatMap recE
theorem recL_cons (e : Entr) (l : List Entr) : recL (e :: l) = recE e ++ recL l := by simp [recL]
theorem recE_len (e : Entr) (h1 : e.1.length < 1073741824) (h2 : e.2.1.length < 1073741824) : (recE e).length ≤ e.1.length + e.2.1.length + 21 := by
  have a := vari_len 9 e.1.length (Nat.lt_of_lt_of_le h1 (by decide))
  have b := vari_len 9 e.2.1.length (Nat.lt_of_lt_of_le h2 (by decide))
  unfold recE
  split <;> simp only [List.length_cons, List.length_append] <;> omega
theorem recL_len : ∀ (l : List Entr), sizeE l ≤ 1073741824 → (recL l).length ≤ sizeE l
  | [], _ => by simp [recL]
  | e :: l, h => by
    have h : e.1.length + e.2.1.length + 21 + sizeE l ≤ 1073741824 := h
    have := recL_len l (by omega)
    have := recE_len e (by omega) (by omega)
    rw [recL_cons, List.length_append]
    show _ ≤ e.1.length + e.2.1.length + 21 + sizeE l
    omega
theorem Wr.shut {h : Hp} {k most : Nat} {F : Nat → Prop} {L : List Value} (w : Wr h k F most L) : Wr h k (fun j => F j ∧ j < h.next) most L := w.mono fun j hj hF => ⟨hF, hj⟩
section
variable {S : Stops} {tm : T Value} {h h1 h2 h3 : Hp} {k k' off cap n i N : Nat} {a b : List UInt8} {l : List Entr}
theorem rec_exit (hS : S.Real B1) {p : Value} (hf : isFull 6 tm = true) (h6 : tm.find 6 = some p) (h31 : tm.find 31 = some (.int .i64 (.ofNat n))) (h32 : tm.find 32 = some (.int .i64 (.ofNat n))) :
    ∃ tm', isFull 6 tm' = true ∧ tm'.find 6 = some p ∧ ∀ m R J K, S.W R J (m + 20) (loopB B1 10 1) ⟨tm, h, 61, 10, none, []⟩ K = K (.exit 2) ⟨tm', h, 61, 10, none, []⟩ := by
  obtain ⟨g, rfl⟩ := full_look hf [(6, p), (31, .int .i64 (.ofNat n)), (32, .int .i64 (.ofNat n))] (by simp [h6, h31, h32])
  refine ⟨?tm, ?_, ?_, ?walk⟩
  case walk =>
    intro m R J K
    refine (S_loop hS).trans ?_
    conv => lhs; whnf
    repeat ((first
      | refine (V_all hS).trans ?_ | refine (fV_bool _ _).trans ?_ | refine (fN_eq _ _).trans ?_ | refine (S_cons hS).trans ?_ | refine (S_nil hS).trans ?_ | refine (nxB1 hS).trans ?_ | refine (nxB0 hS).trans ?_ | refine (newBlk_eq _ _ _).trans ?_ | refine (nxNc).trans ?_ | refine (nxLe).trans ?_ | refine (nxPn hS).trans ?_ | refine (nxLs).trans ?_ | refine (nxLt).trans ?_ | refine (S_draw0 hS (by rfl) (by kernel_rfl) (by rfl)).trans ?_ | refine (S_draw2 hS (by kernel_rfl) (by rfl)).trans ?_ | refine (nxZ).trans ?_ | refine (nxT hS).trans ?_ | refine (nxF hS).trans ?_ | refine (nxAdd hS).trans ?_ | refine (nxSub hS).trans ?_ | refine (nxMul hS).trans ?_ | refine (nxShr hS).trans ?_ | refine (nxShl hS).trans ?_ | refine (nxRem hS).trans ?_ | refine (nxQuo hS).trans ?_ | refine (nxOr hS).trans ?_ | refine (nxAnd hS).trans ?_ | refine (nxCv hS).trans ?_ | refine (nxC8 hS).trans ?_
      | refine (reads_nil).trans ?_ | refine (reads_off).trans ?_ | refine (reads_pure).trans ?_ | refine (reads_loud).trans ?_ | refine (reads_alloc).trans ?_ | refine (reads_0 (by rfl)).trans ?_ | refine (reads_1 (by rfl)).trans ?_ | refine (stages_nil).trans ?_ | refine (stages_yes (by rfl) (by rfl)).trans ?_ | refine (stages_no (by rfl)).trans ?_ | refine (nxLa).trans ?_ | refine (again_s hS).trans ?_ | refine (nxEq).trans ?_ | refine (fL_eq _ _).trans ?_ | refine (nxAt).trans ?_); (conv => lhs; whnf))
  all_goals rfl
theorem rec_gone (hS : S.Real B1) (hx : Span h (.slice (some ⟨k', off, none⟩) n cap) 3 n (cellsE l)) (he : l[i]? = some (a, b, true)) (hi : i < n) (hnb : n ≤ 1073741824)
    (hf : isFull 6 tm = true) (h6 : tm.find 6 = some (ptr k)) (h30 : tm.find 30 = some (.slice (some ⟨k', off, none⟩) n cap)) (h31 : tm.find 31 = some (.int .i64 (.ofNat n))) (h32 : tm.find 32 = some (.int .i64 (.ofNat i)))
    (rU : Gives N 38 [ptr k, .int .u8 (.ofNat 2)] (withE h (a, b, true)) unit h1) (l1 : LoadsS h1 h.next 0 a) (rT : Gives N 39 [ptr k, .string ⟨⟨a⟩⟩] h1 unit h2) :
    ∃ tm', isFull 6 tm' = true ∧ tm'.find 6 = some (ptr k) ∧ tm'.find 30 = some (.slice (some ⟨k', off, none⟩) n cap) ∧ tm'.find 31 = some (.int .i64 (.ofNat n)) ∧ tm'.find 32 = some (.int .i64 (.ofNat (i + 1))) ∧
      ∀ m, N ≤ m → ∀ R J K, S.W R J (m + 20) (loopB B1 10 1) ⟨tm, h, 61, 10, none, []⟩ K = S.W R J (m + 19) (loopB B1 10 1) ⟨tm', h2, 61, 10, none, []⟩ K := by
  obtain ⟨g, rfl⟩ := full_look hf [(6, ptr k), (30, .slice (some ⟨k', off, none⟩) n cap), (31, .int .i64 (.ofNat n)), (32, .int .i64 (.ofNat i))] (by simp [h6, h30, h31, h32])
  refine ⟨?tm, ?_, ?_, ?_, ?_, ?_, ?walk⟩
  case walk =>
    intro m hm R J K
    refine (S_loop hS).trans ?_
    conv => lhs; whnf
    repeat ((first
      | refine (V_all hS).trans ?_ | refine (fV_bool _ _).trans ?_ | refine (fN_eq _ _).trans ?_ | refine (S_cons hS).trans ?_ | refine (S_nil hS).trans ?_ | refine (nxB1 hS).trans ?_ | refine (nxB0 hS).trans ?_ | refine (newBlk_eq _ _ _).trans ?_ | refine (nxNc).trans ?_ | refine (nxLe).trans ?_ | refine (nxPn hS).trans ?_ | refine (nxLs).trans ?_ | refine (nxLt).trans ?_ | refine (S_draw0 hS (by rfl) (by kernel_rfl) (by rfl)).trans ?_ | refine (S_draw2 hS (by kernel_rfl) (by rfl)).trans ?_ | refine (nxZ).trans ?_ | refine (nxT hS).trans ?_ | refine (nxF hS).trans ?_ | refine (nxAdd hS).trans ?_ | refine (nxSub hS).trans ?_ | refine (nxMul hS).trans ?_ | refine (nxShr hS).trans ?_ | refine (nxShl hS).trans ?_ | refine (nxRem hS).trans ?_ | refine (nxQuo hS).trans ?_ | refine (nxOr hS).trans ?_ | refine (nxAnd hS).trans ?_ | refine (nxCv hS).trans ?_ | refine (nxC8 hS).trans ?_
      | refine (reads_nil).trans ?_ | refine (reads_off).trans ?_ | refine (reads_pure).trans ?_ | refine (reads_loud).trans ?_ | refine (reads_alloc).trans ?_ | refine (reads_0 (by rfl)).trans ?_ | refine (reads_1 (by rfl)).trans ?_ | refine (stages_nil).trans ?_ | refine (stages_yes (by rfl) (by rfl)).trans ?_ | refine (stages_no (by rfl)).trans ?_ | refine (nxLa).trans ?_ | refine (again_s hS).trans ?_ | refine (nxEq).trans ?_ | refine (fL_eq _ _).trans ?_ | refine (nxAt).trans ?_ | refine (load_ent hx he _).trans ?_ | refine (store_eq (t := 33) (by rfl) (by show (T.put _ _ _).find _ = _; rw [T.find_put, if_pos rfl]) rfl (by rfl) (by decide) rfl _).trans ?_ | refine (load1 (t := 4) (by rfl) (by rfl) (withE_at h (a, b, true)) (by decide) (by rfl) _).trans ?_ | refine (S_call hS fun R J c => rU _ (by omega) R J c).trans ?_ | refine (l1 _ _).trans ?_
      | refine (S_call hS fun R J c => rT _ (by omega) R J c).trans ?_); (conv => lhs; whnf))
  all_goals rfl
theorem rec_put (hS : S.Real B1) (hx : Span h (.slice (some ⟨k', off, none⟩) n cap) 3 n (cellsE l)) (he : l[i]? = some (a, b, false)) (hi : i < n) (hnb : n ≤ 1073741824)
    (hf : isFull 6 tm = true) (h6 : tm.find 6 = some (ptr k)) (h30 : tm.find 30 = some (.slice (some ⟨k', off, none⟩) n cap)) (h31 : tm.find 31 = some (.int .i64 (.ofNat n))) (h32 : tm.find 32 = some (.int .i64 (.ofNat i)))
    (rU : Gives N 38 [ptr k, .int .u8 (.ofNat 1)] (withE h (a, b, false)) unit h1) (l1 : LoadsS h1 h.next 0 a) (rT : Gives N 39 [ptr k, .string ⟨⟨a⟩⟩] h1 unit h2) (l2 : LoadsS h2 h.next 1 b) (rV : Gives N 39 [ptr k, .string ⟨⟨b⟩⟩] h2 unit h3) :
    ∃ tm', isFull 6 tm' = true ∧ tm'.find 6 = some (ptr k) ∧ tm'.find 30 = some (.slice (some ⟨k', off, none⟩) n cap) ∧ tm'.find 31 = some (.int .i64 (.ofNat n)) ∧ tm'.find 32 = some (.int .i64 (.ofNat (i + 1))) ∧
      ∀ m, N ≤ m → ∀ R J K, S.W R J (m + 20) (loopB B1 10 1) ⟨tm, h, 61, 10, none, []⟩ K = S.W R J (m + 19) (loopB B1 10 1) ⟨tm', h3, 61, 10, none, []⟩ K := by
  obtain ⟨g, rfl⟩ := full_look hf [(6, ptr k), (30, .slice (some ⟨k', off, none⟩) n cap), (31, .int .i64 (.ofNat n)), (32, .int .i64 (.ofNat i))] (by simp [h6, h30, h31, h32])
  refine ⟨?tm, ?_, ?_, ?_, ?_, ?_, ?walk⟩
  case walk =>
    intro m hm R J K
    refine (S_loop hS).trans ?_
    conv => lhs; whnf
    repeat ((first
      | refine (V_all hS).trans ?_ | refine (fV_bool _ _).trans ?_ | refine (fN_eq _ _).trans ?_ | refine (S_cons hS).trans ?_ | refine (S_nil hS).trans ?_ | refine (nxB1 hS).trans ?_ | refine (nxB0 hS).trans ?_ | refine (newBlk_eq _ _ _).trans ?_ | refine (nxNc).trans ?_ | refine (nxLe).trans ?_ | refine (nxPn hS).trans ?_ | refine (nxLs).trans ?_ | refine (nxLt).trans ?_ | refine (S_draw0 hS (by rfl) (by kernel_rfl) (by rfl)).trans ?_ | refine (S_draw2 hS (by kernel_rfl) (by rfl)).trans ?_ | refine (nxZ).trans ?_ | refine (nxT hS).trans ?_ | refine (nxF hS).trans ?_ | refine (nxAdd hS).trans ?_ | refine (nxSub hS).trans ?_ | refine (nxMul hS).trans ?_ | refine (nxShr hS).trans ?_ | refine (nxShl hS).trans ?_ | refine (nxRem hS).trans ?_ | refine (nxQuo hS).trans ?_ | refine (nxOr hS).trans ?_ | refine (nxAnd hS).trans ?_ | refine (nxCv hS).trans ?_ | refine (nxC8 hS).trans ?_
      | refine (reads_nil).trans ?_ | refine (reads_off).trans ?_ | refine (reads_pure).trans ?_ | refine (reads_loud).trans ?_ | refine (reads_alloc).trans ?_ | refine (reads_0 (by rfl)).trans ?_ | refine (reads_1 (by rfl)).trans ?_ | refine (stages_nil).trans ?_ | refine (stages_yes (by rfl) (by rfl)).trans ?_ | refine (stages_no (by rfl)).trans ?_ | refine (nxLa).trans ?_ | refine (again_s hS).trans ?_ | refine (nxEq).trans ?_ | refine (fL_eq _ _).trans ?_ | refine (nxAt).trans ?_ | refine (load_ent hx he _).trans ?_ | refine (store_eq (t := 33) (by rfl) (by show (T.put _ _ _).find _ = _; rw [T.find_put, if_pos rfl]) rfl (by rfl) (by decide) rfl _).trans ?_ | refine (load1 (t := 4) (by rfl) (by rfl) (withE_at h (a, b, false)) (by decide) (by rfl) _).trans ?_ | refine (S_call hS fun R J c => rU _ (by omega) R J c).trans ?_ | refine (l1 _ _).trans ?_
      | refine (S_call hS fun R J c => rT _ (by omega) R J c).trans ?_ | refine (l2 _ _).trans ?_ | refine (S_call hS fun R J c => rV _ (by omega) R J c).trans ?_); (conv => lhs; whnf))
  all_goals rfl
end
theorem Gives.of {f : FuncId} {l : List Value} {h h' : Hp} {v : Value} (r : Runs B1 f l h v h') : ∃ N, Gives N f l h v h' := r
theorem Gives.le {f : FuncId} {l : List Value} {h h' : Hp} {v : Value} {N M : Nat} (r : Gives N f l h v h') (hn : N ≤ M) : Gives M f l h v h' := fun n h => r n (Nat.le_trans hn h)
theorem loadsS {h : Hp} {k off n : Nat} {e : TypeId} {z : Nat} {mu pl : Bool} {d : Value} {tr : T Value} {l : List UInt8} (hb : h.t.find k = some (.cells n e z mu pl d tr)) (hlt : off < n) (hv : tr.find off = some (.string ⟨⟨l⟩⟩)) : LoadsS h k off l :=
  fun R c => load1 (t := 9) u9 (by rfl) hb hlt hv c
theorem rec_loop {S : Stops} (hS : S.Real B1) {k k' off cap n most B0 : Nat} {l : List Entr} (hn : l.length = n) (hnb : n ≤ 1073741824) (hmost : most ≤ 1073741824) (hk' : k' < B0) : ∀ (rest : List Entr) {i : Nat} {tm : T Value} {h : Hp} {L : List Value}, l.drop i = rest → i ≤ n →
    Span h (.slice (some ⟨k', off, none⟩) n cap) 3 n (cellsE l) → Wr h k (fun j => B0 ≤ j ∧ j < h.next) most L → B0 ≤ h.next → isFull 6 tm = true → tm.find 6 = some (ptr k) → tm.find 30 = some (.slice (some ⟨k', off, none⟩) n cap) →
    tm.find 31 = some (.int .i64 (.ofNat n)) → tm.find 32 = some (.int .i64 (.ofNat i)) → sizeE rest ≤ 1073741824 → L.length + sizeE rest ≤ most →
    ∃ tm' h' N, isFull 6 tm' = true ∧ tm'.find 6 = some (ptr k) ∧ Wr h' k (fun j => B0 ≤ j ∧ j < h'.next) most (L ++ bys (recL rest)) ∧ Same (fun j => B0 ≤ j) h h' ∧
      ∀ m, N ≤ m → ∀ R J K, S.W R J m (loopB B1 10 1) ⟨tm, h, 61, 10, none, []⟩ K = K (.exit 2) ⟨tm', h', 61, 10, none, []⟩
  | [], i, tm, h, L, hd, hi, hx, w, hB, hf, h6, h30, h31, h32, hs, hm => by
    have : i = n := by
      have := congrArg List.length hd
      simp at this
      omega
    subst this
    obtain ⟨tm', a1, a2, a3⟩ := rec_exit (h := h) hS hf h6 h31 h32
    refine ⟨tm', h, 20, a1, a2, by simpa [recL, bys] using w, Same.refl h, fun m hm R J K => ?_⟩
    obtain ⟨q, rfl⟩ : ∃ q, m = q + 20 := ⟨m - 20, by omega⟩
    exact a3 q R J K
  | (a, b, g) :: rest, i, tm, h, L, hd, hi, hx, w, hB, hf, h6, h30, h31, h32, hs, hm => by
    obtain ⟨he, hd'⟩ := drop_cons hd
    have hil : i < l.length := (List.getElem?_eq_some_iff.1 he).1
    have hs' : a.length + b.length + 21 + sizeE rest ≤ 1073741824 := hs
    have hm' : L.length + (a.length + b.length + 21 + sizeE rest) ≤ most := hm
    have va := vari_len 9 a.length (Nat.lt_of_lt_of_le (show a.length < 1073741824 by omega) (by decide))
    have vb := vari_len 9 b.length (Nat.lt_of_lt_of_le (show b.length < 1073741824 by omega) (by decide))
    have sE : Same (fun _ => False) h (withE h (a, b, g)) := withE_same _ h _
    have nE : (withE h (a, b, g)).next = h.next + 1 := rfl
    have wE := w.same sE fun j _ e => e.elim
    obtain ⟨h1, r1, w1, s1⟩ := u8_does (b := if g = true then 2 else 1) wE (by split <;> decide) (by omega) hmost
    have hj : ¬ (B0 ≤ h.next ∧ h.next < h.next) := by omega
    have b1 := (s1.2 h.next (Nat.lt_succ_self _) hj).trans (withE_at h (a, b, g))
    have w1' := w1.shut
    have l1 : (L ++ [Value.int .u8 (.ofNat (if g = true then 2 else 1))]).length = L.length + 1 := by simp
    obtain ⟨h2, r2, w2, s2⟩ := text_does (l := a) w1' (by omega) (by rw [l1]; omega) hmost
    have hj2 : ¬ (((B0 ≤ h.next ∧ h.next < h.next) ∨ (withE h (a, b, g)).next ≤ h.next) ∧ h.next < h1.next) := by rw [nE]; omega
    have n1 : h.next + 1 ≤ h1.next := s1.1
    have b2 := (s2.2 h.next (by omega) hj2).trans b1
    obtain ⟨N1, r1⟩ := r1
    obtain ⟨N2, r2⟩ := r2
    have n2 : h1.next ≤ h2.next := s2.1
    cases g with
    | true =>
      obtain ⟨tm2, c1, c2, c3, c4, c5, c6⟩ := rec_gone (N := N1 + N2) hS hx he (by omega) hnb hf h6 h30 h31 h32 (Gives.le r1 (by omega)) (loadsS b1 (by decide) (by rfl)) (Gives.le r2 (by omega))
      have sB : Same (fun j => B0 ≤ j) h h2 := ((sE.mono fun _ _ e => e.elim).trans (s1.mono fun j _ e => e.1)).trans (s2.mono fun j _ e => by
        rcases e.1 with e | e
        · exact e.1
        · have : h.next + 1 ≤ j := e
          omega)
      have w2' : Wr h2 k (fun j => B0 ≤ j ∧ j < h2.next) most (L ++ bys (recE (a, b, true))) := by
        have e : L ++ bys (recE (a, b, true)) = L ++ [Value.int .u8 (.ofNat 2)] ++ bys (vari a.length ++ a) := by
          rw [List.append_assoc]
          rfl
        rw [e]
        refine w2.mono fun j hj e => ⟨?_, hj⟩
        rcases e with ⟨e | e, _⟩ | e
        · exact e.1
        · have : h.next + 1 ≤ j := e
          omega
        · omega
      have hl2 : (L ++ bys (recE (a, b, true))).length = L.length + (1 + ((vari a.length).length + a.length)) := by
        rw [List.length_append, bys_length]
        simp [recE]
        omega
      obtain ⟨tm', h', N, d1, d2, d3, d4, d5⟩ := rec_loop hS hn hnb hmost hk' rest hd' (by omega) (hx.same sB fun j e => by cases e; omega) w2' (by omega) c1 c2 c3 c4 c5 (by omega) (by rw [hl2]; omega)
      refine ⟨tm', h', N + N1 + N2 + 20, d1, d2, ?_, sB.trans d4, fun m hm R J K => ?_⟩
      · rw [recL_cons, bys_append, ← List.append_assoc]
        exact d3
      · obtain ⟨q, rfl⟩ : ∃ q, m = q + 20 := ⟨m - 20, by omega⟩
        rw [c6 q (by omega)]
        exact d5 _ (by omega) R J K
    | false =>
      have l2 : (L ++ [Value.int .u8 (.ofNat 1)] ++ bys (vari a.length ++ a)).length = L.length + 1 + ((vari a.length).length + a.length) := by simp [bys_length]; omega
      obtain ⟨h3, r3, w3, s3⟩ := text_does (l := b) w2.shut (by omega) (by
        have : (L ++ [Value.int .u8 (.ofNat (if false = true then 2 else 1))] ++ bys (vari a.length ++ a)).length = _ := l2
        rw [this]
        omega) hmost
      obtain ⟨N3, r3⟩ := r3
      have n3 : h2.next ≤ h3.next := s3.1
      obtain ⟨tm2, c1, c2, c3, c4, c5, c6⟩ := rec_put (N := N1 + N2 + N3) hS hx he (by omega) hnb hf h6 h30 h31 h32 (Gives.le r1 (by omega)) (loadsS b1 (by decide) (by rfl)) (Gives.le r2 (by omega)) (loadsS b2 (by decide) (by rfl)) (Gives.le r3 (by omega))
      have sB : Same (fun j => B0 ≤ j) h h3 := (((sE.mono fun _ _ e => e.elim).trans (s1.mono fun j _ e => e.1)).trans (s2.mono fun j _ e => by
        rcases e.1 with e | e
        · exact e.1
        · have : h.next + 1 ≤ j := e
          omega)).trans (s3.mono fun j _ e => by
        rcases e.1 with ⟨e | e, _⟩ | e
        · exact e.1
        · have : h.next + 1 ≤ j := e
          omega
        · omega)
      have w3' : Wr h3 k (fun j => B0 ≤ j ∧ j < h3.next) most (L ++ bys (recE (a, b, false))) := by
        have e : L ++ bys (recE (a, b, false)) = L ++ [Value.int .u8 (.ofNat 1)] ++ bys (vari a.length ++ a) ++ bys (vari b.length ++ b) := by
          rw [List.append_assoc, List.append_assoc, ← bys_append]
          rfl
        rw [e]
        refine w3.mono fun j hj e => ⟨?_, hj⟩
        rcases e with ⟨⟨e | e, _⟩ | e, _⟩ | e
        · exact e.1
        · have : h.next + 1 ≤ j := e
          omega
        · omega
        · omega
      have hl3 : (L ++ bys (recE (a, b, false))).length = L.length + (1 + ((vari a.length).length + a.length) + ((vari b.length).length + b.length)) := by
        rw [List.length_append, bys_length]
        simp [recE]
        omega
      obtain ⟨tm', h', N, d1, d2, d3, d4, d5⟩ := rec_loop hS hn hnb hmost hk' rest hd' (by omega) (hx.same sB fun j e => by cases e; omega) w3' (by omega) c1 c2 c3 c4 c5 (by omega) (by rw [hl3]; omega)
      refine ⟨tm', h', N + N1 + N2 + N3 + 20, d1, d2, ?_, sB.trans d4, fun m hm R J K => ?_⟩
      · rw [recL_cons, bys_append, ← List.append_assoc]
        exact d3
      · obtain ⟨q, rfl⟩ : ∃ q, m = q + 20 := ⟨m - 20, by omega⟩
        rw [c6 q (by omega)]
        exact d5 _ (by omega) R J K
end Go.Proofs.YtopkigockpiggaaGreat
