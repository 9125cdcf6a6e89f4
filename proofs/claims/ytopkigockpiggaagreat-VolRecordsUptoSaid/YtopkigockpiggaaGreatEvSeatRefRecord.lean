/-
  dedupref25.Record, and vol.Record, walked.
-/
import Derived.Test.YtopkigockpiggaaGreatEvSeatRecord2
import Derived.Test.YtopkigockpiggaaGreatEvSeatRef
set_option maxRecDepth 100000
set_option linter.unusedVariables false
set_option linter.unusedSimpArgs false
open Go Go.Ev
namespace Go.Proofs.YtopkigockpiggaaGreat
attribute [local irreducible] loadAt storeAt newBlk newCells writeAt appendK binK indexAddrK indexK sliceK lenK convK fN fV fL boolK maxK zeroOf enterK drawK rowsK leK okK readsK stagesK lastK againK eqvK
/-- what must come ahead of what in the region that draws. -/
noncomputable def plan12 : T Nat := (.node (.node (.node (.node (.node .nil (some 32767) .nil) (some 124) .nil) (some 0) (.node .nil (some 1536) .nil)) (some 1) (.node (.node .nil (some 0) .nil) (some 28) (.node .nil (some 7680) .nil))) (some 0) (.node (.node (.node (.node .nil (some 65535) .nil) (some 255) .nil) (some 12) (.node .nil (some 3584) .nil)) (some 0) (.node (.node .nil (some 0) .nil) (some 60) (.node .nil (some 16124) .nil))))
abbrev LoadsB (h : Hp) (k off : Nat) (g : Bool) : Prop := ∀ (R : Type) (c : Value → An R), loadAt B1 4 (.pointer (some ⟨k, off, none⟩)) h c = c (.bool g)
/-- an entry's fields, where they lie. -/
theorem span_loads {h : Hp} {k off n cap i : Nat} {l : List Entr} {e : Entr} (x : Span h (.slice (some ⟨k, off, none⟩) n cap) 3 n (cellsE l)) (he : l[i]? = some e) (hn : l.length = n) :
    LoadsS h k (off + i * 3) e.1 ∧ LoadsS h k (off + i * 3 + 1) e.2.1 ∧ LoadsB h k (off + i * 3 + 2) e.2.2 := by
  have hi : i < l.length := (List.getElem?_eq_some_iff.1 he).1
  obtain ⟨c0, c1, c2⟩ := cellsE_at he
  obtain ⟨hl, hx⟩ := x
  rcases hx with ⟨_, _, hx⟩ | ⟨k', off', cap', m, el, mu, pl, d, tr, hx, hk, hf, hm, hL⟩
  · cases hx
  · cases hx
    have h0 := hL (i * 3) (by omega)
    have h1 := hL (i * 3 + 1) (by omega)
    have h2 := hL (i * 3 + 2) (by omega)
    rw [c0] at h0
    rw [c1] at h1
    rw [c2] at h2
    rw [← Nat.add_assoc] at h1 h2
    exact ⟨fun R c => load_one (t := 9) u9 (by rfl) hf (by omega) (Option.some.inj h0).symm c, fun R c => load_one (t := 9) u9 (by rfl) hf (by omega) (Option.some.inj h1).symm c,
      fun R c => load_one (t := 4) (ds := .bool) (by rfl) (by rfl) hf (by omega) (Option.some.inj h2).symm c⟩
section
variable {S : Stops} {tm : T Value} {h h1 h2 : Hp} {k' off cap n i N : Nat} {a b acc ta tb : List UInt8}
theorem rr_exit (hS : S.Real B1) {x : Option Addr} (hf : isFull 6 tm = true) (h0 : tm.find 0 = some (.slice x n cap)) (h3 : tm.find 3 = some (.string ⟨⟨acc⟩⟩)) (h4 : tm.find 4 = some (.int .i64 (.ofNat n))) :
    ∃ tm', isFull 6 tm' = true ∧ tm'.find 3 = some (.string ⟨⟨acc⟩⟩) ∧ ∀ m R J K, S.W R J (m + 20) (loopB B1 12 0) ⟨tm, h, 42, 12, none, []⟩ K = K (.exit 0) ⟨tm', h, 42, 12, none, []⟩ := by
  obtain ⟨g, rfl⟩ := full_look hf [(0, .slice x n cap), (3, .string ⟨⟨acc⟩⟩), (4, .int .i64 (.ofNat n))] (by simp [h0, h3, h4])
  refine ⟨?tm, ?_, ?_, ?walk⟩
  case walk =>
    intro m R J K
    refine (S_loop hS).trans ?_
    conv => lhs; whnf
    repeat ((first
      | refine (V_all hS).trans ?_ | refine (fV_bool _ _).trans ?_ | refine (fN_eq _ _).trans ?_ | refine (S_cons hS).trans ?_ | refine (S_nil hS).trans ?_ | refine (nxB1 hS).trans ?_ | refine (nxB0 hS).trans ?_ | refine (newBlk_eq _ _ _).trans ?_ | refine (nxNc).trans ?_ | refine (nxLe).trans ?_ | refine (nxPn hS).trans ?_ | refine (nxLs).trans ?_ | refine (nxLt).trans ?_ | refine (S_draw0 hS (by rfl) (by kernel_rfl) (by rfl)).trans ?_ | refine (S_draw2 hS (by kernel_rfl) (by rfl)).trans ?_ | refine (nxZ).trans ?_ | refine (nxT hS).trans ?_ | refine (nxF hS).trans ?_ | refine (nxAdd hS).trans ?_ | refine (nxSub hS).trans ?_ | refine (nxMul hS).trans ?_ | refine (nxShr hS).trans ?_ | refine (nxShl hS).trans ?_ | refine (nxRem hS).trans ?_ | refine (nxQuo hS).trans ?_ | refine (nxOr hS).trans ?_ | refine (nxAnd hS).trans ?_ | refine (nxCv hS).trans ?_ | refine (nxC8 hS).trans ?_
      | refine (reads_nil).trans ?_ | refine (reads_off).trans ?_ | refine (reads_pure).trans ?_ | refine (reads_loud).trans ?_ | refine (reads_alloc).trans ?_ | refine (reads_0 (by rfl)).trans ?_ | refine (reads_1 (by rfl)).trans ?_ | refine (stages_nil).trans ?_ | refine (stages_yes (by rfl) (by rfl)).trans ?_ | refine (stages_no (by rfl)).trans ?_ | refine (nxLa).trans ?_ | refine (again_s hS).trans ?_ | refine (nxEq).trans ?_ | refine (fL_eq _ _).trans ?_ | refine (nxAt).trans ?_); (conv => lhs; whnf))
    first | done | rfl
  all_goals rfl
theorem rr_gone (hS : S.Real B1) (hf : isFull 6 tm = true) (h0 : tm.find 0 = some (.slice (some ⟨k', off, none⟩) n cap)) (h3 : tm.find 3 = some (.string ⟨⟨acc⟩⟩)) (h4 : tm.find 4 = some (.int .i64 (.ofNat i)))
    (hi : i < n) (hnb : n ≤ 1073741824) (lG : LoadsB h k' (off + i * 3 + 2) true) (lK : LoadsS h k' (off + i * 3) a) (hacc : acc.length < 1099511627776) (hta : ta.length < 1099511627776) (rT : Gives N 46 [.string ⟨⟨a⟩⟩] h (.string ⟨⟨ta⟩⟩) h1) :
    ∃ tm', isFull 6 tm' = true ∧ tm'.find 0 = some (.slice (some ⟨k', off, none⟩) n cap) ∧ tm'.find 3 = some (.string ⟨⟨acc ++ [2] ++ ta⟩⟩) ∧ tm'.find 4 = some (.int .i64 (.ofNat (i + 1))) ∧
      ∀ m, N ≤ m → ∀ R J K, S.W R J (m + 20) (loopB B1 12 0) ⟨tm, h, 42, 12, none, []⟩ K = S.W R J (m + 19) (loopB B1 12 0) ⟨tm', h1, 42, 12, none, []⟩ K := by
  obtain ⟨g, rfl⟩ := full_look hf [(0, .slice (some ⟨k', off, none⟩) n cap), (3, .string ⟨⟨acc⟩⟩), (4, .int .i64 (.ofNat i))] (by simp [h0, h3, h4])
  have ha1 : (acc ++ [2]).length = acc.length + 1 := by simp
  refine ⟨?tm, ?_, ?_, ?_, ?_, ?walk⟩
  case walk =>
    intro m hm R J K
    refine (S_loop hS).trans ?_
    conv => lhs; whnf
    repeat ((first
      | refine (V_all hS).trans ?_ | refine (fV_bool _ _).trans ?_ | refine (fN_eq _ _).trans ?_ | refine (S_cons hS).trans ?_ | refine (S_nil hS).trans ?_ | refine (nxB1 hS).trans ?_ | refine (nxB0 hS).trans ?_ | refine (newBlk_eq _ _ _).trans ?_ | refine (nxNc).trans ?_ | refine (nxLe).trans ?_ | refine (nxPn hS).trans ?_ | refine (nxLs).trans ?_ | refine (nxLt).trans ?_ | refine (S_draw0 hS (by rfl) (by kernel_rfl) (by rfl)).trans ?_ | refine (S_draw2 hS (by kernel_rfl) (by rfl)).trans ?_ | refine (nxZ).trans ?_ | refine (nxT hS).trans ?_ | refine (nxF hS).trans ?_ | refine (nxAdd hS).trans ?_ | refine (nxSub hS).trans ?_ | refine (nxMul hS).trans ?_ | refine (nxShr hS).trans ?_ | refine (nxShl hS).trans ?_ | refine (nxRem hS).trans ?_ | refine (nxQuo hS).trans ?_ | refine (nxOr hS).trans ?_ | refine (nxAnd hS).trans ?_ | refine (nxCv hS).trans ?_ | refine (nxC8 hS).trans ?_
      | refine (reads_nil).trans ?_ | refine (reads_off).trans ?_ | refine (reads_pure).trans ?_ | refine (reads_loud).trans ?_ | refine (reads_alloc).trans ?_ | refine (reads_0 (by rfl)).trans ?_ | refine (reads_1 (by rfl)).trans ?_ | refine (stages_nil).trans ?_ | refine (stages_yes (by rfl) (by rfl)).trans ?_ | refine (stages_no (by rfl)).trans ?_ | refine (nxLa).trans ?_ | refine (again_s hS).trans ?_ | refine (nxEq).trans ?_ | refine (fL_eq _ _).trans ?_ | refine (nxAt).trans ?_ | refine (lG _ _).trans ?_ | refine (b2 hS (add_str (l := acc) (m := [2]) (by simp only [List.length_cons, List.length_nil]; omega) _)).trans ?_ | refine (lK _ _).trans ?_ | refine (S_call hS fun R J c => rT _ (by omega) R J c).trans ?_ | refine (b2 hS (add_str (l := acc ++ [2]) (m := ta) (by rw [ha1]; omega) _)).trans ?_); (conv => lhs; whnf))
    first | done | rfl
  all_goals rfl
theorem rr_put (hS : S.Real B1) (hf : isFull 6 tm = true) (h0 : tm.find 0 = some (.slice (some ⟨k', off, none⟩) n cap)) (h3 : tm.find 3 = some (.string ⟨⟨acc⟩⟩)) (h4 : tm.find 4 = some (.int .i64 (.ofNat i)))
    (hi : i < n) (hnb : n ≤ 1073741824) (lG : LoadsB h k' (off + i * 3 + 2) false) (lK : LoadsS h k' (off + i * 3) a) (lV : LoadsS h k' (off + i * 3 + 1) b) (lW : LoadsS h1 k' (off + i * 3 + 1) b)
    (hacc : acc.length < 1099511627776) (hta : ta.length < 1099511627776) (htb : tb.length < 1099511627776) (hle1 : h.next ≤ h1.next) (hle2 : h1.next ≤ h2.next)
    (rT : Gives N 46 [.string ⟨⟨a⟩⟩] h (.string ⟨⟨ta⟩⟩) h1) (rV : Gives N 46 [.string ⟨⟨b⟩⟩] h1 (.string ⟨⟨tb⟩⟩) h2) :
    ∃ tm', isFull 6 tm' = true ∧ tm'.find 0 = some (.slice (some ⟨k', off, none⟩) n cap) ∧ tm'.find 3 = some (.string ⟨⟨acc ++ [1] ++ ta ++ tb⟩⟩) ∧ tm'.find 4 = some (.int .i64 (.ofNat (i + 1))) ∧
      ∀ m, N ≤ m → ∀ R J K, S.W R J (m + 20) (loopB B1 12 0) ⟨tm, h, 42, 12, none, []⟩ K = S.W R J (m + 19) (loopB B1 12 0) ⟨tm', h2, 42, 12, none, []⟩ K := by
  obtain ⟨g, rfl⟩ := full_look hf [(0, .slice (some ⟨k', off, none⟩) n cap), (3, .string ⟨⟨acc⟩⟩), (4, .int .i64 (.ofNat i))] (by simp [h0, h3, h4])
  have ha1 : (acc ++ [1]).length = acc.length + 1 := by simp
  have ha2 : (acc ++ [1] ++ ta).length = acc.length + 1 + ta.length := by simp; omega
  refine ⟨?tm, ?_, ?_, ?_, ?_, ?walk⟩
  case walk =>
    intro m hm R J K
    refine (S_loop hS).trans ?_
    conv => lhs; whnf
    repeat ((first
      | refine (V_all hS).trans ?_ | refine (fV_bool _ _).trans ?_ | refine (fN_eq _ _).trans ?_ | refine (S_cons hS).trans ?_ | refine (S_nil hS).trans ?_ | refine (nxB1 hS).trans ?_ | refine (nxB0 hS).trans ?_ | refine (newBlk_eq _ _ _).trans ?_ | refine (nxNc).trans ?_ | refine (nxLe).trans ?_ | refine (nxPn hS).trans ?_ | refine (nxLs).trans ?_ | refine (nxLt).trans ?_ | refine (S_draw0 hS (by rfl) (by kernel_rfl) (by rfl)).trans ?_ | refine (S_draw2 hS (by kernel_rfl) (by rfl)).trans ?_ | refine (nxZ).trans ?_ | refine (nxT hS).trans ?_ | refine (nxF hS).trans ?_ | refine (nxAdd hS).trans ?_ | refine (nxSub hS).trans ?_ | refine (nxMul hS).trans ?_ | refine (nxShr hS).trans ?_ | refine (nxShl hS).trans ?_ | refine (nxRem hS).trans ?_ | refine (nxQuo hS).trans ?_ | refine (nxOr hS).trans ?_ | refine (nxAnd hS).trans ?_ | refine (nxCv hS).trans ?_ | refine (nxC8 hS).trans ?_
      | refine (reads_nil).trans ?_ | refine (reads_off).trans ?_ | refine (reads_pure).trans ?_ | refine (reads_loud).trans ?_ | refine (reads_alloc).trans ?_ | refine (reads_0 (by rfl)).trans ?_ | refine (reads_1 (by rfl)).trans ?_ | refine (stages_nil).trans ?_ | refine (stages_yes (by rfl) (by rfl)).trans ?_ | refine (stages_no (by rfl)).trans ?_ | refine (nxLa).trans ?_ | refine (again_s hS).trans ?_ | refine (nxEq).trans ?_ | refine (fL_eq _ _).trans ?_ | refine (nxAt).trans ?_ | refine (lG _ _).trans ?_ | refine (S_drawP hS plan12 (by kernel_rfl) (by rfl) (by kernel_rfl)).trans ?_ | refine (b2 hS (add_str (l := acc) (m := [1]) (by simp only [List.length_cons, List.length_nil]; omega) _)).trans ?_ | refine (lK _ _).trans ?_ | refine (ok_t (v := .string ⟨⟨ta⟩⟩) (h2 := h1) (by (conv => lhs; whnf); exact S_call hS fun R J c => rT _ (by omega) R J c) _).trans ?_
      | refine (le_t hle1 _).trans ?_ | refine (b2 hS (add_str (l := acc ++ [1]) (m := ta) (by rw [ha1]; omega) _)).trans ?_ | refine (lW _ _).trans ?_ | refine (ok_t (v := .string ⟨⟨tb⟩⟩) (h2 := h2) (by (conv => lhs; whnf); exact S_call hS fun R J c => rV _ (by omega) R J c) _).trans ?_ | refine (le_t hle2 _).trans ?_ | refine (b2 hS (add_str (l := acc ++ [1] ++ ta) (m := tb) (by rw [ha2]; omega) _)).trans ?_ | refine (reads_lm 16512 (by kernel_rfl)).trans ?_ | refine (lV _ _).trans ?_); (conv => lhs; whnf))
    first | done | rfl
  all_goals rfl
end
theorem rr_loop {S : Stops} (hS : S.Real B1) {k' off cap n : Nat} {l : List Entr} (hn : l.length = n) (hnb : n ≤ 1073741824) : ∀ (rest : List Entr) {i : Nat} {tm : T Value} {h : Hp} {acc : List UInt8}, l.drop i = rest → i ≤ n →
    Span h (.slice (some ⟨k', off, none⟩) n cap) 3 n (cellsE l) → isFull 6 tm = true → tm.find 0 = some (.slice (some ⟨k', off, none⟩) n cap) → tm.find 3 = some (.string ⟨⟨acc⟩⟩) → tm.find 4 = some (.int .i64 (.ofNat i)) →
    sizeE rest ≤ 1073741824 → acc.length + sizeE rest ≤ 1073741824 →
    ∃ tm' h' N, isFull 6 tm' = true ∧ tm'.find 3 = some (.string ⟨⟨acc ++ recL rest⟩⟩) ∧ Same (fun _ => False) h h' ∧ ∀ m, N ≤ m → ∀ R J K, S.W R J m (loopB B1 12 0) ⟨tm, h, 42, 12, none, []⟩ K = K (.exit 0) ⟨tm', h', 42, 12, none, []⟩
  | [], i, tm, h, acc, hd, hi, hx, hf, h0, h3, h4, hs, hm => by
    have : i = n := by
      have := congrArg List.length hd
      simp at this
      omega
    subst this
    obtain ⟨tm', a1, a2, a3⟩ := rr_exit (h := h) hS hf h0 h3 h4
    refine ⟨tm', h, 20, a1, by simpa [recL] using a2, Same.refl h, fun m hm R J K => ?_⟩
    obtain ⟨q, rfl⟩ : ∃ q, m = q + 20 := ⟨m - 20, by omega⟩
    exact a3 q R J K
  | (a, b, g) :: rest, i, tm, h, acc, hd, hi, hx, hf, h0, h3, h4, hs, hm => by
    obtain ⟨he, hd'⟩ := drop_cons hd
    have hil : i < l.length := (List.getElem?_eq_some_iff.1 he).1
    have hs' : a.length + b.length + 21 + sizeE rest ≤ 1073741824 := hs
    have hm' : acc.length + (a.length + b.length + 21 + sizeE rest) ≤ 1073741824 := hm
    have va := vari_len 9 a.length (Nat.lt_of_lt_of_le (show a.length < 1073741824 by omega) (by decide))
    have vb := vari_len 9 b.length (Nat.lt_of_lt_of_le (show b.length < 1073741824 by omega) (by decide))
    obtain ⟨lK, lV, lG⟩ := span_loads hx he hn
    obtain ⟨h1, ⟨N1, rT⟩, s1⟩ := refText_does (l := a) (by omega) h
    have la : (vari a.length ++ a).length ≤ 10 + a.length := by rw [List.length_append]; omega
    cases g with
    | true =>
      obtain ⟨tm2, c1, c2, c3, c4, c5⟩ := rr_gone (N := N1) hS hf h0 h3 h4 (by omega) hnb lG lK (by omega) (by omega) rT
      have hl : (acc ++ [2] ++ (vari a.length ++ a)).length ≤ acc.length + 11 + a.length := by
        rw [List.length_append, List.length_append]
        simp only [List.length_cons, List.length_nil]
        omega
      obtain ⟨tm', h', N, d1, d2, d3, d4⟩ := rr_loop hS hn hnb rest hd' (by omega) (hx.same s1 fun _ _ e => e) c1 c2 c3 c4 (by omega) (by omega)
      refine ⟨tm', h', N + N1 + 20, d1, ?_, s1.trans d3, fun m hm R J K => ?_⟩
      · rw [d2, recL_cons]
        simp [recE]
      · obtain ⟨q, rfl⟩ : ∃ q, m = q + 20 := ⟨m - 20, by omega⟩
        rw [c5 q (by omega)]
        exact d4 _ (by omega) R J K
    | false =>
      obtain ⟨h2, ⟨N2, rV⟩, s2⟩ := refText_does (l := b) (by omega) h1
      have lb : (vari b.length ++ b).length ≤ 10 + b.length := by rw [List.length_append]; omega
      obtain ⟨_, lW, _⟩ := span_loads (hx.same s1 fun _ _ e => e) he hn
      obtain ⟨tm2, c1, c2, c3, c4, c5⟩ := rr_put (N := N1 + N2) hS hf h0 h3 h4 (by omega) hnb lG lK lV lW (by omega) (by omega) (by omega) s1.1 s2.1 (Gives.le rT (by omega)) (Gives.le rV (by omega))
      have hl : (acc ++ [1] ++ (vari a.length ++ a) ++ (vari b.length ++ b)).length ≤ acc.length + 21 + a.length + b.length := by
        rw [List.length_append, List.length_append, List.length_append]
        simp only [List.length_cons, List.length_nil]
        omega
      obtain ⟨tm', h', N, d1, d2, d3, d4⟩ := rr_loop hS hn hnb rest hd' (by omega) ((hx.same s1 fun _ _ e => e).same s2 fun _ _ e => e) c1 c2 c3 c4 (by omega) (by omega)
      refine ⟨tm', h', N + N1 + N2 + 20, d1, ?_, (s1.trans s2).trans d3, fun m hm R J K => ?_⟩
      · rw [d2, recL_cons]
        simp [recE]
      · obtain ⟨q, rfl⟩ : ∃ q, m = q + 20 := ⟨m - 20, by omega⟩
        rw [c5 q (by omega)]
        exact d4 _ (by omega) R J K
/-- entries, as an argument. -/
noncomputable def Arg (h : Hp) (x : Value) (l : List Entr) : Prop := ∃ b cap, x = .slice b l.length cap ∧ (l ≠ [] → ∃ k off, b = some ⟨k, off, none⟩ ∧ k < h.next ∧ Span h x 3 l.length (cellsE l))
theorem Arg.same {h h' : Hp} {x : Value} {l : List Entr} (a : Arg h x l) (s : Same (fun _ => False) h h') : Arg h' x l := by
  obtain ⟨b, cap, rfl, hx⟩ := a
  refine ⟨b, cap, rfl, fun hl => ?_⟩
  obtain ⟨k, off, rfl, hk, hs⟩ := hx hl
  exact ⟨k, off, rfl, Nat.lt_of_lt_of_le hk s.1, hs.same s fun _ _ e => e⟩
theorem refRecord_does {x : Value} {l : List Entr} {h : Hp} (a : Arg h x l) (hnb : l.length ≤ 1073741824) (hs : sizeE l ≤ 1073741824) : ∃ h', Runs B1 12 [x] h (.string ⟨⟨recL l⟩⟩) h' ∧ Same (fun _ => False) h h' := by
  obtain ⟨b, cap, rfl, hx⟩ := a
  let x : Value := .slice b l.length cap
  let tm0 : T Value := ((((fullT 6).put 0 (some x)).put 2 (some (.string ⟨⟨[]⟩⟩))).put 3 (some (.string ⟨⟨[]⟩⟩))).put 4 (some (.int .i64 (.ofNat 0)))
  have key : ∃ tm' h' N, isFull 6 tm' = true ∧ tm'.find 3 = some (.string ⟨⟨recL l⟩⟩) ∧ Same (fun _ => False) h h' ∧ ∀ m, N ≤ m → ∀ (R : Type) (J : R → R → Bool) K, (stops B1).W R J m (loopB B1 12 0) ⟨tm0, h, 42, 12, none, []⟩ K = K (.exit 0) ⟨tm', h', 42, 12, none, []⟩ := by
    by_cases hl : l = []
    · subst hl
      obtain ⟨tm', a1, a2, a3⟩ := rr_exit (tm := tm0) (h := h) (stops_real B1) rfl rfl rfl rfl
      refine ⟨tm', h, 20, a1, a2, Same.refl h, fun m hm R J K => ?_⟩
      obtain ⟨q, rfl⟩ : ∃ q, m = q + 20 := ⟨m - 20, by omega⟩
      exact a3 q R J K
    · obtain ⟨k, off, rfl, hk, hsp⟩ := hx hl
      exact rr_loop (stops_real B1) rfl hnb l (i := 0) (tm := tm0) rfl (by omega) hsp rfl rfl rfl rfl hs (by simpa using hs)
  obtain ⟨tm', h', N, a1, a2, a3, a4⟩ := key
  obtain ⟨g, rfl⟩ := full_look a1 [(3, .string ⟨⟨recL l⟩⟩)] (by simp [a2])
  refine ⟨h', runs_of B1 N fun S hS m hm R J c => ?_, a3⟩
  unfold enterS
  conv => lhs; whnf
  repeat ((first
    | refine (V_all hS).trans ?_ | refine (fV_bool _ _).trans ?_ | refine (fN_eq _ _).trans ?_ | refine (S_cons hS).trans ?_ | refine (S_nil hS).trans ?_ | refine (nxB1 hS).trans ?_ | refine (nxB0 hS).trans ?_ | refine (newBlk_eq _ _ _).trans ?_ | refine (nxNc).trans ?_ | refine (nxLe).trans ?_ | refine (nxPn hS).trans ?_ | refine (nxLs).trans ?_ | refine (nxLt).trans ?_ | refine (S_draw0 hS (by rfl) (by kernel_rfl) (by rfl)).trans ?_ | refine (S_draw2 hS (by kernel_rfl) (by rfl)).trans ?_ | refine (nxZ).trans ?_ | refine (nxT hS).trans ?_ | refine (nxF hS).trans ?_ | refine (nxAdd hS).trans ?_ | refine (nxSub hS).trans ?_ | refine (nxMul hS).trans ?_ | refine (nxShr hS).trans ?_ | refine (nxShl hS).trans ?_ | refine (nxRem hS).trans ?_ | refine (nxQuo hS).trans ?_ | refine (nxOr hS).trans ?_ | refine (nxAnd hS).trans ?_ | refine (nxCv hS).trans ?_ | refine (nxC8 hS).trans ?_
    | refine (reads_nil).trans ?_ | refine (reads_off).trans ?_ | refine (reads_pure).trans ?_ | refine (reads_loud).trans ?_ | refine (reads_alloc).trans ?_ | refine (reads_0 (by rfl)).trans ?_ | refine (reads_1 (by rfl)).trans ?_ | refine (stages_nil).trans ?_ | refine (stages_yes (by rfl) (by rfl)).trans ?_ | refine (stages_no (by rfl)).trans ?_ | refine (nxLa).trans ?_ | refine (again_s hS).trans ?_ | refine (nxEq).trans ?_ | refine (fL_eq _ _).trans ?_ | refine (nxAt).trans ?_); (conv => lhs; whnf))
  refine (S_run hS (x := ?_) ?_).trans ?_
  rotate_left
  · refine a4 _ ?_ R J _
    omega
  conv => lhs; whnf
  repeat ((first
    | refine (V_all hS).trans ?_ | refine (fV_bool _ _).trans ?_ | refine (fN_eq _ _).trans ?_ | refine (S_cons hS).trans ?_ | refine (S_nil hS).trans ?_ | refine (nxB1 hS).trans ?_ | refine (nxB0 hS).trans ?_ | refine (newBlk_eq _ _ _).trans ?_ | refine (nxNc).trans ?_ | refine (nxLe).trans ?_ | refine (nxPn hS).trans ?_ | refine (nxLs).trans ?_ | refine (nxLt).trans ?_ | refine (S_draw0 hS (by rfl) (by kernel_rfl) (by rfl)).trans ?_ | refine (S_draw2 hS (by kernel_rfl) (by rfl)).trans ?_ | refine (nxZ).trans ?_ | refine (nxT hS).trans ?_ | refine (nxF hS).trans ?_ | refine (nxAdd hS).trans ?_ | refine (nxSub hS).trans ?_ | refine (nxMul hS).trans ?_ | refine (nxShr hS).trans ?_ | refine (nxShl hS).trans ?_ | refine (nxRem hS).trans ?_ | refine (nxQuo hS).trans ?_ | refine (nxOr hS).trans ?_ | refine (nxAnd hS).trans ?_ | refine (nxCv hS).trans ?_ | refine (nxC8 hS).trans ?_
    | refine (reads_nil).trans ?_ | refine (reads_off).trans ?_ | refine (reads_pure).trans ?_ | refine (reads_loud).trans ?_ | refine (reads_alloc).trans ?_ | refine (reads_0 (by rfl)).trans ?_ | refine (reads_1 (by rfl)).trans ?_ | refine (stages_nil).trans ?_ | refine (stages_yes (by rfl) (by rfl)).trans ?_ | refine (stages_no (by rfl)).trans ?_ | refine (nxLa).trans ?_ | refine (again_s hS).trans ?_ | refine (nxEq).trans ?_ | refine (fL_eq _ _).trans ?_ | refine (nxAt).trans ?_); (conv => lhs; whnf))
  first | done | rfl
theorem record_does {x : Value} {l : List Entr} {h : Hp} (a : Arg h x l) (hnb : l.length ≤ 1073741824) (hs : sizeE l ≤ 1073741824) : ∃ h', Runs B1 10 [x] h (.string ⟨⟨recL l⟩⟩) h' ∧ Same (fun _ => False) h h' := by
  obtain ⟨b, cap, rfl, hx⟩ := a
  let x : Value := .slice b l.length cap
  let tm0 : T Value := ((((((fullT 6).put 0 (some x)).put 2 (some (.string ⟨⟨[]⟩⟩))).put 3 (some (.int .i64 (.ofNat 0)))).put 11 (some x)).put 12 (some (.int .i64 (.ofNat l.length)))).put 13 (some (.int .i64 (.ofNat 0)))
  have key : ∃ tm' h' N, isFull 6 tm' = true ∧ tm'.find 0 = some x ∧ tm'.find 3 = some (.int .i64 (.ofNat (sizeE l))) ∧ Same (fun _ => False) h h' ∧ ∀ m, N ≤ m → ∀ (R : Type) (J : R → R → Bool) K, (stops B1).W R J m (loopB B1 10 0) ⟨tm0, h, 61, 10, none, []⟩ K = K (.exit 0) ⟨tm', h', 61, 10, none, []⟩ := by
    by_cases hl : l = []
    · subst hl
      obtain ⟨tm', a1, a2, a3, a4⟩ := size_exit (tm := tm0) (h := h) (x := x) (stops_real B1) rfl rfl rfl rfl rfl
      refine ⟨tm', h, 20, a1, a2, a3, Same.refl h, fun m hm R J K => ?_⟩
      obtain ⟨q, rfl⟩ : ∃ q, m = q + 20 := ⟨m - 20, by omega⟩
      exact a4 q R J K
    · obtain ⟨k, off, rfl, hk, hsp⟩ := hx hl
      obtain ⟨tm', h', a1, a2, a3, a4, a5⟩ := size_loop (stops_real B1) rfl hnb l (i := 0) (size := 0) (tm := tm0) rfl (by omega) hsp rfl rfl rfl rfl rfl rfl (by simpa using hs)
      refine ⟨tm', h', l.length + 20, a1, a2, by simpa using a3, a4, fun m hm R J K => ?_⟩
      obtain ⟨q, rfl⟩ : ∃ q, m = q + l.length + 20 := ⟨m - l.length - 20, by omega⟩
      exact a5 q R J K
  obtain ⟨tm1, h1, N1, a1, a2, a3, s1, a4⟩ := key
  obtain ⟨g, rfl⟩ := full_look a1 [(0, x), (3, .int .i64 (.ofNat (sizeE l)))] (by simp [a2, a3])
  obtain ⟨h2, ⟨N2, r2⟩, w2, s2⟩ := newWriter_does (most := sizeE l) h1
  let tm2 : T Value := ((((((ofFun 6 (Ev.look g [(0, x), (3, .int .i64 (.ofNat (sizeE l)))])).put 28 (some (.int .i64 (.ofNat (sizeE l))))).put 29 (some (ptr h1.next))).put 6 (some (ptr h1.next))).put 30 (some x)).put 31 (some (.int .i64 (.ofNat l.length)))).put 32 (some (.int .i64 (.ofNat 0)))
  have n2 : h1.next ≤ h2.next := s2.1
  have key2 : ∃ tm' h' N, isFull 6 tm' = true ∧ tm'.find 6 = some (ptr h1.next) ∧ (∃ F, Wr h' h1.next F (sizeE l) (bys (recL l))) ∧ Same (fun j => h1.next ≤ j) h2 h' ∧ ∀ m, N ≤ m → ∀ (R : Type) (J : R → R → Bool) K, (stops B1).W R J m (loopB B1 10 1) ⟨tm2, h2, 61, 10, none, []⟩ K = K (.exit 2) ⟨tm', h', 61, 10, none, []⟩ := by
    by_cases hl : l = []
    · subst hl
      obtain ⟨tm', a1, a2, a3⟩ := rec_exit (tm := tm2) (h := h2) (stops_real B1) rfl rfl rfl rfl
      refine ⟨tm', h2, 20, a1, a2, ⟨_, w2⟩, Same.refl h2, fun m hm R J K => ?_⟩
      obtain ⟨q, rfl⟩ : ∃ q, m = q + 20 := ⟨m - 20, by omega⟩
      exact a3 q R J K
    · obtain ⟨k, off, rfl, hk, hsp⟩ := hx hl
      have hk1 : k < h1.next := Nat.lt_of_lt_of_le hk s1.1
      obtain ⟨tm', h', N, b1, b2, b3, b4, b5⟩ := rec_loop (stops_real B1) (B0 := h1.next) rfl hnb hs hk1 l (i := 0) (tm := tm2) (L := []) rfl (by omega) ((hsp.same s1 fun _ _ e => e).same s2 fun _ _ e => e) (w2.mono fun j hj e => ⟨by omega, hj⟩) n2 rfl rfl rfl rfl rfl hs (by simp)
      exact ⟨tm', h', N, b1, b2, ⟨_, by simpa using b3⟩, b4, b5⟩
  obtain ⟨tm3, h3, N3, b1, b2, ⟨F, w3⟩, s3, b4⟩ := key2
  obtain ⟨g3, rfl⟩ := full_look b1 [(6, ptr h1.next)] (by simp [b2])
  obtain ⟨N4, r4⟩ := done_does w3
  have sAll : Same (fun _ => False) h h3 := ((s1.mono (S' := fun j => h.next ≤ j) fun _ _ e => e.elim).trans ((s2.mono fun _ _ e => e.elim).trans (s3.mono fun j _ e => Nat.le_trans s1.1 e))).mono fun j hj e => by omega
  refine ⟨h3, runs_of B1 (N1 + N2 + N3 + N4) fun S hS m hm R J c => ?_, sAll⟩
  unfold enterS
  conv => lhs; whnf
  repeat ((first
    | refine (V_all hS).trans ?_ | refine (fV_bool _ _).trans ?_ | refine (fN_eq _ _).trans ?_ | refine (S_cons hS).trans ?_ | refine (S_nil hS).trans ?_ | refine (nxB1 hS).trans ?_ | refine (nxB0 hS).trans ?_ | refine (newBlk_eq _ _ _).trans ?_ | refine (nxNc).trans ?_ | refine (nxLe).trans ?_ | refine (nxPn hS).trans ?_ | refine (nxLs).trans ?_ | refine (nxLt).trans ?_ | refine (S_draw0 hS (by rfl) (by kernel_rfl) (by rfl)).trans ?_ | refine (S_draw2 hS (by kernel_rfl) (by rfl)).trans ?_ | refine (nxZ).trans ?_ | refine (nxT hS).trans ?_ | refine (nxF hS).trans ?_ | refine (nxAdd hS).trans ?_ | refine (nxSub hS).trans ?_ | refine (nxMul hS).trans ?_ | refine (nxShr hS).trans ?_ | refine (nxShl hS).trans ?_ | refine (nxRem hS).trans ?_ | refine (nxQuo hS).trans ?_ | refine (nxOr hS).trans ?_ | refine (nxAnd hS).trans ?_ | refine (nxCv hS).trans ?_ | refine (nxC8 hS).trans ?_
    | refine (reads_nil).trans ?_ | refine (reads_off).trans ?_ | refine (reads_pure).trans ?_ | refine (reads_loud).trans ?_ | refine (reads_alloc).trans ?_ | refine (reads_0 (by rfl)).trans ?_ | refine (reads_1 (by rfl)).trans ?_ | refine (stages_nil).trans ?_ | refine (stages_yes (by rfl) (by rfl)).trans ?_ | refine (stages_no (by rfl)).trans ?_ | refine (nxLa).trans ?_ | refine (again_s hS).trans ?_ | refine (nxEq).trans ?_ | refine (fL_eq _ _).trans ?_ | refine (nxAt).trans ?_); (conv => lhs; whnf))
  refine (S_run hS (x := ?_) ?_).trans ?_
  rotate_left
  · refine a4 _ ?_ R J _
    omega
  conv => lhs; whnf
  repeat ((first
    | refine (V_all hS).trans ?_ | refine (fV_bool _ _).trans ?_ | refine (fN_eq _ _).trans ?_ | refine (S_cons hS).trans ?_ | refine (S_nil hS).trans ?_ | refine (nxB1 hS).trans ?_ | refine (nxB0 hS).trans ?_ | refine (newBlk_eq _ _ _).trans ?_ | refine (nxNc).trans ?_ | refine (nxLe).trans ?_ | refine (nxPn hS).trans ?_ | refine (nxLs).trans ?_ | refine (nxLt).trans ?_ | refine (S_draw0 hS (by rfl) (by kernel_rfl) (by rfl)).trans ?_ | refine (S_draw2 hS (by kernel_rfl) (by rfl)).trans ?_ | refine (nxZ).trans ?_ | refine (nxT hS).trans ?_ | refine (nxF hS).trans ?_ | refine (nxAdd hS).trans ?_ | refine (nxSub hS).trans ?_ | refine (nxMul hS).trans ?_ | refine (nxShr hS).trans ?_ | refine (nxShl hS).trans ?_ | refine (nxRem hS).trans ?_ | refine (nxQuo hS).trans ?_ | refine (nxOr hS).trans ?_ | refine (nxAnd hS).trans ?_ | refine (nxCv hS).trans ?_ | refine (nxC8 hS).trans ?_
    | refine (reads_nil).trans ?_ | refine (reads_off).trans ?_ | refine (reads_pure).trans ?_ | refine (reads_loud).trans ?_ | refine (reads_alloc).trans ?_ | refine (reads_0 (by rfl)).trans ?_ | refine (reads_1 (by rfl)).trans ?_ | refine (stages_nil).trans ?_ | refine (stages_yes (by rfl) (by rfl)).trans ?_ | refine (stages_no (by rfl)).trans ?_ | refine (nxLa).trans ?_ | refine (again_s hS).trans ?_ | refine (nxEq).trans ?_ | refine (fL_eq _ _).trans ?_ | refine (nxAt).trans ?_ | refine (S_call hS fun R J c => r2 _ (by omega) R J c).trans ?_); (conv => lhs; whnf))
  refine (S_run hS (x := ?_) ?_).trans ?_
  rotate_left
  · refine b4 _ ?_ R J _
    omega
  conv => lhs; whnf
  repeat ((first
    | refine (V_all hS).trans ?_ | refine (fV_bool _ _).trans ?_ | refine (fN_eq _ _).trans ?_ | refine (S_cons hS).trans ?_ | refine (S_nil hS).trans ?_ | refine (nxB1 hS).trans ?_ | refine (nxB0 hS).trans ?_ | refine (newBlk_eq _ _ _).trans ?_ | refine (nxNc).trans ?_ | refine (nxLe).trans ?_ | refine (nxPn hS).trans ?_ | refine (nxLs).trans ?_ | refine (nxLt).trans ?_ | refine (S_draw0 hS (by rfl) (by kernel_rfl) (by rfl)).trans ?_ | refine (S_draw2 hS (by kernel_rfl) (by rfl)).trans ?_ | refine (nxZ).trans ?_ | refine (nxT hS).trans ?_ | refine (nxF hS).trans ?_ | refine (nxAdd hS).trans ?_ | refine (nxSub hS).trans ?_ | refine (nxMul hS).trans ?_ | refine (nxShr hS).trans ?_ | refine (nxShl hS).trans ?_ | refine (nxRem hS).trans ?_ | refine (nxQuo hS).trans ?_ | refine (nxOr hS).trans ?_ | refine (nxAnd hS).trans ?_ | refine (nxCv hS).trans ?_ | refine (nxC8 hS).trans ?_
    | refine (reads_nil).trans ?_ | refine (reads_off).trans ?_ | refine (reads_pure).trans ?_ | refine (reads_loud).trans ?_ | refine (reads_alloc).trans ?_ | refine (reads_0 (by rfl)).trans ?_ | refine (reads_1 (by rfl)).trans ?_ | refine (stages_nil).trans ?_ | refine (stages_yes (by rfl) (by rfl)).trans ?_ | refine (stages_no (by rfl)).trans ?_ | refine (nxLa).trans ?_ | refine (again_s hS).trans ?_ | refine (nxEq).trans ?_ | refine (fL_eq _ _).trans ?_ | refine (nxAt).trans ?_ | refine (S_call hS fun R J c => r4 _ (by omega) R J c).trans ?_); (conv => lhs; whnf))
  first | done | rfl
end Go.Proofs.YtopkigockpiggaaGreat
