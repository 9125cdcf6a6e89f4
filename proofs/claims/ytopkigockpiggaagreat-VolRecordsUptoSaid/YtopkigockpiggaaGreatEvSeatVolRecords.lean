/-
  VolRecords, walked.
-/
import Derived.Test.YtopkigockpiggaaGreatEvSeatRefEnts
import Derived.Test.YtopkigockpiggaaGreatEvSeatRefRecord
set_option maxRecDepth 100000
set_option linter.unusedVariables false
set_option linter.unusedSimpArgs false
open Go Go.Ev
namespace Go.Proofs.YtopkigockpiggaaGreat
theorem neq_ent {a b : List UInt8} {g : Bool} {h : Hp} {R : Type} (c : Value → An R) :
    binK B1 .neq 33 (.agg ⟨[.string ⟨⟨a⟩⟩, .string ⟨⟨b⟩⟩, .bool g]⟩) (.agg ⟨[.string ⟨⟨a⟩⟩, .string ⟨⟨b⟩⟩, .bool g]⟩) h c = c (.bool false) := by
  have e1 : (a == a) = true := beq_self_eq_true a
  have e2 : (b == b) = true := beq_self_eq_true b
  have e3 : (g == g) = true := beq_self_eq_true g
  unfold binK
  simp only
  have hp : B1.plain.contains 33 = true := by rfl
  rw [hp]
  simp only
  unfold und
  rw [show B1.un.find 33 = some (.struct #[{ name := "Key", type := 9, offset := 0, embedded := false, tag := "", pkgPath := "", byteOffset := 0 }, { name := "Value", type := 9, offset := 1, embedded := false, tag := "", pkgPath := "", byteOffset := 16 }, { name := "Gone", type := 4, offset := 2, embedded := false, tag := "", pkgPath := "", byteOffset := 32 }]) by rfl]
  simp only
  unfold sameFlds
  simp only [sameFldsG, show ("Key" == "_") = false by rfl, show ("Value" == "_") = false by rfl, show ("Gone" == "_") = false by rfl, und, show B1.un.find 9 = some .string by rfl, show B1.un.find 4 = some .bool by rfl, e1, e2, e3, List.getElem?_cons_zero, List.getElem?_cons_succ]
  exact fV_bool _ _
theorem tell6 {h : Hp} {R : Type} (c : Value → Hp → An R) : tellK B1 6 [] h c = c (.bool true) h := by rfl
theorem nes_self {t : TypeId} {l : List UInt8} {h : Hp} {R : Type} (c : Value → An R) : binK B1 .neq t (.string ⟨⟨l⟩⟩) (.string ⟨⟨l⟩⟩) h c = c (.bool false) := by
  rw [nes_b, beq_self_eq_true]
  rfl
attribute [local irreducible] loadAt storeAt newBlk newCells writeAt appendK binK indexAddrK indexK sliceK lenK convK fN fV fL boolK maxK zeroOf enterK drawK rowsK leK okK readsK stagesK lastK againK eqvK tellK
section
variable {S : Stops} {tm : T Value} {h : Hp} {ka oa ca kb ob cb n i : Nat} {l : List Entr} {e : Entr}
theorem law_exit (hS : S.Real B1) {x y : Value} {xb : Option Addr} (hx : x = .slice xb n ca) (hf : isFull 6 tm = true) (h5 : tm.find 5 = some x) (h9 : tm.find 9 = some (.int .i64 (.ofNat n))) :
    ∃ tm', isFull 6 tm' = true ∧ ∀ m R J K, S.W R J (m + 20) (loopB B1 4 0) ⟨tm, h, 56, 4, none, []⟩ K = K (.exit 0) ⟨tm', h, 56, 4, none, []⟩ := by
  subst hx
  obtain ⟨g, rfl⟩ := full_look hf [(5, .slice xb n ca), (9, .int .i64 (.ofNat n))] (by simp [h5, h9])
  refine ⟨?tm, ?_, ?walk⟩
  case walk =>
    intro m R J K
    refine (S_loop hS).trans ?_
    conv => lhs; whnf
    repeat ((first
      | refine (V_all hS).trans ?_ | refine (fV_bool _ _).trans ?_ | refine (fN_eq _ _).trans ?_ | refine (S_cons hS).trans ?_ | refine (S_nil hS).trans ?_ | refine (nxB1 hS).trans ?_ | refine (nxB0 hS).trans ?_ | refine (newBlk_eq _ _ _).trans ?_ | refine (nxNc).trans ?_ | refine (nxLe).trans ?_ | refine (nxPn hS).trans ?_ | refine (nxLs).trans ?_ | refine (nxLt).trans ?_ | refine (S_draw0 hS (by rfl) (by kernel_rfl) (by rfl)).trans ?_ | refine (S_draw2 hS (by kernel_rfl) (by rfl)).trans ?_ | refine (nxZ).trans ?_ | refine (nxT hS).trans ?_ | refine (nxF hS).trans ?_ | refine (nxAdd hS).trans ?_ | refine (nxSub hS).trans ?_ | refine (nxMul hS).trans ?_ | refine (nxShr hS).trans ?_ | refine (nxShl hS).trans ?_ | refine (nxRem hS).trans ?_ | refine (nxQuo hS).trans ?_ | refine (nxOr hS).trans ?_ | refine (nxAnd hS).trans ?_ | refine (nxCv hS).trans ?_ | refine (nxC8 hS).trans ?_
      | refine (reads_nil).trans ?_ | refine (reads_off).trans ?_ | refine (reads_pure).trans ?_ | refine (reads_loud).trans ?_ | refine (reads_alloc).trans ?_ | refine (reads_0 (by rfl)).trans ?_ | refine (reads_1 (by rfl)).trans ?_ | refine (stages_nil).trans ?_ | refine (stages_yes (by rfl) (by rfl)).trans ?_ | refine (stages_no (by rfl)).trans ?_ | refine (nxLa).trans ?_ | refine (again_s hS).trans ?_ | refine (nxEq).trans ?_ | refine (fL_eq _ _).trans ?_ | refine (nxAt).trans ?_); (conv => lhs; whnf))
    first | done | rfl
  all_goals rfl
theorem law_step (hS : S.Real B1) (hx : Span h (.slice (some ⟨ka, oa, none⟩) n ca) 3 n (cellsE l)) (hy : Span h (.slice (some ⟨kb, ob, none⟩) n cb) 3 n (cellsE l)) (he : l[i]? = some e) (hi : i < n) (hnb : n ≤ 1073741824)
    (hf : isFull 6 tm = true) (h5 : tm.find 5 = some (.slice (some ⟨ka, oa, none⟩) n ca)) (h7 : tm.find 7 = some (.slice (some ⟨kb, ob, none⟩) n cb)) (h9 : tm.find 9 = some (.int .i64 (.ofNat i))) :
    ∃ tm', isFull 6 tm' = true ∧ tm'.find 5 = some (.slice (some ⟨ka, oa, none⟩) n ca) ∧ tm'.find 7 = some (.slice (some ⟨kb, ob, none⟩) n cb) ∧ tm'.find 9 = some (.int .i64 (.ofNat (i + 1))) ∧
      ∀ m R J K, S.W R J (m + 20) (loopB B1 4 0) ⟨tm, h, 56, 4, none, []⟩ K = S.W R J (m + 19) (loopB B1 4 0) ⟨tm', h, 56, 4, none, []⟩ K := by
  obtain ⟨g, rfl⟩ := full_look hf [(5, .slice (some ⟨ka, oa, none⟩) n ca), (7, .slice (some ⟨kb, ob, none⟩) n cb), (9, .int .i64 (.ofNat i))] (by simp [h5, h7, h9])
  refine ⟨?tm, ?_, ?_, ?_, ?_, ?walk⟩
  case walk =>
    intro m R J K
    refine (S_loop hS).trans ?_
    conv => lhs; whnf
    repeat ((first
      | refine (V_all hS).trans ?_ | refine (fV_bool _ _).trans ?_ | refine (fN_eq _ _).trans ?_ | refine (S_cons hS).trans ?_ | refine (S_nil hS).trans ?_ | refine (nxB1 hS).trans ?_ | refine (nxB0 hS).trans ?_ | refine (newBlk_eq _ _ _).trans ?_ | refine (nxNc).trans ?_ | refine (nxLe).trans ?_ | refine (nxPn hS).trans ?_ | refine (nxLs).trans ?_ | refine (nxLt).trans ?_ | refine (S_draw0 hS (by rfl) (by kernel_rfl) (by rfl)).trans ?_ | refine (S_draw2 hS (by kernel_rfl) (by rfl)).trans ?_ | refine (nxZ).trans ?_ | refine (nxT hS).trans ?_ | refine (nxF hS).trans ?_ | refine (nxAdd hS).trans ?_ | refine (nxSub hS).trans ?_ | refine (nxMul hS).trans ?_ | refine (nxShr hS).trans ?_ | refine (nxShl hS).trans ?_ | refine (nxRem hS).trans ?_ | refine (nxQuo hS).trans ?_ | refine (nxOr hS).trans ?_ | refine (nxAnd hS).trans ?_ | refine (nxCv hS).trans ?_ | refine (nxC8 hS).trans ?_
      | refine (reads_nil).trans ?_ | refine (reads_off).trans ?_ | refine (reads_pure).trans ?_ | refine (reads_loud).trans ?_ | refine (reads_alloc).trans ?_ | refine (reads_0 (by rfl)).trans ?_ | refine (reads_1 (by rfl)).trans ?_ | refine (stages_nil).trans ?_ | refine (stages_yes (by rfl) (by rfl)).trans ?_ | refine (stages_no (by rfl)).trans ?_ | refine (nxLa).trans ?_ | refine (again_s hS).trans ?_ | refine (nxEq).trans ?_ | refine (fL_eq _ _).trans ?_ | refine (nxAt).trans ?_ | refine (load_ent hx he _).trans ?_ | refine (load_ent hy he _).trans ?_ | refine (b2 hS (neq_ent _)).trans ?_); (conv => lhs; whnf))
    first | done | rfl
  all_goals rfl
theorem law_loop (hS : S.Real B1) (hn : l.length = n) (hnb : n ≤ 1073741824) (hx : Span h (.slice (some ⟨ka, oa, none⟩) n ca) 3 n (cellsE l)) (hy : Span h (.slice (some ⟨kb, ob, none⟩) n cb) 3 n (cellsE l)) : ∀ (d : Nat) {i : Nat} {tm : T Value}, n - i = d → i ≤ n →
    isFull 6 tm = true → tm.find 5 = some (.slice (some ⟨ka, oa, none⟩) n ca) → tm.find 7 = some (.slice (some ⟨kb, ob, none⟩) n cb) → tm.find 9 = some (.int .i64 (.ofNat i)) →
    ∃ tm', isFull 6 tm' = true ∧ ∀ m, d + 20 ≤ m → ∀ R J K, S.W R J m (loopB B1 4 0) ⟨tm, h, 56, 4, none, []⟩ K = K (.exit 0) ⟨tm', h, 56, 4, none, []⟩
  | 0, i, tm, hd, hi, hf, h5, h7, h9 => by
    have : i = n := by omega
    subst this
    obtain ⟨tm', a1, a2⟩ := law_exit (h := h) (y := .slice none 0 0) hS rfl hf h5 h9
    refine ⟨tm', a1, fun m hm R J K => ?_⟩
    obtain ⟨q, rfl⟩ : ∃ q, m = q + 20 := ⟨m - 20, by omega⟩
    exact a2 q R J K
  | d + 1, i, tm, hd, hi, hf, h5, h7, h9 => by
    have hil : i < l.length := by omega
    obtain ⟨tm2, c1, c2, c3, c4, c5⟩ := law_step hS hx hy (List.getElem?_eq_getElem hil) (by omega) hnb hf h5 h7 h9
    obtain ⟨tm', d1, d2⟩ := law_loop hS hn hnb hx hy d (by omega) (by omega) c1 c2 c3 c4
    refine ⟨tm', d1, fun m hm R J K => ?_⟩
    obtain ⟨q, rfl⟩ : ∃ q, m = q + 20 := ⟨m - 20, by omega⟩
    rw [c5 q]
    exact d2 _ (by omega) R J K
/-- the loop, in the midst of a walk. -/
theorem law_run (hS : S.Real B1) (hn : l.length = n) (hnb : n ≤ 1073741824) (hx : Span h (.slice (some ⟨ka, oa, none⟩) n ca) 3 n (cellsE l)) (hy : Span h (.slice (some ⟨kb, ob, none⟩) n cb) 3 n (cellsE l))
    {R : Type} {J : R → R → Bool} {m : Nat} {K : Exit → St → An R} {x : An R} (hf : isFull 6 tm = true) (h5 : tm.find 5 = some (.slice (some ⟨ka, oa, none⟩) n ca)) (h7 : tm.find 7 = some (.slice (some ⟨kb, ob, none⟩) n cb)) (h9 : tm.find 9 = some (.int .i64 (.ofNat 0))) (hm : n + 20 ≤ m)
    (hK : ∀ tm', isFull 6 tm' = true → K (.exit 0) ⟨tm', h, 56, 4, none, []⟩ = x) : S.W R J m (loopB B1 4 0) ⟨tm, h, 56, 4, none, []⟩ K = x := by
  obtain ⟨tm', a1, a2⟩ := law_loop hS hn hnb hx hy n (i := 0) (tm := tm) rfl (by omega) hf h5 h7 h9
  rw [a2 m hm]
  exact hK tm' a1
end
/-- what is told of lives. -/
theorem law_nil {s : List UInt8} {x : Value} {h h1 h2 h3 h4 : Hp} {e : Nat} {w : List UInt8} (r1 : Runs B1 11 [.string ⟨⟨s⟩⟩] h (.tuple ⟨[.slice none 0 0, .int .i64 (.ofNat e)]⟩) h1) (r2 : Runs B1 16 [.string ⟨⟨s⟩⟩] h1 (.tuple ⟨[.slice none 0 0, .int .i64 (.ofNat e)]⟩) h2)
    (r3 : Runs B1 10 [x] h2 (.string ⟨⟨w⟩⟩) h3) (r4 : Runs B1 12 [x] h3 (.string ⟨⟨w⟩⟩) h4) : Runs B1 4 [.string ⟨⟨s⟩⟩, x] h (.bool true) h4 := by
  obtain ⟨N1, r1⟩ := r1
  obtain ⟨N2, r2⟩ := r2
  obtain ⟨N3, r3⟩ := r3
  obtain ⟨N4, r4⟩ := r4
  refine runs_of B1 (N1 + N2 + N3 + N4) fun S hS m hm R J c => ?_
  unfold enterS
  conv => lhs; whnf
  repeat ((first
    | refine (V_all hS).trans ?_ | refine (fV_bool _ _).trans ?_ | refine (fN_eq _ _).trans ?_ | refine (S_cons hS).trans ?_ | refine (S_nil hS).trans ?_ | refine (nxB1 hS).trans ?_ | refine (nxB0 hS).trans ?_ | refine (newBlk_eq _ _ _).trans ?_ | refine (nxNc).trans ?_ | refine (nxLe).trans ?_ | refine (nxPn hS).trans ?_ | refine (nxLs).trans ?_ | refine (nxLt).trans ?_ | refine (S_draw0 hS (by rfl) (by kernel_rfl) (by rfl)).trans ?_ | refine (S_draw2 hS (by kernel_rfl) (by rfl)).trans ?_ | refine (nxZ).trans ?_ | refine (nxT hS).trans ?_ | refine (nxF hS).trans ?_ | refine (nxAdd hS).trans ?_ | refine (nxSub hS).trans ?_ | refine (nxMul hS).trans ?_ | refine (nxShr hS).trans ?_ | refine (nxShl hS).trans ?_ | refine (nxRem hS).trans ?_ | refine (nxQuo hS).trans ?_ | refine (nxOr hS).trans ?_ | refine (nxAnd hS).trans ?_ | refine (nxCv hS).trans ?_ | refine (nxC8 hS).trans ?_
    | refine (reads_nil).trans ?_ | refine (reads_off).trans ?_ | refine (reads_pure).trans ?_ | refine (reads_loud).trans ?_ | refine (reads_alloc).trans ?_ | refine (reads_0 (by rfl)).trans ?_ | refine (reads_1 (by rfl)).trans ?_ | refine (stages_nil).trans ?_ | refine (stages_yes (by rfl) (by rfl)).trans ?_ | refine (stages_no (by rfl)).trans ?_ | refine (nxLa).trans ?_ | refine (again_s hS).trans ?_ | refine (nxEq).trans ?_ | refine (fL_eq _ _).trans ?_ | refine (nxAt).trans ?_ | refine (S_call hS fun R J c => r1 _ (by omega) R J c).trans ?_ | refine (S_call hS fun R J c => r2 _ (by omega) R J c).trans ?_ | refine (tell6 _).trans ?_ | refine (S_call hS fun R J c => r3 _ (by omega) R J c).trans ?_ | refine (S_call hS fun R J c => r4 _ (by omega) R J c).trans ?_ | refine (b2 hS (nes_self _)).trans ?_ | refine (S_loop hS).trans ?_); (conv => lhs; whnf))
  first | done | rfl
theorem law_cons {s : List UInt8} {x : Value} {h h1 h2 h3 h4 : Hp} {ka kb n : Nat} {w : List UInt8} {l : List Entr} (r1 : Runs B1 11 [.string ⟨⟨s⟩⟩] h (.tuple ⟨[.slice (some ⟨ka, 0, none⟩) n TOP, .int .i64 (.ofNat 0)]⟩) h1)
    (r2 : Runs B1 16 [.string ⟨⟨s⟩⟩] h1 (.tuple ⟨[.slice (some ⟨kb, 0, none⟩) n TOP, .int .i64 (.ofNat 0)]⟩) h2)
    (r3 : Runs B1 10 [x] h2 (.string ⟨⟨w⟩⟩) h3) (r4 : Runs B1 12 [x] h3 (.string ⟨⟨w⟩⟩) h4) (hn : l.length = n) (hnb : n ≤ 1073741824) (hx : Span h4 (.slice (some ⟨ka, 0, none⟩) n TOP) 3 n (cellsE l)) (hy : Span h4 (.slice (some ⟨kb, 0, none⟩) n TOP) 3 n (cellsE l)) :
    Runs B1 4 [.string ⟨⟨s⟩⟩, x] h (.bool true) h4 := by
  obtain ⟨N1, r1⟩ := r1
  obtain ⟨N2, r2⟩ := r2
  obtain ⟨N3, r3⟩ := r3
  obtain ⟨N4, r4⟩ := r4
  refine runs_of B1 (N1 + N2 + N3 + N4 + n) fun S hS m hm R J c => ?_
  unfold enterS
  conv => lhs; whnf
  repeat ((first
    | refine (V_all hS).trans ?_ | refine (fV_bool _ _).trans ?_ | refine (fN_eq _ _).trans ?_ | refine (S_cons hS).trans ?_ | refine (S_nil hS).trans ?_ | refine (nxB1 hS).trans ?_ | refine (nxB0 hS).trans ?_ | refine (newBlk_eq _ _ _).trans ?_ | refine (nxNc).trans ?_ | refine (nxLe).trans ?_ | refine (nxPn hS).trans ?_ | refine (nxLs).trans ?_ | refine (nxLt).trans ?_ | refine (S_draw0 hS (by rfl) (by kernel_rfl) (by rfl)).trans ?_ | refine (S_draw2 hS (by kernel_rfl) (by rfl)).trans ?_ | refine (nxZ).trans ?_ | refine (nxT hS).trans ?_ | refine (nxF hS).trans ?_ | refine (nxAdd hS).trans ?_ | refine (nxSub hS).trans ?_ | refine (nxMul hS).trans ?_ | refine (nxShr hS).trans ?_ | refine (nxShl hS).trans ?_ | refine (nxRem hS).trans ?_ | refine (nxQuo hS).trans ?_ | refine (nxOr hS).trans ?_ | refine (nxAnd hS).trans ?_ | refine (nxCv hS).trans ?_ | refine (nxC8 hS).trans ?_
    | refine (reads_nil).trans ?_ | refine (reads_off).trans ?_ | refine (reads_pure).trans ?_ | refine (reads_loud).trans ?_ | refine (reads_alloc).trans ?_ | refine (reads_0 (by rfl)).trans ?_ | refine (reads_1 (by rfl)).trans ?_ | refine (stages_nil).trans ?_ | refine (stages_yes (by rfl) (by rfl)).trans ?_ | refine (stages_no (by rfl)).trans ?_ | refine (nxLa).trans ?_ | refine (again_s hS).trans ?_ | refine (nxEq).trans ?_ | refine (fL_eq _ _).trans ?_ | refine (nxAt).trans ?_ | refine (S_call hS fun R J c => r1 _ (by omega) R J c).trans ?_ | refine (S_call hS fun R J c => r2 _ (by omega) R J c).trans ?_ | refine (tell6 _).trans ?_ | refine (S_call hS fun R J c => r3 _ (by omega) R J c).trans ?_ | refine (S_call hS fun R J c => r4 _ (by omega) R J c).trans ?_ | refine (b2 hS (nes_self _)).trans ?_); (conv => lhs; whnf))
  refine law_run hS hn hnb hx hy (by rfl) (by rfl) (by rfl) (by rfl) (by omega) fun tm' hf' => ?_
  obtain ⟨g, rfl⟩ := full_look hf' [] (by simp)
  conv => lhs; whnf
  repeat ((first
    | refine (V_all hS).trans ?_ | refine (fV_bool _ _).trans ?_ | refine (fN_eq _ _).trans ?_ | refine (S_cons hS).trans ?_ | refine (S_nil hS).trans ?_ | refine (nxB1 hS).trans ?_ | refine (nxB0 hS).trans ?_ | refine (newBlk_eq _ _ _).trans ?_ | refine (nxNc).trans ?_ | refine (nxLe).trans ?_ | refine (nxPn hS).trans ?_ | refine (nxLs).trans ?_ | refine (nxLt).trans ?_ | refine (S_draw0 hS (by rfl) (by kernel_rfl) (by rfl)).trans ?_ | refine (S_draw2 hS (by kernel_rfl) (by rfl)).trans ?_ | refine (nxZ).trans ?_ | refine (nxT hS).trans ?_ | refine (nxF hS).trans ?_ | refine (nxAdd hS).trans ?_ | refine (nxSub hS).trans ?_ | refine (nxMul hS).trans ?_ | refine (nxShr hS).trans ?_ | refine (nxShl hS).trans ?_ | refine (nxRem hS).trans ?_ | refine (nxQuo hS).trans ?_ | refine (nxOr hS).trans ?_ | refine (nxAnd hS).trans ?_ | refine (nxCv hS).trans ?_ | refine (nxC8 hS).trans ?_
    | refine (reads_nil).trans ?_ | refine (reads_off).trans ?_ | refine (reads_pure).trans ?_ | refine (reads_loud).trans ?_ | refine (reads_alloc).trans ?_ | refine (reads_0 (by rfl)).trans ?_ | refine (reads_1 (by rfl)).trans ?_ | refine (stages_nil).trans ?_ | refine (stages_yes (by rfl) (by rfl)).trans ?_ | refine (stages_no (by rfl)).trans ?_ | refine (nxLa).trans ?_ | refine (again_s hS).trans ?_ | refine (nxEq).trans ?_ | refine (fL_eq _ _).trans ?_ | refine (nxAt).trans ?_); (conv => lhs; whnf))
  first | done | rfl
theorem rents_len : ∀ (f : Nat) {s : List UInt8} {acc l : List Entr}, rents f acc s = some l → l.length ≤ acc.length + s.length
  | _, [], acc, l, h => by
    unfold rents at h
    cases h
    simp
  | 0, _ :: _, acc, l, h => by cases h
  | f + 1, c :: r, acc, l, h => by
    unfold rents at h
    split at h
    · split at h
      · cases h
      · rename_i key rest ht
        split at h
        · cases h
        · rename_i val rest' ht2
          split at h
          · cases h
          · have h1 := rtext_lt ht
            have h2 := rtext_lt ht2
            have := rents_len f h
            simp at this ⊢
            omega
    · split at h
      · split at h
        · cases h
        · rename_i key rest ht
          split at h
          · cases h
          · have h1 := rtext_lt ht
            have := rents_len f h
            simp at this ⊢
            omega
      · cases h
/-- VolRecords is true of any bytes and any entries. -/
theorem records_does {s : List UInt8} {x : Value} {l : List Entr} {h : Hp} (hs : s.length < 1073741824) (a : Arg h x l) (hnb : l.length ≤ 1073741824) (hsz : sizeE l ≤ 1073741824) : ∃ h', Runs B1 4 [.string ⟨⟨s⟩⟩, x] h (.bool true) h' := by
  cases hr : rents s.length [] s with
  | none =>
    obtain ⟨h1, r1, s1⟩ := (entries_does hs h).2 hr
    obtain ⟨h2, r2, s2⟩ := (refents_does hs h1).2 hr
    obtain ⟨h3, r3, s3⟩ := record_does ((a.same s1).same s2) hnb hsz
    obtain ⟨h4, r4, s4⟩ := refRecord_does (((a.same s1).same s2).same s3) hnb hsz
    exact ⟨h4, law_nil r1 r2 r3 r4⟩
  | some es =>
    have hel := rents_len _ hr
    simp at hel
    obtain ⟨o1, h1, r1, m1, s1, _⟩ := (entries_does hs h).1 es hr
    obtain ⟨o2, h2, r2, m2, s2, _⟩ := (refents_does hs h1).1 es hr
    obtain ⟨h3, r3, s3⟩ := record_does ((a.same s1).same s2) hnb hsz
    obtain ⟨h4, r4, s4⟩ := refRecord_does (((a.same s1).same s2).same s3) hnb hsz
    refine ⟨h4, ?_⟩
    rcases mine_cases m1 with ⟨e0, rfl⟩ | ⟨ka, _, rfl, _, hp, _⟩
    · rcases mine_cases m2 with ⟨_, rfl⟩ | ⟨kb, _, rfl, _, hp, _⟩
      · exact law_nil r1 r2 r3 r4
      · rw [e0] at hp
        simp at hp
    · rcases mine_cases m2 with ⟨e0, rfl⟩ | ⟨kb, _, rfl, _, hp, _⟩
      · rw [e0] at hp
        simp at hp
      · exact law_cons r1 r2 r3 r4 rfl (by omega) (((m1.span.same s2 fun _ _ e => e).same s3 fun _ _ e => e).same s4 fun _ _ e => e) ((m2.span.same s3 fun _ _ e => e).same s4 fun _ _ e => e)
end Go.Proofs.YtopkigockpiggaaGreat
