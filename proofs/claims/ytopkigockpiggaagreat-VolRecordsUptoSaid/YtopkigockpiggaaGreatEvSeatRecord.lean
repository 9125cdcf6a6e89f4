/-
  vol.Record, walked.
-/
import Derived.Test.YtopkigockpiggaaGreatEvSeatText
set_option maxRecDepth 100000
set_option linter.unusedVariables false
set_option linter.unusedSimpArgs false
open Go Go.Ev
namespace Go.Proofs.YtopkigockpiggaaGreat
attribute [local irreducible] loadAt storeAt newBlk newCells writeAt appendK binK indexAddrK indexK sliceK lenK convK fN fV fL boolK maxK zeroOf enterK drawK rowsK leK okK readsK stagesK lastK againK eqvK
theorem load_ent {h : Hp} {k off cap n : Nat} {l : List Entr} (x : Span h (.slice (some ⟨k, off, none⟩) n cap) 3 n (cellsE l)) {i : Nat} {e : Entr} (he : l[i]? = some e) {R : Type} (c : Value → An R) :
    loadAt B1 33 (.pointer (some ⟨k, off + i * Tryz.t33.size, none⟩)) h c = c (.agg ⟨[.string ⟨⟨e.1⟩⟩, .string ⟨⟨e.2.1⟩⟩, .bool e.2.2]⟩) := by
  have hi : i < l.length := (List.getElem?_eq_some_iff.1 he).1
  obtain ⟨hl, hx⟩ := x
  rw [cellsE_length] at hl
  rcases hx with ⟨_, _, hx⟩ | ⟨k', off', cap', m, el, mu, pl, d, tr, hx, hk, hf, hm, hL⟩
  · cases hx
  · cases hx
    obtain ⟨c0, c1, c2⟩ := cellsE_at he
    refine load_agg (t := 33) (by rfl) (by rfl) (by rfl) hf ?_ (by rfl) ?_ c
    · show off + i * 3 + 3 ≤ m
      omega
    · intro j hj
      have hj : j < 3 := hj
      show _ = some (blkGet d tr (off + i * 3 + j))
      rw [Nat.add_assoc, ← hL (i * 3 + j) (by omega)]
      have : j = 0 ∨ j = 1 ∨ j = 2 := by omega
      rcases this with rfl | rfl | rfl
      · exact c0.symm
      · exact c1.symm
      · exact c2.symm
/-- a struct of an entry, in a block of its own. -/
noncomputable def withE (h : Hp) (e : Entr) : Hp := ⟨(h.t.put h.next (some (.cells 3 33 1 true true undef (putL [.string ⟨⟨[]⟩⟩, .string ⟨⟨[]⟩⟩, .bool false] 0 .nil)))).put h.next
  (some (.cells 3 33 1 true true undef (putL [.string ⟨⟨e.1⟩⟩, .string ⟨⟨e.2.1⟩⟩, .bool e.2.2] 0 (putL [.string ⟨⟨[]⟩⟩, .string ⟨⟨[]⟩⟩, .bool false] 0 .nil)))), h.next + 1⟩
theorem withE_same (S : Nat → Prop) (h : Hp) (e : Entr) : Same S h (withE h e) := same_new2 S h _ _
theorem withE_at (h : Hp) (e : Entr) : (withE h e).t.find h.next = some (.cells 3 33 1 true true undef (putL [.string ⟨⟨e.1⟩⟩, .string ⟨⟨e.2.1⟩⟩, .bool e.2.2] 0 (putL [.string ⟨⟨[]⟩⟩, .string ⟨⟨[]⟩⟩, .bool false] 0 .nil))) := by
  show (T.put _ _ _).find _ = _
  rw [T.find_put, if_pos rfl]
theorem size_exit {S : Stops} (hS : S.Real B1) {tm : T Value} {h : Hp} {x v : Value} {n size : Nat} (hf : isFull 6 tm = true) (h0 : tm.find 0 = some v) (h3 : tm.find 3 = some (.int .i64 (.ofNat size))) (h12 : tm.find 12 = some (.int .i64 (.ofNat n))) (h13 : tm.find 13 = some (.int .i64 (.ofNat n))) :
    ∃ tm', isFull 6 tm' = true ∧ tm'.find 0 = some v ∧ tm'.find 3 = some (.int .i64 (.ofNat size)) ∧ ∀ m R J K, S.W R J (m + 20) (loopB B1 10 0) ⟨tm, h, 61, 10, none, []⟩ K = K (.exit 0) ⟨tm', h, 61, 10, none, []⟩ := by
  obtain ⟨g, rfl⟩ := full_look hf [(0, v), (3, .int .i64 (.ofNat size)), (12, .int .i64 (.ofNat n)), (13, .int .i64 (.ofNat n))] (by simp [h0, h3, h12, h13])
  refine ⟨?tm, ?_, ?_, ?_, ?walk⟩
  case walk =>
    intro m R J K
    refine (S_loop hS).trans ?_
    conv => lhs; whnf
    repeat ((first
      | refine (V_all hS).trans ?_ | refine (fV_bool _ _).trans ?_ | refine (fN_eq _ _).trans ?_ | refine (S_cons hS).trans ?_ | refine (S_nil hS).trans ?_ | refine (nxB1 hS).trans ?_ | refine (nxB0 hS).trans ?_ | refine (newBlk_eq _ _ _).trans ?_ | refine (nxNc).trans ?_ | refine (nxLe).trans ?_ | refine (nxPn hS).trans ?_ | refine (nxLs).trans ?_ | refine (nxLt).trans ?_ | refine (S_draw0 hS (by rfl) (by kernel_rfl) (by rfl)).trans ?_ | refine (S_draw2 hS (by kernel_rfl) (by rfl)).trans ?_ | refine (nxZ).trans ?_ | refine (nxT hS).trans ?_ | refine (nxF hS).trans ?_ | refine (nxAdd hS).trans ?_ | refine (nxSub hS).trans ?_ | refine (nxMul hS).trans ?_ | refine (nxShr hS).trans ?_ | refine (nxShl hS).trans ?_ | refine (nxRem hS).trans ?_ | refine (nxQuo hS).trans ?_ | refine (nxOr hS).trans ?_ | refine (nxAnd hS).trans ?_ | refine (nxCv hS).trans ?_ | refine (nxC8 hS).trans ?_
      | refine (reads_nil).trans ?_ | refine (reads_off).trans ?_ | refine (reads_pure).trans ?_ | refine (reads_loud).trans ?_ | refine (reads_alloc).trans ?_ | refine (reads_0 (by rfl)).trans ?_ | refine (reads_1 (by rfl)).trans ?_ | refine (stages_nil).trans ?_ | refine (stages_yes (by rfl) (by rfl)).trans ?_ | refine (stages_no (by rfl)).trans ?_ | refine (nxLa).trans ?_ | refine (again_s hS).trans ?_ | refine (nxEq).trans ?_ | refine (fL_eq _ _).trans ?_ | refine (nxAt).trans ?_); (conv => lhs; whnf))
  all_goals rfl
theorem size_step {S : Stops} (hS : S.Real B1) {tm : T Value} {h : Hp} {v : Value} {k off cap n i size : Nat} {l : List Entr} {e : Entr} (hx : Span h (.slice (some ⟨k, off, none⟩) n cap) 3 n (cellsE l)) (he : l[i]? = some e) (hn : l.length = n)
    (hf : isFull 6 tm = true) (h0 : tm.find 0 = some v) (h3 : tm.find 3 = some (.int .i64 (.ofNat size))) (h11 : tm.find 11 = some (.slice (some ⟨k, off, none⟩) n cap)) (h12 : tm.find 12 = some (.int .i64 (.ofNat n))) (h13 : tm.find 13 = some (.int .i64 (.ofNat i)))
    (hb : size + (e.1.length + e.2.1.length + 21) ≤ 1073741824) (hnb : n ≤ 1073741824) :
    ∃ tm', isFull 6 tm' = true ∧ tm'.find 0 = some v ∧ tm'.find 3 = some (.int .i64 (.ofNat (size + (e.1.length + e.2.1.length + 21)))) ∧ tm'.find 11 = some (.slice (some ⟨k, off, none⟩) n cap) ∧ tm'.find 12 = some (.int .i64 (.ofNat n)) ∧ tm'.find 13 = some (.int .i64 (.ofNat (i + 1))) ∧
      ∀ m R J K, S.W R J (m + 20) (loopB B1 10 0) ⟨tm, h, 61, 10, none, []⟩ K = S.W R J (m + 19) (loopB B1 10 0) ⟨tm', withE h e, 61, 10, none, []⟩ K := by
  have hi : i < n := by have := (List.getElem?_eq_some_iff.1 he).1; omega
  obtain ⟨g, rfl⟩ := full_look hf [(0, v), (3, .int .i64 (.ofNat size)), (11, .slice (some ⟨k, off, none⟩) n cap), (12, .int .i64 (.ofNat n)), (13, .int .i64 (.ofNat i))] (by simp [h0, h3, h11, h12, h13])
  refine ⟨?tm, ?_, ?_, ?_, ?_, ?_, ?_, ?walk⟩
  case walk =>
    intro m R J K
    refine (S_loop hS).trans ?_
    conv => lhs; whnf
    repeat ((first
      | refine (V_all hS).trans ?_ | refine (fV_bool _ _).trans ?_ | refine (fN_eq _ _).trans ?_ | refine (S_cons hS).trans ?_ | refine (S_nil hS).trans ?_ | refine (nxB1 hS).trans ?_ | refine (nxB0 hS).trans ?_ | refine (newBlk_eq _ _ _).trans ?_ | refine (nxNc).trans ?_ | refine (nxLe).trans ?_ | refine (nxPn hS).trans ?_ | refine (nxLs).trans ?_ | refine (nxLt).trans ?_ | refine (S_draw0 hS (by rfl) (by kernel_rfl) (by rfl)).trans ?_ | refine (S_draw2 hS (by kernel_rfl) (by rfl)).trans ?_ | refine (nxZ).trans ?_ | refine (nxT hS).trans ?_ | refine (nxF hS).trans ?_ | refine (nxAdd hS).trans ?_ | refine (nxSub hS).trans ?_ | refine (nxMul hS).trans ?_ | refine (nxShr hS).trans ?_ | refine (nxShl hS).trans ?_ | refine (nxRem hS).trans ?_ | refine (nxQuo hS).trans ?_ | refine (nxOr hS).trans ?_ | refine (nxAnd hS).trans ?_ | refine (nxCv hS).trans ?_ | refine (nxC8 hS).trans ?_
      | refine (reads_nil).trans ?_ | refine (reads_off).trans ?_ | refine (reads_pure).trans ?_ | refine (reads_loud).trans ?_ | refine (reads_alloc).trans ?_ | refine (reads_0 (by rfl)).trans ?_ | refine (reads_1 (by rfl)).trans ?_ | refine (stages_nil).trans ?_ | refine (stages_yes (by rfl) (by rfl)).trans ?_ | refine (stages_no (by rfl)).trans ?_ | refine (nxLa).trans ?_ | refine (again_s hS).trans ?_ | refine (nxEq).trans ?_ | refine (fL_eq _ _).trans ?_ | refine (nxAt).trans ?_ | refine (load_ent hx he _).trans ?_ | refine (store_eq (t := 33) (by rfl) (by show (T.put _ _ _).find _ = _; rw [T.find_put, if_pos rfl]) rfl (by rfl) (by decide) rfl _).trans ?_ | refine (load1 (t := 9) (by rfl) (by rfl) (withE_at h e) (by decide) (by rfl) _).trans ?_); (conv => lhs; whnf))
    rfl
  all_goals rfl
theorem size_loop {S : Stops} (hS : S.Real B1) {v : Value} {k off cap n : Nat} {l : List Entr} (hn : l.length = n) (hnb : n ≤ 1073741824) : ∀ (rest : List Entr) {i size : Nat} {tm : T Value} {h : Hp}, l.drop i = rest → i ≤ n →
    Span h (.slice (some ⟨k, off, none⟩) n cap) 3 n (cellsE l) → isFull 6 tm = true → tm.find 0 = some v → tm.find 3 = some (.int .i64 (.ofNat size)) → tm.find 11 = some (.slice (some ⟨k, off, none⟩) n cap) → tm.find 12 = some (.int .i64 (.ofNat n)) → tm.find 13 = some (.int .i64 (.ofNat i)) →
    size + sizeE rest ≤ 1073741824 →
    ∃ tm' h', isFull 6 tm' = true ∧ tm'.find 0 = some v ∧ tm'.find 3 = some (.int .i64 (.ofNat (size + sizeE rest))) ∧ Same (fun _ => False) h h' ∧ ∀ m R J K, S.W R J (m + rest.length + 20) (loopB B1 10 0) ⟨tm, h, 61, 10, none, []⟩ K = K (.exit 0) ⟨tm', h', 61, 10, none, []⟩
  | [], i, size, tm, h, hd, hi, hx, hf, h0, h3, h11, h12, h13, hb => by
    have : i = n := by
      have := congrArg List.length hd
      simp at this
      omega
    subst this
    obtain ⟨tm', a1, a2, a3, a4⟩ := size_exit hS hf h0 h3 h12 h13 (x := v)
    exact ⟨tm', h, a1, a2, a3, Same.refl h, fun m R J K => a4 m R J K⟩
  | e :: rest, i, size, tm, h, hd, hi, hx, hf, h0, h3, h11, h12, h13, hb => by
    obtain ⟨he, hd'⟩ := drop_cons hd
    have hil : i < l.length := (List.getElem?_eq_some_iff.1 he).1
    have hb' : size + (e.1.length + e.2.1.length + 21 + sizeE rest) ≤ 1073741824 := hb
    obtain ⟨tm2, b1, b2, b3, b4, b5, b6, b7⟩ := size_step hS hx he hn hf h0 h3 h11 h12 h13 (by omega) hnb
    obtain ⟨tm', h', a1, a2, a3, a4, a5⟩ := size_loop hS hn hnb rest hd' (by omega) (hx.same (withE_same (fun _ => False) h e) fun _ _ e => e) b1 b2 b3 b4 b5 b6 (by omega)
    refine ⟨tm', h', a1, a2, ?_, (withE_same _ h e).trans a4, fun m R J K => ?_⟩
    · rw [a3, Nat.add_assoc]
      rfl
    · rw [List.length_cons]
      have e1 : m + (rest.length + 1) + 20 = (m + rest.length + 1) + 20 := by omega
      rw [e1, b7]
      have e2 : m + rest.length + 1 + 19 = m + rest.length + 20 := by omega
      rw [e2]
      exact a5 m R J K
end Go.Proofs.YtopkigockpiggaaGreat
