/-
  Operations that turn the heap: stores, copy, clear.
-/
import Derived.Test.YtopkigockpiggaaGreatEvRead
set_option linter.unusedVariables false
set_option linter.unusedSimpArgs false
namespace Go.Ev
section
variable {R : Type} {P : Program} {B : Tab} {r : R}
/-- what an operation does. -/
noncomputable def Does (P : Program) (o : Oper) (tm : T Value) (h : Hp) (v : Value) (h' : Hp) : Prop :=
  ∀ G E ρ w, WR G E h.t w → Fresh G E h.next → Ops E tm o.op ρ → ∃ E' v' w', E.le E' ∧ Fresh G E' h'.next ∧ WR G E' h'.t w' ∧ VR E' v v' ∧
    ((execOp ρ o).run P w = .ok (.value v') w' ∨ ((execOp ρ o).run P w = .ok .skip w' ∧ v' = Go.undef))
theorem Quiet.does {o : Oper} {tm : T Value} {h : Hp} {v : Value} (hq : Quiet P o tm h.t v) : Does P o tm h v h := fun G E ρ w hw hf ho =>
  let ⟨v', h1, h2⟩ := hq G E ρ w hw ho
  ⟨E, v', w, Env.le.refl E, hf, hw, h2, Or.inl h1⟩
theorem Pure.quiet {o : Oper} {tm : T Value} {h : T Blk} {v : Value} (hq : Pure P o tm v) : Quiet P o tm h v := fun G E ρ w _ ho => hq E ρ w ho
theorem Laid.does {o : Oper} {tm : T Value} {h : Hp} {v : Value} {blk : Blk} (hq : Laid P o tm h.next v blk) : Does P o tm h v ⟨h.t.put h.next (some blk), h.next + 1⟩ := fun G E ρ w hw hf ho => by
  obtain ⟨v', e, obj, n, h1, h2, h3, h4⟩ := hq.run E ρ w ho hf.at
  have hn : E h.next = none := hf.at
  exact ⟨_, v', _, Env.le_set hn, hf.next e, (hw.new h.next hn blk hq.mu e obj h2 h3).drawn n, h4, Or.inl h1⟩
/-! cells are stored -/
theorem setCells_heap (b : Nat) : ∀ (vs : List Value) (o : Nat) (w : World) (c : Array Value) (el : TypeId) (fr : Nat × Nat), w.heap[b]? = some (.cells c el fr) →
    (w.setCells b o vs).heap[b]? = some (.cells (setRun c o vs) el fr) ∧ (∀ j, j ≠ b → (w.setCells b o vs).heap[j]? = w.heap[j]?) ∧ (w.setCells b o vs).heap.size = w.heap.size ∧
      (w.setCells b o vs).os = w.os ∧ (w.setCells b o vs).tape = w.tape ∧ (w.setCells b o vs).output = w.output
  | [], o, w, c, el, fr, h => ⟨h, fun _ _ => rfl, rfl, rfl, rfl, rfl⟩
  | v :: vs, o, w, c, el, fr, h => by
    have h1 : (w.setCell ⟨b, o, none⟩ v).heap[b]? = some (.cells (c.setIfInBounds o v) el fr) := by
      simp [World.setCell, Array.getElem?_modify, h]
    have h2 : ∀ j, j ≠ b → (w.setCell ⟨b, o, none⟩ v).heap[j]? = w.heap[j]? := fun j hj => by
      simp [World.setCell, Array.getElem?_modify, Ne.symm hj]
    have h3 : (w.setCell ⟨b, o, none⟩ v).heap.size = w.heap.size := by simp [World.setCell]
    obtain ⟨a1, a2, a3, a4, a5, a6⟩ := setCells_heap b vs (o + 1) _ _ _ _ h1
    exact ⟨a1, fun j hj => (a2 j hj).trans (h2 j hj), a3.trans h3, a4, a5, a6⟩
theorem writeAt_ok {k off : Nat} {vs : List Value} {h : Hp} {c : Hp → An R} (hq : writeAt k off vs h c = .ok r) :
    ∃ h', c h' = .ok r ∧ h'.next = h.next ∧ ∀ G E w e vs', WR G E h.t w → E k = some e → LR E vs vs' → ∃ w', (storeCells ⟨e.b, e.o + off, none⟩ vs').run P w = .ok () w' ∧ WR G E h'.t w' := by
  unfold writeAt at hq
  split at hq
  case h_2 => exact absurd hq no_ok
  rename_i n el ez pl d tr hk
  split at hq
  case h_2 => exact absurd hq no_ok
  rename_i hle
  have hle : off + vs.length ≤ n := Nat.le_of_ble_eq_true hle
  obtain ⟨tr', hq, hok, htr⟩ := putCells_ok hq
  rw [T.putK_eq] at hq
  refine ⟨_, hq, rfl, fun G E w e vs' hw he hl => ?_⟩
  obtain ⟨f, hf, hb, hnf⟩ := hw.blk k _ hk
  rw [he] at hf; cases hf
  obtain ⟨cs, fr, h1, h2, h3, h4, h5⟩ := hb
  have hsz : e.o + n ≤ cs.size := by
    rcases Nat.eq_zero_or_pos n with h0 | h0
    · omega
    · obtain ⟨v', hv, _⟩ := h2 (n - 1) (by omega)
      have := (Array.getElem?_eq_some_iff.1 hv).1
      omega
  have hrun := run_storeCells_cells (P := P) e.b (e.o + off) vs' 0 w (fun j hj => by
      have hj' : off + j < n := by rw [hl.1] at hle; omega
      obtain ⟨v', hv, _⟩ := h2 (off + j) hj'
      simp [World.cell?, h1, show e.o + off + j = e.o + (off + j) by omega, hv])
    (fun j hj => by
      have hj' : e.o + off + j < cs.size := by rw [hl.1] at hle; omega
      simp only [World.frozen?, h1]
      rcases h4 rfl with h4 | h4 <;> subst h4 <;> simp <;> omega)
    (fun v' hv' => by
      obtain ⟨i, hi⟩ := List.mem_iff_getElem?.1 hv'
      have hil : i < vs.length := by rw [hl.1]; exact (List.getElem?_eq_some_iff.1 hi).1
      exact cellOk_one (hl.2 i _ _ (List.getElem?_eq_getElem hil) hi) (hok _ (List.getElem_mem hil)))
  rw [Nat.add_zero] at hrun
  obtain ⟨a1, a2, a3, a4, a5, a6⟩ := setCells_heap e.b vs' (e.o + off) w cs el fr h1
  refine ⟨_, hrun, hw.set hk he rfl (.cells n el ez true pl d tr') rfl a3 a2 ?_ a4 a5 a6⟩
  refine ⟨_, fr, a1, fun i hi => ?_, by rw [setRun_size]; exact h3, by rw [setRun_size]; exact h4, h5.1, okB_put hok htr (fun i hi _ => h5.2 i hi)⟩
  rw [setRun_get _ _ _ _ (by rw [← hl.1]; omega), htr]
  by_cases hin : off ≤ i ∧ i < off + vs.length
  · rw [if_pos (by rw [← hl.1]; omega), if_pos hin, show e.o + i - (e.o + off) = i - off by omega]
    have hi' : i - off < vs.length := by omega
    have hi'' : i - off < vs'.length := by rw [← hl.1]; exact hi'
    refine ⟨_, List.getElem?_eq_getElem hi'', ?_⟩
    rw [List.getD_eq_getElem?_getD, List.getElem?_eq_getElem hi']
    exact hl.2 _ _ _ (List.getElem?_eq_getElem hi') (List.getElem?_eq_getElem hi'')
  · rw [if_neg (by rw [← hl.1]; omega), if_neg hin]
    exact h2 i hi
theorem storeAt_ok (hB : TabOK P B) {t : TypeId} {a x : Value} {h : Hp} {c : Hp → An R} (hq : storeAt B t a x h c = .ok r) :
    ∃ h', c h' = .ok r ∧ h'.next = h.next ∧ ∀ G E w a' x', WR G E h.t w → VR E a a' → VR E x x' → ∃ w', (Instr.storeAt t a' x').run P w = .ok () w' ∧ WR G E h'.t w' := by
  unfold storeAt at hq
  split at hq
  case h_2 => exact absurd hq no_ok
  rename_i k off
  replace hq := info_ok hB hq
  obtain ⟨i, hi, hq⟩ := hq
  split at hq
  case h_2 => exact absurd hq no_ok
  rename_i hsz
  have hsz := Nat.eq_of_beq_eq_true hsz
  obtain ⟨h', hq, hn, hr⟩ := writeAt_ok (P := P) hq
  refine ⟨h', hq, hn, fun G E w a' x' hw ha hx => ?_⟩
  obtain ⟨e, he, _, rfl⟩ := ha.inv_ptr
  have hl := cellsOf_ok hx
  obtain ⟨w', h1, h2⟩ := hr G E w e _ hw he hl
  refine ⟨w', ?_, h2⟩
  have hs : x'.cells.size = i.size := by rw [hsz, hl.1]; simp
  simp only [Instr.storeAt, Instr.sureAddr, Sem.run_bind, Sem.run_pure, Result.andThen_ok, storeVar, run_siz hi, hs, ne_eq, not_true, if_false, h1]
theorem lenOf_run {x x' : Value} {E : Env} (hx : VR E x x') {n : Nat} (h : (∃ a c, x = .slice a n c) ∨ (∃ l : List UInt8, x = .string ⟨⟨l⟩⟩ ∧ n = l.length)) (w : World) : (Builtin.lenOf x').run P w = .ok n w := by
  rcases h with ⟨a, c, rfl⟩ | ⟨l, rfl, rfl⟩
  · have key : ∃ a' cap', x' = .slice a' n cap' := by
      cases a with
      | none => exact ⟨_, _, hx.inv_slnil⟩
      | some a =>
        obtain ⟨k, o, s⟩ := a
        cases s with
        | none => obtain ⟨e, c', _, _, _, rfl⟩ := hx.inv_sl; exact ⟨_, _, rfl⟩
        | some s => obtain ⟨rfl, a, c', rfl⟩ := hx.inv_vague; exact ⟨_, _, rfl⟩
    obtain ⟨a', cap', rfl⟩ := key
    rfl
  · obtain rfl := hx.inv_str; rfl
theorem sl_shape {E : Env} {a : Option Addr} {n c : Nat} {x' : Value} (hx : VR E (.slice a n c) x') : ∃ a' c', x' = .slice a' n c' := by
  cases a with
  | none => exact ⟨_, _, hx.inv_slnil⟩
  | some a =>
    obtain ⟨k, o, s⟩ := a
    cases s with
    | none => obtain ⟨e, c', _, _, _, rfl⟩ := hx.inv_sl; exact ⟨_, _, rfl⟩
    | some s => obtain ⟨rfl, a, c', rfl⟩ := hx.inv_vague; exact ⟨_, _, rfl⟩
theorem blkGet_part (d : Value) (off : Nat) (t : T Value) (i : Nat) : blkGet d (partOf off t) i = blkGet d t (off + i) := by
  unfold partOf
  cases off with
  | zero => rw [Nat.zero_add]
  | succ o =>
    cases t with
    | shift n t =>
      unfold blkGet
      simp only [T.find_shift]
      rw [show Nat.add n (Nat.succ o) + i = n + (o + 1 + i) from Nat.add_assoc n (o + 1) i]
    | nil => unfold blkGet; rw [T.find_shift]
    | node l v r => unfold blkGet; rw [T.find_shift]
/-- the cells that are shared. -/
theorem shareOf_ok {x : Value} {m : Nat} {h : Hp} {d : Value} {tr : T Value} (hq : shareOf x m h = some (d, tr)) :
    ∃ k off len cap, x = .slice (some ⟨k, off, none⟩) len cap ∧ ∀ G E w x', WR G E h.t w → VR E x x' →
      ∃ en c' l', E k = some en ∧ x' = .slice (some ⟨en.b, en.o + off, none⟩) len c' ∧ okB m d tr ∧ LR E ((List.range m).map (blkGet d tr)) l' ∧ l'.length = m ∧ ∀ (size n : Nat), n * size = m → (Builtin.firstCells size n x').run P w = .ok ⟨l'⟩ w := by
  unfold shareOf at hq
  split at hq
  case h_2 => cases hq
  rename_i k off len cap
  split at hq
  case h_2 => cases hq
  rename_i n el ez mu pl d0 t0 hk
  split at hq
  case h_2 => cases hq
  rename_i hb
  cases hq
  have hm : off + m ≤ n := Nat.le_of_ble_eq_true hb
  refine ⟨k, off, len, cap, rfl, fun G E w x' hw hx => ?_⟩
  obtain ⟨en, c', hen, _, _, rfl⟩ := hx.inv_sl
  obtain ⟨f, hf, hbr, _⟩ := hw.blk k _ hk
  rw [hen] at hf; cases hf
  have hokb : okB m d (partOf off t0) := fun i hi => by
    obtain ⟨c, fr, _, _, _, _, _, h6⟩ := hbr
    rw [blkGet_part]; exact h6 _ (by omega)
  have hl : ((List.range m).map (blkGet d (partOf off t0))).length = m := by simp
  have hg : ∀ j : Nat, j < m → ((List.range m).map (blkGet d (partOf off t0)))[j]? = some (blkGet d t0 (off + j)) := fun j hj => by simp [hj, blkGet_part]
  obtain ⟨l', h1, h2, h3⟩ := cells_read (P := P) hbr hm hl hg
  refine ⟨en, c', l', hen, rfl, hokb, h1, h2, fun size n hn => ?_⟩
  simp only [Builtin.firstCells, hn]
  exact h3
theorem copyShare_ok {base : Option Addr} {m : Nat} {s : Value} {h : Hp} {k : Nat} {b : Blk} (hq : copyShare base m s h = some (k, b)) :
    base = some ⟨k, 0, none⟩ ∧ ∀ G E w s' en, WR G E h.t w → VR E s s' → E k = some en → ∃ l' w', l'.length = m ∧ 64 ≤ m ∧ (∀ (size n : Nat), n * size = m → (Builtin.firstCells size n s').run P w = .ok ⟨l'⟩ w) ∧
      (storeCells ⟨en.b, en.o + 0, none⟩ l').run P w = .ok () w' ∧ WR G E (h.t.put k (some b)) w' := by
  unfold copyShare at hq
  split at hq
  · cases hq
  rename_i hm
  have hm : 64 ≤ m := Nat.le_of_ble_eq_true hm
  split at hq
  case h_2 => cases hq
  split at hq
  case h_2 => cases hq
  rename_i k _ n el ez pl d0 t0 hk
  split at hq
  case h_2 => cases hq
  rename_i d tr hmn hsh
  have hmn := Nat.eq_of_beq_eq_true hmn
  subst hmn
  cases hq
  refine ⟨rfl, fun G E w s' en hw hs hen => ?_⟩
  obtain ⟨k2, off2, len, cap, rfl, hr⟩ := shareOf_ok (P := P) hsh
  obtain ⟨en2, c', l', hen2, rfl, hok, hl, hll, hfc⟩ := hr G E w s' hw hs
  obtain ⟨f, hf, hb, hnf⟩ := hw.blk k _ hk
  rw [hen] at hf; cases hf
  obtain ⟨cs, fr, h1, h2, h3, h4, h5⟩ := hb
  have hsz : en.o + m ≤ cs.size := by
    obtain ⟨v', hv, _⟩ := h2 (m - 1) (by omega)
    have := (Array.getElem?_eq_some_iff.1 hv).1
    omega
  have hrun := run_storeCells_cells (P := P) en.b (en.o + 0) l' 0 w (fun j hj => by
      obtain ⟨v', hv, _⟩ := h2 j (by omega)
      simp [World.cell?, h1, hv])
    (fun j hj => by
      have hj' : en.o + j < cs.size := by omega
      simp only [World.frozen?, h1]
      rcases h4 rfl with h4 | h4 <;> subst h4 <;> simp <;> omega)
    (fun v' hv' => by
      obtain ⟨i, hi⟩ := List.mem_iff_getElem?.1 hv'
      have hil : i < m := by rw [← hll]; exact (List.getElem?_eq_some_iff.1 hi).1
      exact cellOk_one (hl.2 i (blkGet d tr i) v' (by simp [hil]) hi) (hok i hil))
  rw [Nat.add_zero] at hrun
  obtain ⟨a1, a2, a3, a4, a5, a6⟩ := setCells_heap en.b l' (en.o + 0) w cs el fr h1
  refine ⟨l', _, hll, hm, hfc, hrun, hw.set hk hen rfl (.cells m el ez true pl d tr) rfl a3 a2 ?_ a4 a5 a6⟩
  refine ⟨_, fr, a1, fun i hi => ?_, by rw [setRun_size]; exact h3, by rw [setRun_size]; exact h4, h5.1, hok⟩
  have hi' : i < l'.length := by omega
  refine ⟨l'[i], ?_, hl.2 i (blkGet d tr i) _ (by simp [hi]) (List.getElem?_eq_getElem hi')⟩
  rw [setRun_get _ _ _ _ (by omega), if_pos (by omega), show en.o + i - (en.o + 0) = i by omega]
  exact List.getElem?_eq_getElem hi'
theorem copyK_ok (hB : TabOK P B) {dT : TypeId} {d s : Value} {h : Hp} {c : Value → Hp → An R} (hq : copyK B dT d s h c = .ok r) :
    ∃ v h', c v h' = .ok r ∧ isFlat v = true ∧ h'.next = h.next ∧ ∀ G E w d' s' (ts : Array TypeId) ty, ts[0]? = some dT → WR G E h.t w → VR E d d' → VR E s s' → ∃ w', (Builtin.copy_ ts ty #[d', s']).run P w = .ok v w' ∧ WR G E h'.t w' := by
  unfold copyK at hq
  replace hq := und_ok hB hq
  obtain ⟨ds, hu, hq⟩ := hq
  split at hq
  case h_2 => exact absurd hq no_ok
  rename_i elem
  replace hq := info_ok hB hq
  obtain ⟨e, he, hq⟩ := hq
  split at hq
  case h_2 => exact absurd hq no_ok
  rename_i base dl dcap
  have key : ∃ ns n, ((∃ a c, s = .slice a ns c) ∨ (∃ l : List UInt8, s = .string ⟨⟨l⟩⟩ ∧ ns = l.length)) ∧ n = Nat.min ns dl ∧ (match (generalizing := false) copyShare base (Nat.mul n e.size) s h with
         | some (k, b) => h.t.putK (some b) k fun t => c (.int .i64 (.ofNat n)) ⟨t, h.next⟩
         | none => firstK e.size n s h fun vs => match (generalizing := false) vs, base with
          | [], _ => c (.int .i64 (.ofNat n)) h
          | _, some ⟨k, off, none⟩ => writeAt k off vs h fun h => c (.int .i64 (.ofNat n)) h
          | _, _ => no 68) = .ok r := by
    split at hq
    · rename_i a n cc
      change fN _ _ = _ at hq
      rw [fN_eq] at hq
      exact ⟨n, _, Or.inl ⟨_, _, rfl⟩, rfl, hq⟩
    · rename_i l
      change fN _ _ = _ at hq
      rw [fN_eq] at hq
      exact ⟨_, _, Or.inr ⟨l, rfl, rfl⟩, rfl, hq⟩
    · exact absurd hq no_ok
  clear hq
  obtain ⟨ns, n, hs, hn, hq⟩ := key
  split at hq
  · rename_i k b hsh
    rw [T.putK_eq] at hq
    obtain ⟨rfl, hr⟩ := copyShare_ok (P := P) hsh
    refine ⟨_, _, hq, rfl, rfl, fun G E w d' s' ts ty ht hw hd hs' => ?_⟩
    obtain ⟨en, c', hen, _, _, rfl⟩ := hd.inv_sl
    obtain ⟨l', w', h1, h1m, h2, h3, h4⟩ := hr G E w s' en hw hs' hen
    refine ⟨w', ?_, h4⟩
    simp only [Builtin.copy_, ht, List.getElem?_toArray, List.getElem?_cons_zero, List.getElem?_cons_succ, Sem.run_bind, run_underlying hu, Result.andThen_ok, lenOf_run hs' hs, run_siz he, ← hn, h2 e.size n rfl, h3]
    simp [goInt]
  obtain ⟨vs, hq, _, hvs⟩ := firstK_ok (P := P) hq
  split at hq
  · refine ⟨_, _, hq, rfl, rfl, fun G E w d' s' ts ty ht hw hd hs' => ?_⟩
    obtain ⟨l', h1, h2⟩ := hvs G E w s' hw hs'
    obtain ⟨a', c', rfl⟩ := sl_shape hd
    rw [h1.unnil] at h2
    refine ⟨w, ?_, hw⟩
    simp only [Builtin.copy_, ht, List.getElem?_toArray, List.getElem?_cons_zero, List.getElem?_cons_succ, Sem.run_bind, run_underlying hu, Result.andThen_ok, lenOf_run hs' hs, run_siz he, ← hn, h2]
    cases a' <;> simp [storeCells, goInt]
  · rename_i k off hne
    obtain ⟨h', hq, hnx, hr⟩ := writeAt_ok (P := P) hq
    refine ⟨_, _, hq, rfl, hnx, fun G E w d' s' ts ty ht hw hd hs' => ?_⟩
    obtain ⟨l', h1, h2⟩ := hvs G E w s' hw hs'
    obtain ⟨en, c', hen, _, _, rfl⟩ := hd.inv_sl
    obtain ⟨w', h3, h4⟩ := hr G E w en l' hw hen h1
    refine ⟨w', ?_, h4⟩
    simp only [Builtin.copy_, ht, List.getElem?_toArray, List.getElem?_cons_zero, List.getElem?_cons_succ, Sem.run_bind, run_underlying hu, Result.andThen_ok, lenOf_run hs' hs, run_siz he, ← hn, h2, h3]
    simp [goInt]
  · exact absurd hq no_ok
end
end Go.Ev
