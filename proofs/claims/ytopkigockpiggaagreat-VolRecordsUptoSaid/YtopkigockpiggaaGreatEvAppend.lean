/-
  append.
-/
import Derived.Test.YtopkigockpiggaaGreatEvLoud
set_option linter.unusedVariables false
set_option linter.unusedSimpArgs false
namespace Go.Ev
section
variable {R : Type} {P : Program} {B : Tab} {r : R}
theorem zeroCells_LR {E : Env} {z : Value} (hf : isFlat z = true) (n : Nat) : LR E (repCells (cellsOf z) n []) (Builtin.zeroCells z.cells n).toList := by
  have hzl : z.cells.toList = cellsOf z := by cases z <;> rfl
  have hzsz : z.cells.size = (cellsOf z).length := by rw [← hzl]; simp
  obtain ⟨r1, r2⟩ := repCells_get (cellsOf z) (cellsOf z).length rfl n []
  have hsz : (Builtin.zeroCells z.cells n).size = n * (cellsOf z).length := by simp [Builtin.zeroCells, hzsz]
  refine ⟨by rw [r1]; simp [hsz], fun i v v' hv hv' => ?_⟩
  have hi : i < n * (cellsOf z).length := by have := (List.getElem?_eq_some_iff.1 hv).1; rw [r1] at this; simpa using this
  have hsp : 0 < (cellsOf z).length := by
    rcases Nat.eq_zero_or_pos (cellsOf z).length with h | h
    · rw [h] at hi; simp at hi
    · exact h
  have him : i % (cellsOf z).length < (cellsOf z).length := Nat.mod_lt _ hsp
  rw [r2 i hi] at hv
  have h1 : (Builtin.zeroCells z.cells n)[i]? = some (z.cells[i % (cellsOf z).length]'(by rw [hzsz]; exact him)) := by
    simp [Builtin.zeroCells, hi, hzsz, him]
  rw [Array.getElem?_toList, h1] at hv'
  have h2 : (cellsOf z)[i % (cellsOf z).length]? = some v' := by
    rw [← hzl]
    rw [← Option.some.inj hv']
    simp [hzsz, him]
  rw [h2] at hv; cases hv
  exact .flat (flat_cells hf _ (List.mem_of_getElem? h2))
/-- how many come, and what they are. -/
noncomputable def AppMode (P : Program) (xT : TypeId) (e : TypeInfo) (z x' : Value) (n : Nat) (w : World) (new' : List Value) : Prop :=
  (∃ k kk, P.underlying xT = some (.int kk) ∧ x' = .int k (Int.ofNat n) ∧ n ≤ 1073741824 ∧ e.bytes ≤ 4096 ∧ new' = (if n * e.size = 0 then [] else (Builtin.zeroCells z.cells n).toList)) ∨
  (∃ xd, P.underlying xT = some xd ∧ isIntD xd = false ∧ (∀ w, (Builtin.lenOf x').run P w = .ok n w) ∧ (Builtin.firstCells e.size n x').run P w = .ok ⟨new'⟩ w)
theorem wrap_small {n : Nat} (h : n ≤ 1073741824) : IntKind.i64.wrap (Int.ofNat n) = (n : Int) := by rw [IntKind.wrap_i64]; show _ = (n : Int); have : (Int.ofNat n) = (n : Int) := rfl; rw [this]; omega
theorem append_in {sT xT elem : TypeId} {e : TypeInfo} {z : Value} (hu : P.underlying sT = some (.slice elem)) (he : P.info? elem = some e) (hz : e.zero = some z)
    {ts : Array TypeId} (ht0 : ts[0]? = some sT) (ht1 : ts[1]? = some xT) (ty : TypeId) {base : Option Addr} {len cap n : Nat} {x' : Value} {w w' : World} {new' : List Value} (hm : AppMode P xT e z x' n w new') (hle : len + n ≤ cap)
    (hst : match base with | none => w' = w | some a => (storeCells (a.add (len * e.size)) new').run P w = .ok () w') :
    (Builtin.append_ ts ty #[.slice base len cap, x']).run P w = .ok (.slice base (len + n) cap) w' := by
  rcases hm with ⟨k, kk, hxd, rfl, hn, hb, rfl⟩ | ⟨xd, hxd, hi, hl, hf⟩
  · have hw := wrap_small hn
    have h1 : ¬ ((n : Int) < 0) := by omega
    have h2 : ¬ ((n : Int) * (e.bytes : Int) > 2 ^ 48) := by
      have : n * e.bytes ≤ 1073741824 * 4096 := Nat.mul_le_mul hn hb
      have : ((n * e.bytes : Nat) : Int) ≤ 1073741824 * 4096 := by omega
      rw [Int.natCast_mul] at this
      omega
    simp only [Builtin.append_, ht0, ht1, List.getElem?_toArray, List.getElem?_cons_zero, List.getElem?_cons_succ, Sem.run_bind, run_underlying hu, run_underlying hxd, Result.andThen_ok, run_siz he, Sem.run_pure, if_true,
      asInt, asIntOf, hw, h1, if_false, run_inf he, h2, Int.toNat_natCast, hle, Bool.not_true, Bool.false_eq_true]
    by_cases h0 : n * e.size = 0
    · simp only [h0, if_true] at hst
      rw [if_pos h0]
      simp only [Sem.run_bind, Sem.run_pure, Result.andThen_ok]
      cases base with
      | none => simp only at hst ⊢; rw [hst]; rfl
      | some a => simp only at hst ⊢; simp only [Sem.run_bind, hst, Result.andThen_ok, Sem.run_pure]
    · simp only [h0, if_false] at hst
      rw [if_neg h0]
      simp only [Sem.run_bind, Sem.run_pure, Result.andThen_ok, run_zro he hz]
      cases base with
      | none => simp only at hst ⊢; rw [hst]; rfl
      | some a => simp only at hst ⊢; simp only [Sem.run_bind, hst, Result.andThen_ok, Sem.run_pure]
  · cases xd <;> first | (simp only [isIntD, Bool.true_eq_false] at hi; done) | skip
    all_goals (
      simp only [Builtin.append_, ht0, ht1, List.getElem?_toArray, List.getElem?_cons_zero, List.getElem?_cons_succ, Sem.run_bind, run_underlying hu, run_underlying hxd, Result.andThen_ok, run_siz he, Sem.run_pure, Bool.false_eq_true, if_false, hl, hle, Bool.not_false, if_true, hf]
      cases base with
      | none => simp only at hst ⊢; rw [hst]; rfl
      | some a => simp only at hst ⊢; simp only [Sem.run_bind, hst, Result.andThen_ok, Sem.run_pure])
theorem append_grow {sT xT elem : TypeId} {e : TypeInfo} {z : Value} (hu : P.underlying sT = some (.slice elem)) (he : P.info? elem = some e) (hz : e.zero = some z)
    {ts : Array TypeId} (ht0 : ts[0]? = some sT) (ht1 : ts[1]? = some xT) (ty : TypeId) {base : Option Addr} {len cap n : Nat} {x' : Value} {w : World} {new' old' : List Value} (hm : AppMode P xT e z x' n { w with drawn := w.drawn + 1 } new') (hlt : cap < len + n)
    (hneed : len + n ≤ 1073741824) (hbytes : e.bytes ≤ 4096) (hold : (Builtin.firstCells e.size len (.slice base len cap)).run P { w with drawn := w.drawn + 1 } = .ok ⟨old'⟩ { w with drawn := w.drawn + 1 }) :
    ∃ newCap, len + n ≤ newCap ∧ newCap ≤ 9223372036854775807 ∧ (Builtin.append_ ts ty #[.slice base len cap, x']).run P w = .ok (.slice (some ⟨w.heap.size, 0, none⟩) (len + n) newCap)
      { w with drawn := w.drawn + 1, heap := w.heap.push (.cells (⟨old'⟩ ++ ⟨new'⟩ ++ Builtin.zeroCells z.cells (newCap - (len + n))) elem) } := by
  let q : Question := .appendCap (len + n) cap elem
  refine ⟨q.cut (w.tape w.drawn q), Nat.le_add_right _ _, grownCap_le_maxLen w (len + n) cap elem (by unfold maxLen; omega), ?_⟩
  have hch : (choose (.appendCap (len + n) cap elem)).run P w = .ok (q.cut (w.tape w.drawn q)) { w with drawn := w.drawn + 1 } := rfl
  have hask : ∀ m w, (askRoom m).run P w = .ok () w := fun m w => by unfold askRoom; split <;> rfl
  have g1 : ¬ (len + n ≤ cap) := by omega
  have g2 : ¬ (((len + n : Nat) : Int) > IntKind.i64.max) := by
    have e3 : IntKind.i64.max = 9223372036854775807 := by kernel_rfl
    rw [e3]; omega
  have g3 : ¬ (Builtin.nextslicecap (len + n) cap * e.bytes > 2 ^ 48) := by
    have h1 := nextslicecap_le hlt
    have h2 : Builtin.nextslicecap (len + n) cap ≤ 2147483648 := by omega
    have h3 : Builtin.nextslicecap (len + n) cap * e.bytes ≤ 2147483648 * 4096 := Nat.mul_le_mul h2 hbytes
    omega
  rcases hm with ⟨k, kk, hxd, rfl, hn, hb, rfl⟩ | ⟨xd, hxd, hi, hl, hf⟩
  · have hw := wrap_small hn
    have h1 : ¬ ((n : Int) < 0) := by omega
    have h2 : ¬ ((n : Int) * (e.bytes : Int) > 2 ^ 48) := by
      have : n * e.bytes ≤ 1073741824 * 4096 := Nat.mul_le_mul hn hb
      have : ((n * e.bytes : Nat) : Int) ≤ 1073741824 * 4096 := by omega
      rw [Int.natCast_mul] at this
      omega
    simp only [Builtin.append_, ht0, ht1, List.getElem?_toArray, List.getElem?_cons_zero, List.getElem?_cons_succ, Sem.run_bind, run_underlying hu, run_underlying hxd, Result.andThen_ok, run_siz he, Sem.run_pure, if_true,
      asInt, asIntOf, hw, h1, if_false, run_inf he, h2, Int.toNat_natCast, g1, g2, false_and, g3, hch, hask, hold, Bool.not_true, Bool.false_eq_true]
    by_cases h0 : n * e.size = 0
    · rw [if_pos h0]
      simp only [Sem.run_bind, Sem.run_pure, Result.andThen_ok, run_zro he hz, run_newRow, h0, if_true]
    · rw [if_neg h0]
      simp only [Sem.run_bind, Sem.run_pure, Result.andThen_ok, run_zro he hz, run_newRow, h0, if_false]
  · cases xd <;> first | (simp only [isIntD, Bool.true_eq_false] at hi; done) | skip
    all_goals (
      simp only [Builtin.append_, ht0, ht1, List.getElem?_toArray, List.getElem?_cons_zero, List.getElem?_cons_succ, Sem.run_bind, run_underlying hu, run_underlying hxd, Result.andThen_ok, run_siz he, Sem.run_pure, Bool.false_eq_true, if_false, hl, g1, g2, false_and, run_inf he, g3, hch, hask, hold, Bool.not_false, if_true, hf, run_zro he hz, run_newRow])
theorem newK_ok (hB : TabOK P B) {xT : TypeId} {e : TypeInfo} {z x : Value} {h : Hp} {c : Nat → List Value → An R} (hf : isFlat z = true) (hq : newK B xT e.size e.bytes z x h c = .ok r) :
    ∃ n new, c n new = .ok r ∧ ∀ G E w x', WR G E h.t w → VR E x x' → (n = 0 ∨ (cellsOf z).length = e.size) → ∃ new', LR E new new' ∧ AppMode P xT e z x' n w new' := by
  unfold newK at hq
  replace hq := und_ok hB hq
  obtain ⟨xd, hxd, hq⟩ := hq
  split at hq
  · rename_i kk
    obtain ⟨k, n, e1, hq2⟩ := asN_ok hq
    split at hq2
    case h_2 => exact absurd hq2 no_ok
    rename_i hb
    rw [Bool.and_eq_true] at hb
    have hn : n ≤ 1073741824 := Nat.le_of_ble_eq_true hb.1
    have hby : e.bytes ≤ 4096 := Nat.le_of_ble_eq_true hb.2
    refine ⟨n, _, hq2, fun G E w x' hw hx hor => ?_⟩
    subst e1
    obtain rfl := hx.inv_int
    refine ⟨_, ?_, Or.inl ⟨k, kk, hxd, rfl, hn, hby, rfl⟩⟩
    split
    · rename_i h0
      have : repCells (cellsOf z) n [] = [] := by
        rcases hor with rfl | hz
        · rfl
        · obtain ⟨r1, _⟩ := repCells_get (cellsOf z) e.size hz n []
          rw [h0] at r1
          exact List.eq_nil_of_length_eq_zero (by simpa using r1)
      rw [this]
      exact LR.nil E
    · exact zeroCells_LR hf n
  · rename_i hni
    have hint : isIntD xd = false := by cases xd <;> first | rfl | exact absurd rfl (hni _)
    split at hq
    · rename_i a n cc
      obtain ⟨vs, hq, hlen, hvs⟩ := firstK_ok (P := P) hq
      refine ⟨n, vs, hq, fun G E w x' hw hx _ => ?_⟩
      obtain ⟨l', h1, h2⟩ := hvs G E w x' hw hx
      exact ⟨l', h1, Or.inr ⟨xd, hxd, hint, fun w => lenOf_run hx (Or.inl ⟨_, _, rfl⟩) w, h2⟩⟩
    · rename_i l
      rw [fN_eq] at hq
      obtain ⟨vs, hq, hlen, hvs⟩ := firstK_ok (P := P) hq
      refine ⟨_, vs, hq, fun G E w x' hw hx _ => ?_⟩
      obtain ⟨l', h1, h2⟩ := hvs G E w x' hw hx
      exact ⟨l', h1, Or.inr ⟨xd, hxd, hint, fun w => lenOf_run hx (Or.inr ⟨l, rfl, rfl⟩) w, h2⟩⟩
    · exact absurd hq no_ok
/-- a row that has grown: what was, what came, noughts. -/
theorem BR.grown {E : Env} {vs vs' : List Value} {elem esz cap need n : Nat} {tr : T Value} {z : Array Value} {b : Nat} (hl : LR E vs vs') (hn : vs.length = n) (hz : z.size = esz) (hneed : vs.length = need * esz) (hcap : need ≤ cap)
    (ht : ∀ (d : Value) (i : Nat), blkGet d tr i = if 0 ≤ i ∧ i < 0 + vs.length then vs.getD (i - 0) d else blkGet d .nil i) (pl : Bool) (rest : Array Value) (hr : rest.size = (cap - need) * esz) (hcM : cap ≤ 9223372036854775807) (hok : ∀ v ∈ vs, cellOk v = true) :
    BR E (.cells n elem esz true pl undef tr) ⟨b, 0, cap, hcM⟩ (some (.cells (⟨vs'⟩ ++ rest) elem)) := by
  have hsz : ((⟨vs'⟩ : Array Value) ++ rest).size = cap * esz := by
    simp only [Array.size_append, hr]
    have : (⟨vs'⟩ : Array Value).size = need * esz := by rw [← hneed, hl.1]; simp
    rw [this, ← Nat.add_mul]
    congr 1; omega
  refine ⟨_, (0, 0), rfl, fun i hi => ?_, by rw [hsz]; simp, fun _ => Or.inl rfl, fun _ => rfl, okB_new hok (by omega) ht⟩
  have hi1 : i < vs.length := by omega
  have hi2 : i < vs'.length := by rw [← hl.1]; exact hi1
  refine ⟨vs'[i], ?_, ?_⟩
  · show ((⟨vs'⟩ : Array Value) ++ rest)[0 + i]? = _
    rw [Nat.zero_add, Array.getElem?_append_left (by simpa using hi2)]
    simp [hi2]
  · rw [ht, if_pos (by omega), Nat.sub_zero, List.getD_eq_getElem?_getD, List.getElem?_eq_getElem hi1]
    exact hl.2 _ _ _ (List.getElem?_eq_getElem hi1) (List.getElem?_eq_getElem hi2)
theorem grownK_ok {elem esz : Nat} {pl : Bool} {vs : List Value} {need : Nat} {h : Hp} {c : Value → Hp → An R} (hq : grownK elem esz pl vs need h c = .ok r) :
    ∃ tr, (∀ (d : Value) (i : Nat), blkGet d tr i = if 0 ≤ i ∧ i < 0 + vs.length then vs.getD (i - 0) d else blkGet d .nil i) ∧ (∀ v ∈ vs, cellOk v = true) ∧
      c (.slice (some ⟨h.next, 0, none⟩) need TOP) ⟨h.t.put h.next (some (.cells vs.length elem esz true pl undef tr)), h.next + 1⟩ = .ok r := by
  unfold grownK at hq
  replace hq := putCells_ok hq
  obtain ⟨tr, hq, h1, h2⟩ := hq
  exact ⟨tr, h2, h1, newBlk_ok hq⟩
theorem firstK_cells {size n k off len cap : Nat} {h : Hp} {c : List Value → An R} (hq : firstK size n (.slice (some ⟨k, off, none⟩) len cap) h c = .ok r) :
    ∃ l, c l = .ok r ∧ l.length = n * size ∧ (n = 0 ∨ ∃ m el ez ti pl d tr, h.t.find k = some (.cells m el ez ti pl d tr) ∧ off + n * size ≤ m ∧ ∀ j : Nat, j < n * size → l[j]? = some (blkGet d tr (off + j))) ∧
      ∀ G E w x', WR G E h.t w → VR E (.slice (some ⟨k, off, none⟩) len cap) x' → ∃ l', LR E l l' ∧ (Builtin.firstCells size n x').run P w = .ok ⟨l'⟩ w := by
  simp only [firstK] at hq
  split at hq
  · rename_i hn
    have hn := Nat.eq_of_beq_eq_true hn
    subst hn
    refine ⟨[], hq, by simp, Or.inl rfl, fun G E w x' hw hx => ?_⟩
    obtain ⟨e, c', he, _, _, rfl⟩ := hx.inv_sl
    exact ⟨[], LR.nil E, by simp [Builtin.firstCells, loadCells_zero]⟩
  · split at hq
    case h_2 => exact absurd hq no_ok
    rename_i m el ez ti pl d tr hk
    split at hq
    case h_2 => exact absurd hq no_ok
    rename_i hle
    have hle := Nat.le_of_ble_eq_true hle
    obtain ⟨l, hq, hl, hg⟩ := cellsK_ok hq
    refine ⟨l, hq, hl, Or.inr ⟨m, el, ez, ti, pl, d, tr, hk, hle, hg⟩, fun G E w x' hw hx => ?_⟩
    obtain ⟨e, c', he, _, _, rfl⟩ := hx.inv_sl
    obtain ⟨f, hf, hb, _⟩ := hw.blk k _ hk
    rw [he] at hf; cases hf
    obtain ⟨l', h1, h2, h3⟩ := cells_read (P := P) hb hle hl hg
    exact ⟨l', h1, h3⟩
theorem appendK_ok (hB : TabOK P B) {sT xT : TypeId} {s x : Value} {h : Hp} {c : Value → Hp → An R} (hq : appendK B sT xT s x h c = .ok r) :
    ∃ v h', c v h' = .ok r ∧ ∀ G E w s' x' (ts : Array TypeId) ty, ts[0]? = some sT → ts[1]? = some xT → WR G E h.t w → Fresh G E h.next → VR E s s' → VR E x x' →
      ∃ E' v' w', E.le E' ∧ Fresh G E' h'.next ∧ WR G E' h'.t w' ∧ VR E' v v' ∧ (Builtin.append_ ts ty #[s', x']).run P w = .ok v' w' := by
  unfold appendK at hq
  replace hq := und_ok hB hq
  obtain ⟨ds, hu, hq⟩ := hq
  split at hq
  case h_2 => exact absurd hq no_ok
  rename_i elem
  replace hq := info_ok hB hq
  obtain ⟨e, he, hq⟩ := hq
  replace hq := zeroOf_ok hB hq
  obtain ⟨i, z, hi, hz, hf, hq⟩ := hq
  rw [he] at hi; cases hi
  split at hq
  · rename_i n d tr hsh
    obtain ⟨xd, hxd, hq⟩ := und_ok hB hq
    split at hq
    case h_2 => exact absurd hq no_ok
    rename_i hb
    simp only [Bool.and_eq_true] at hb
    obtain ⟨hb1, hb2, hb3⟩ := hb
    have hint : isIntD xd = false := by simpa using hb1
    have hbytes : e.bytes ≤ 4096 := Nat.le_of_ble_eq_true hb2
    have hzs : (cellsOf z).length = e.size := Nat.eq_of_beq_eq_true hb3
    have hzl : z.cells.toList = cellsOf z := by cases z <;> rfl
    have hzsz : z.cells.size = e.size := by rw [← hzs, ← hzl]; simp
    rw [fN_eq] at hq
    replace hq := newBlk_ok hq
    refine ⟨_, _, hq, fun G E w s' x' ts ty ht0 ht1 hw hfr hs hx => ?_⟩
    have key : ∃ a c cx a', x = .slice a n cx ∧ 64 ≤ n ∧ n ≤ 1073741824 ∧ c < n ∧ shareOf x (Nat.mul n e.size) h = some (d, tr) ∧ s' = .slice a' 0 c ∧ (a' = none ∨ ∃ y, a' = some y) := by
      unfold appShare at hsh
      split at hsh
      case h_2 => cases hsh
      rename_i ax nx cx
      split at hsh
      · cases hsh
      rename_i hn
      rw [Bool.and_eq_true] at hn
      have hn1 : 64 ≤ nx := Nat.le_of_ble_eq_true hn.1
      have hn2 : nx ≤ 1073741824 := Nat.le_of_ble_eq_true hn.2
      split at hsh
      · cases hx2 : shareOf (.slice ax nx cx) (Nat.mul nx e.size) h with
        | none => rw [hx2] at hsh; cases hsh
        | some p =>
          rw [hx2] at hsh
          cases hsh
          exact ⟨ax, 0, cx, none, rfl, hn1, hn2, by omega, hx2, hs.inv_slnil, Or.inl rfl⟩
      · rename_i b o cap
        split at hsh
        case h_2 => cases hsh
        rename_i hc
        have hc : cap < nx := Nat.le_of_ble_eq_true hc
        cases hx2 : shareOf (.slice ax nx cx) (Nat.mul nx e.size) h with
        | none => rw [hx2] at hsh; cases hsh
        | some p =>
          rw [hx2] at hsh
          cases hsh
          obtain ⟨en, c', _, hcr, _, rfl⟩ := hs.inv_sl
          have : c' = cap := by rcases hcr with ⟨_, h⟩ | ⟨h, _⟩ <;> omega
          subst this
          exact ⟨ax, _, cx, _, rfl, hn1, hn2, hc, hx2, rfl, Or.inr ⟨_, rfl⟩⟩
      · cases hsh
    obtain ⟨a, c', cx, a', rfl, hn1, hn2, hcn, hsh2, rfl, _⟩ := key
    obtain ⟨k2, off2, len2, cap2, e2, hr⟩ := shareOf_ok (P := P) hsh2
    injection e2 with e3 e4 e5
    subst e3; subst e4; subst e5
    obtain ⟨en, cc, l', hen, rfl, hok, hl, hll, hfc⟩ := hr G E { w with drawn := w.drawn + 1 } x' (hw.drawn _) hx
    have hm : AppMode P xT e z (.slice (some ⟨en.b, en.o + off2, none⟩) n cc) n { w with drawn := w.drawn + 1 } l' := Or.inr ⟨xd, hxd, hint, fun w => lenOf_run hx (Or.inl ⟨_, _, rfl⟩) w, hfc e.size n rfl⟩
    have hold : (Builtin.firstCells e.size 0 (.slice a' 0 c')).run P { w with drawn := w.drawn + 1 } = .ok ⟨[]⟩ { w with drawn := w.drawn + 1 } := by
      cases a' <;> simp [Builtin.firstCells, loadCells_zero]
    obtain ⟨nc, hnc, hncM, hrun⟩ := append_grow (P := P) hu he hz ht0 ht1 ty hm (base := a') (len := 0) (cap := c') (by omega) (by omega) hbytes hold
    rw [Nat.zero_add] at hnc hrun
    have hEn : E h.next = none := hfr.at
    let e0 : Ent := ⟨w.heap.size, 0, nc, hncM⟩
    have hle := Env.le_set (e := e0) hEn
    have happ : (⟨[]⟩ ++ ⟨l'⟩ ++ Builtin.zeroCells z.cells (nc - n) : Array Value) = ⟨l'⟩ ++ Builtin.zeroCells z.cells (nc - n) := by
      apply Array.ext'; simp
    rw [happ] at hrun
    have hrest : (Builtin.zeroCells z.cells (nc - n)).size = (nc - n) * e.size := by simp [Builtin.zeroCells, hzsz]
    have hll' : l'.length = n * e.size := hll
    have hcsz : ((⟨l'⟩ : Array Value) ++ Builtin.zeroCells z.cells (nc - n)).size = nc * e.size := by
      rw [Array.size_append, hrest]
      show l'.length + _ = _
      rw [hll', ← Nat.add_mul]; congr 1; omega
    refine ⟨E.set h.next e0, _, _, hle, hfr.next e0, (hw.new h.next hEn (.cells (Nat.mul n e.size) elem e.size true true d tr) rfl e0 (.cells (⟨l'⟩ ++ Builtin.zeroCells z.cells (nc - n)) elem (0, 0)) rfl ⟨_, (0, 0), rfl, fun i hi => ?_, by rw [hcsz]; show 0 + nc * e.size ≤ _; omega, fun _ => Or.inl rfl, fun _ => rfl, hok⟩).drawn _, ?_, hrun⟩
    · have hi' : i < l'.length := by rw [hll']; exact hi
      refine ⟨l'[i], ?_, (hl.2 i (blkGet d tr i) _ (by have hi2 : i < n * e.size := hi; simp [hi2]) (List.getElem?_eq_getElem hi')).mono hle⟩
      show ((⟨l'⟩ : Array Value) ++ _)[0 + i]? = _
      rw [Nat.zero_add, Array.getElem?_append_left (by simpa using hi')]
      simp [hi']
    · exact VR.sl (k := h.next) (o := 0) (Env.set_self _ _ _) (Or.inr ⟨by decide, rfl⟩) hnc
  rename_i hsh
  clear hsh
  replace hq := newK_ok hB hf hq
  obtain ⟨n, new, hq, hnew⟩ := hq
  split at hq
  case h_2 => exact absurd hq no_ok
  rename_i base len cap
  split at hq
  · -- nothing comes
    have same : ∀ G E w s' x' (ts : Array TypeId) ty, ts[0]? = some sT → ts[1]? = some xT → WR G E h.t w → VR E (.slice base len cap) s' → VR E x x' → (base = none → len ≤ cap) → (Builtin.append_ ts ty #[s', x']).run P w = .ok s' w := by
      intro G E w s' x' ts ty ht0 ht1 hw hs hx hle
      obtain ⟨new', h1, hm⟩ := hnew G E w x' hw hx (Or.inl rfl)
      have hsh : ∃ a' c', s' = .slice a' len c' ∧ len ≤ c' := by
        cases base with
        | none => exact ⟨_, _, hs.inv_slnil, hle rfl⟩
        | some a =>
          obtain ⟨k, o, sp⟩ := a
          cases sp with
          | none => obtain ⟨en, c', _, _, hl, rfl⟩ := hs.inv_sl; exact ⟨_, _, rfl, hl⟩
          | some sp => obtain ⟨rfl, a, c', rfl⟩ := hs.inv_vague; exact ⟨_, _, rfl, Nat.zero_le _⟩
      obtain ⟨a', c', rfl, hlc⟩ := hsh
      have hn0 : new' = [] := by
        rcases hm with ⟨k, kk, _, _, _, _, rfl⟩ | ⟨xd, _, _, hl, hf'⟩
        · simp
        · have := h1.1
          cases x' with
          | slice a n' cc =>
            cases a with
            | none => simp only [Builtin.firstCells, Sem.run_pure, Result.ok.injEq, and_true] at hf'; have := congrArg Array.toList hf'; simpa using this.symm
            | some a => simp only [Builtin.firstCells, Nat.zero_mul, loadCells_zero, Result.ok.injEq, and_true] at hf'; have := congrArg Array.toList hf'; simpa using this.symm
          | string s =>
            simp only [Builtin.firstCells, Sem.run_pure, Result.ok.injEq, and_true] at hf'
            have h2 := congrArg Array.toList hf'
            simp only [Array.toList_map] at h2
            have h3 : (s.extract 0 0).data.toList = [] := by simp
            rw [h3] at h2
            simpa using h2.symm
          | _ => simp [Builtin.firstCells, stuck, Sem.run] at hf'
      subst hn0
      have := append_in (P := P) hu he hz ht0 ht1 ty (base := a') (len := len) (cap := c') (n := 0) (x' := x') (w := w) (w' := w) (new' := []) hm (by omega) (by cases a' <;> rfl)
      simpa using this
    split at hq
    · split at hq
      case h_2 => exact absurd hq no_ok
      rename_i hle
      exact ⟨_, _, hq, fun G E w s' x' ts ty ht0 ht1 hw hf hs hx => ⟨E, s', w, Env.le.refl E, hf, hw, hs, same G E w s' x' ts ty ht0 ht1 hw hs hx (fun _ => Nat.le_of_ble_eq_true hle)⟩⟩
    · exact ⟨_, _, hq, fun G E w s' x' ts ty ht0 ht1 hw hf hs hx => ⟨E, s', w, Env.le.refl E, hf, hw, hs, same G E w s' x' ts ty ht0 ht1 hw hs hx (fun h => by cases h)⟩⟩
  · rename_i n'
    rw [fN_eq] at hq
    split at hq
    case h_2 => exact absurd hq no_ok
    rename_i hb
    simp only [Bool.and_eq_true] at hb
    obtain ⟨⟨⟨hb1, hb2⟩, hb3⟩, hb4⟩ := hb
    have hneed : len + Nat.succ n' ≤ 1073741824 := Nat.le_of_ble_eq_true hb1
    have hbytes : e.bytes ≤ 4096 := Nat.le_of_ble_eq_true hb2
    have hzs : (cellsOf z).length = e.size := Nat.eq_of_beq_eq_true hb3
    have hnl : new.length = Nat.succ n' * e.size := Nat.eq_of_beq_eq_true hb4
    have hzl : z.cells.toList = cellsOf z := by cases z <;> rfl
    have hzsz : z.cells.size = e.size := by rw [← hzs, ← hzl]; simp
    have hrest : ∀ m, (Builtin.zeroCells z.cells m).size = m * e.size := fun m => by simp [Builtin.zeroCells, hzsz]
    -- it grows: a new block
    have growth : ∀ {G E w s' x'} {ts : Array TypeId} {ty a' c'} {old : List Value} {tr : T Value} {pl : Bool}, ts[0]? = some sT → ts[1]? = some xT → WR G E h.t w → Fresh G E h.next → s' = .slice a' len c' → VR E x x' → c' < len + Nat.succ n' →
        (∃ old', LR E old old' ∧ (Builtin.firstCells e.size len s').run P { w with drawn := w.drawn + 1 } = .ok ⟨old'⟩ { w with drawn := w.drawn + 1 }) → old.length = len * e.size →
        (∀ (d : Value) (i : Nat), blkGet d tr i = if 0 ≤ i ∧ i < 0 + (old ++ new).length then (old ++ new).getD (i - 0) d else blkGet d .nil i) → (∀ v ∈ old ++ new, cellOk v = true) →
        ∃ E' v' w', E.le E' ∧ Fresh G E' (h.next + 1) ∧ WR G E' (h.t.put h.next (some (.cells (old ++ new).length elem e.size true pl undef tr))) w' ∧ VR E' (.slice (some ⟨h.next, 0, none⟩) (len + Nat.succ n') TOP) v' ∧ (Builtin.append_ ts ty #[s', x']).run P w = .ok v' w' := by
      intro G E w s' x' ts ty a' c' old tr pl ht0 ht1 hw hfr hs' hx hlt ⟨old', ho1, ho2⟩ hol htr hokk
      subst hs'
      obtain ⟨new', h1, hm⟩ := hnew G E { w with drawn := w.drawn + 1 } x' (hw.drawn _) hx (Or.inr hzs)
      obtain ⟨nc, hnc, hncM, hrun⟩ := append_grow (P := P) hu he hz ht0 ht1 ty hm hlt hneed hbytes ho2
      have hEn : E h.next = none := hfr.at
      let en : Ent := ⟨w.heap.size, 0, nc, hncM⟩
      have hle := Env.le_set (e := en) hEn
      have hl := (ho1.append h1).mono hle
      have happ : (⟨old'⟩ ++ ⟨new'⟩ ++ Builtin.zeroCells z.cells (nc - (len + Nat.succ n')) : Array Value) = ⟨old' ++ new'⟩ ++ Builtin.zeroCells z.cells (nc - (len + Nat.succ n')) := by
        apply Array.ext'; simp
      rw [happ] at hrun
      have hbr := BR.grown (E := E.set h.next en) (elem := elem) (esz := e.size) (cap := nc) (need := len + Nat.succ n') (z := z.cells) (b := w.heap.size) hl rfl hzsz (by rw [List.length_append, hol, hnl, ← Nat.add_mul]) hnc htr pl (Builtin.zeroCells z.cells (nc - (len + Nat.succ n'))) (hrest _) hncM hokk
      refine ⟨E.set h.next en, _, _, hle, hfr.next en, (hw.new h.next hEn _ rfl en _ rfl hbr).drawn _, ?_, hrun⟩
      exact VR.sl (k := h.next) (o := 0) (Env.set_self _ _ _) (Or.inr ⟨by decide, by show nc + TOP = nc + TOP; rfl⟩) hnc
    split at hq
    · split at hq
      case h_2 => exact absurd hq no_ok
      rename_i hb0
      rw [Bool.and_eq_true] at hb0
      have hc0 := Nat.eq_of_beq_eq_true hb0.1
      have hl0 := Nat.eq_of_beq_eq_true hb0.2
      subst hc0; subst hl0
      obtain ⟨tr, htr, hokk, hq⟩ := grownK_ok hq
      refine ⟨_, _, hq, fun G E w s' x' ts ty ht0 ht1 hw hfr hs hx => ?_⟩
      exact growth (old := []) ht0 ht1 hw hfr hs.inv_slnil hx (by omega) ⟨[], LR.nil E, by rw [hs.inv_slnil]; rfl⟩ (by simp) htr hokk
    · rename_i k off
      split at hq
      · rename_i hcap
        have hcap : cap < 4611686018427387904 := Nat.le_of_ble_eq_true hcap
        have hcE : ∀ {E : Env} {s' : Value}, VR E (.slice (some ⟨k, off, none⟩) len cap) s' → ∃ en, E k = some en ∧ len ≤ cap ∧ s' = .slice (some ⟨en.b, en.o + off, none⟩) len cap := fun hs => by
          obtain ⟨en, c', hen, hcr, hl, rfl⟩ := hs.inv_sl
          have hc' : c' = cap := by rcases hcr with ⟨_, h⟩ | ⟨h, _⟩; exact h; omega
          subst hc'
          exact ⟨en, hen, hl, rfl⟩
        split at hq
        · rename_i hle
          have hle : len + Nat.succ n' ≤ cap := Nat.le_of_ble_eq_true hle
          rw [fN_eq] at hq
          obtain ⟨h', hq, hnx, hr⟩ := writeAt_ok (P := P) hq
          refine ⟨_, _, hq, fun G E w s' x' ts ty ht0 ht1 hw hfr hs hx => ?_⟩
          obtain ⟨en, hen, _, rfl⟩ := hcE hs
          obtain ⟨new', h1, hm⟩ := hnew G E w x' hw hx (Or.inr hzs)
          obtain ⟨w', h2, h3⟩ := hr G E w en new' hw hen h1
          refine ⟨E, _, w', Env.le.refl E, hnx ▸ hfr, h3, .sl hen (Or.inl ⟨hcap, rfl⟩) hle, append_in (P := P) hu he hz ht0 ht1 ty hm hle ?_⟩
          show (storeCells ((⟨en.b, en.o + off, none⟩ : Addr).add (len * e.size)) new').run P w = _
          rw [add_none, Nat.add_assoc]
          exact h2
        · rename_i hle
          have hle : ¬ (len + Nat.succ n' ≤ cap) := fun x => by
            have : Nat.ble (len + Nat.succ n') cap = true := Nat.ble_eq_true_of_le x
            rw [show Nat.add len (Nat.succ n') = len + Nat.succ n' from rfl, this] at hle
            cases hle
          obtain ⟨old, hq, hol, hold⟩ := firstK_ok (P := P) hq
          rw [fL_eq] at hq
          obtain ⟨tr, htr, hokk, hq⟩ := grownK_ok hq
          refine ⟨_, _, hq, fun G E w s' x' ts ty ht0 ht1 hw hfr hs hx => ?_⟩
          obtain ⟨en, hen, _, rfl⟩ := hcE hs
          exact growth ht0 ht1 hw hfr rfl hx (by omega) (hold G E { w with drawn := w.drawn + 1 } _ (hw.drawn _) hs) (hol (fun s e => by cases e)) htr hokk
      · rename_i hcap
        have hcap : 4611686018427387904 ≤ cap := by
          rcases Nat.lt_or_ge cap 4611686018427387904 with h | h
          · have : Nat.blt cap 4611686018427387904 = true := Nat.ble_eq_true_of_le h
            rw [this] at hcap; cases hcap
          · exact h
        split at hq
        case h_2 => exact absurd hq no_ok
        rename_i m el ez pl d tr0 hk
        split at hq
        case h_2 => exact absurd hq no_ok
        rename_i hb
        simp only [Bool.and_eq_true] at hb
        obtain ⟨⟨⟨hb1, hb2⟩, hb3⟩, hb4⟩ := hb
        have hel := Nat.eq_of_beq_eq_true hb1
        have hez := Nat.eq_of_beq_eq_true hb2
        have hcT : cap ≤ TOP := Nat.le_of_ble_eq_true hb3
        have hoff : off = (TOP - cap) * e.size := Nat.eq_of_beq_eq_true hb4
        subst hel
        obtain ⟨old, hq, hol, hcells, hold⟩ := firstK_cells (P := P) hq
        rw [fL_eq] at hq
        obtain ⟨tr, htr, hok, hq⟩ := grownK_ok hq
        rw [T.putK_eq] at hq
        refine ⟨_, _, hq, fun G E w s' x' ts ty ht0 ht1 hw hfr hs hx => ?_⟩
        obtain ⟨en, c', hen, hcr, hlc, rfl⟩ := hs.inv_sl
        have hcr : c' + TOP = en.cap + cap := by rcases hcr with ⟨h, _⟩ | ⟨_, h⟩; omega; exact h
        rcases Nat.lt_or_ge c' (len + Nat.succ n') with hlt | hge
        · obtain ⟨E', v', w', h1, h2, h3, h4, h5⟩ := growth (pl := pl) ht0 ht1 hw hfr rfl hx hlt (hold G E { w with drawn := w.drawn + 1 } _ (hw.drawn _) hs) hol htr hok
          exact ⟨E', v', w', h1, h2, h3.kill k, h4, h5⟩
        · -- it grows in place
          obtain ⟨new', h1, hm⟩ := hnew G E w x' hw hx (Or.inr hzs)
          obtain ⟨f, hf', hb, hnf⟩ := hw.blk k _ hk
          rw [hen] at hf'; cases hf'
          obtain ⟨cs, fr, g1, g2, g3, g4, g5⟩ := hb
          rw [hez] at g3
          have hroom : en.o + off + (len + Nat.succ n') * e.size ≤ cs.size := by
            have a1 : en.cap = c' + (TOP - cap) := by omega
            have a2 : (TOP - cap) * e.size + (len + Nat.succ n') * e.size ≤ en.cap * e.size := by
              rw [← Nat.add_mul]; exact Nat.mul_le_mul_right _ (by omega)
            omega
          have hsplit : (len + Nat.succ n') * e.size = len * e.size + Nat.succ n' * e.size := Nat.add_mul _ _ _
          have hnl' : new'.length = Nat.succ n' * e.size := by rw [← h1.1]; exact hnl
          have hrun := run_storeCells_cells (P := P) en.b (en.o + off + len * e.size) new' 0 w (fun j hj => by
              have : en.o + off + len * e.size + j < cs.size := by omega
              simp [World.cell?, g1, this])
            (fun j hj => by
              have : en.o + off + len * e.size + j < cs.size := by omega
              simp only [World.frozen?, g1]
              rcases g4 rfl with g4 | g4 <;> subst g4 <;> simp <;> omega)
            (fun v' hv' => by
              obtain ⟨i, hi⟩ := List.mem_iff_getElem?.1 hv'
              have hil : i < new.length := by rw [h1.1]; exact (List.getElem?_eq_some_iff.1 hi).1
              exact cellOk_one (h1.2 i _ _ (List.getElem?_eq_getElem hil) hi) (hok _ (List.mem_append_right _ (List.getElem_mem hil))))
          rw [Nat.add_zero] at hrun
          obtain ⟨a1, a2, a3, a4, a5, a6⟩ := setCells_heap en.b new' (en.o + off + len * e.size) w cs el fr g1
          have hX : E h.next = none := hfr.at
          let en' : Ent := ⟨en.b, en.o + off, c', by have := en.hcap; omega⟩
          have hle := Env.le_set (e := en') hX
          refine ⟨E.set h.next en', _, _, hle, hfr.next en', hw.rename hk hen rfl hX (.cells (old ++ new).length el e.size true pl undef tr) rfl en' rfl a3 a2 ?_ a4 a5 a6, ?_, append_in (P := P) hu he hz ht0 ht1 ty hm hge ?_⟩
          · refine ⟨_, fr, a1, fun i hi => ?_, by rw [setRun_size]; show en.o + off + c' * e.size ≤ _; rw [hoff]; have b1 : en.cap = c' + (TOP - cap) := by omega
                                                  have b2 : (TOP - cap) * e.size + c' * e.size = en.cap * e.size := by rw [← Nat.add_mul, b1]; congr 1; omega
                                                  omega, by rw [setRun_size]; exact g4, g5.1, okB_new hok (Nat.le_refl _) htr⟩
            have hi' : i < old.length + new.length := by rw [← List.length_append]; exact hi
            show ∃ v', (setRun cs (en.o + off + len * e.size) new')[en.o + off + i]? = some v' ∧ _
            have hx1 : blkGet undef tr i = (old ++ new).getD i undef := by rw [htr, if_pos (by rw [List.length_append]; omega), Nat.sub_zero]
            rw [setRun_get _ _ _ _ (by omega), hx1]
            rcases Nat.lt_or_ge i old.length with hio | hio
            · rw [if_neg (by omega)]
              rcases hcells with hl0 | ⟨m2, el2, ez2, ti2, pl2, d2, tr2, hk2, hm2, hg2⟩
              · rw [hol, hl0] at hio; simp at hio
              · rw [hk] at hk2; cases hk2
                obtain ⟨v', hv1, hv2⟩ := g2 (off + i) (by omega)
                refine ⟨v', by rw [← Nat.add_assoc] at hv1; exact hv1, ?_⟩
                rw [List.getD_eq_getElem?_getD, List.getElem?_append_left hio, hg2 i (by omega)]
                exact hv2.mono hle
            · rw [if_pos (by omega)]
              have hin : i - old.length < new.length := by omega
              have hin' : i - old.length < new'.length := by rw [← h1.1]; exact hin
              have e1 : en.o + off + i - (en.o + off + len * e.size) = i - old.length := by omega
              refine ⟨new'[i - old.length], by rw [e1]; exact List.getElem?_eq_getElem hin', ?_⟩
              rw [List.getD_eq_getElem?_getD, List.getElem?_append_right hio, List.getElem?_eq_getElem hin]
              exact (h1.2 _ _ _ (List.getElem?_eq_getElem hin) (List.getElem?_eq_getElem hin')).mono hle
          · have := VR.sl (E := E.set h.next en') (k := h.next) (o := 0) (l := len + Nat.succ n') (c := TOP) (c' := c') (Env.set_self _ _ _) (Or.inr ⟨by decide, rfl⟩) hge
            exact this
          · show (storeCells ((⟨en.b, en.o + off, none⟩ : Addr).add (len * e.size)) new').run P w = _
            rw [add_none]
            exact hrun
    · exact absurd hq no_ok
end
end Go.Ev
