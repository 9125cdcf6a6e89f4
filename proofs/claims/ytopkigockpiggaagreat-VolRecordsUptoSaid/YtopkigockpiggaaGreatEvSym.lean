/-
  Steps of the evaluator where values are not known: what stands at the head of a run, and what comes of it. (The run itself goes on by 'conv => lhs; whnf', the names below being irreducible.)
-/
import Derived.Test.YtopkigockpiggaaGreatEvTop
set_option linter.unusedVariables false
set_option linter.unusedSimpArgs false
namespace Go.Ev
section
variable {R : Type} {B : Tab}
/-- a call comes to a value and a heap, whatever waits behind it. -/
noncomputable def Runs (B : Tab) (f : FuncId) (l : List Value) (h : Hp) (v : Value) (h' : Hp) : Prop :=
  ∃ N, ∀ n, N ≤ n → ∀ (R : Type) (J : R → R → Bool) (c : Value → Hp → An R), enterK B (ev B n R J) f l h c = c v h'
theorem bool_t (a b : Unit → An R) : boolK (.bool true) a b = a () := by unfold boolK; rfl
theorem bool_f (a b : Unit → An R) : boolK (.bool false) a b = b () := by unfold boolK; rfl
theorem fV_int (k : IntKind) (n : Int) (c : Value → An R) : fV (.int k n) c = c (.int k n) := by
  cases n with
  | ofNat m =>
    show fN m (fun m => c (.int k (.ofNat m))) = _
    rw [fN_eq]
  | negSucc m =>
    show fN m (fun m => c (.int k (.negSucc m))) = _
    rw [fN_eq]
theorem fV_bool (b : Bool) (c : Value → An R) : fV (.bool b) c = c (.bool b) := by cases b <;> rfl
/-- one cell is read. -/
theorem load1 {t : TypeId} {ds : TypeDesc} (hu : B.un.find t = some ds) (ha : isAggD ds = false) {k off n : Nat} {e : TypeId} {z : Nat} {mu pl : Bool} {d : Value} {tr : T Value} {h : Hp} (hb : h.t.find k = some (.cells n e z mu pl d tr))
    (hlt : off < n) {v : Value} (hv : tr.find off = some v) (c : Value → An R) : loadAt B t (.pointer (some ⟨k, off, none⟩)) h c = c v := by
  unfold loadAt
  simp only [hb]
  show und B t _ = _
  unfold und
  rw [hu]
  show (match isAggD ds with | true => _ | false => _) = _
  rw [ha]
  have : Nat.blt off n = true := Nat.ble_eq_true_of_le hlt
  simp only [this, hv]
/-- one cell is written. -/
theorem store1 {t : TypeId} {i : TypeInfo} (hi : B.ty.find t = some i) (hs : i.size = 1) {k off n : Nat} {e : TypeId} {z : Nat} {pl : Bool} {d : Value} {tr : T Value} {h : Hp} (hb : h.t.find k = some (.cells n e z true pl d tr))
    (hlt : off < n) {v : Value} (hv : cellsOf v = [v]) (hok : cellOk v = true) (c : Hp → An R) : storeAt B t (.pointer (some ⟨k, off, none⟩)) v h c = c ⟨h.t.put k (some (.cells n e z true pl d (tr.put off (some v)))), h.next⟩ := by
  unfold storeAt
  show info B t _ = _
  unfold info
  rw [hi]
  show (match Nat.beq i.size (cellsOf v).length with | true => _ | false => _) = _
  rw [hs, hv]
  show writeAt k off [v] h c = _
  unfold writeAt
  simp only [hb]
  have : Nat.ble (Nat.add off [v].length) n = true := Nat.ble_eq_true_of_le hlt
  simp only [this]
  show putCells [v] off tr _ = _
  unfold putCells
  show (Bool.rec (motive := fun _ => An R) (no 8) (tr.putK (some v) off fun t => _) (cellOk v)) = _
  rw [hok]
  show tr.putK (some v) off _ = _
  rw [T.putK_eq]
  show T.putK _ h.t k _ = _
  rw [T.putK_eq]
theorem ptr_nil {t : TypeId} {e : TypeId} (hu : B.un.find t = some (.pointer e)) {b o : Nat} {h : Hp} (c : Value → An R) : binK B .eql t (.pointer (some ⟨b, o, none⟩)) (.pointer none) h c = c (.bool false) := by
  unfold binK
  simp only
  show und B t _ = _
  unfold und
  rw [hu]
  show sameV B (.pointer e) h (.pointer (some ⟨b, o, none⟩)) (.pointer none) _ = _
  unfold sameV fV
  rfl
theorem nil_nil {t : TypeId} {e : TypeId} (hu : B.un.find t = some (.pointer e)) {h : Hp} (c : Value → An R) : binK B .eql t (.pointer none) (.pointer none) h c = c (.bool true) := by
  unfold binK
  simp only
  show und B t _ = _
  unfold und
  rw [hu]
  show sameV B (.pointer e) h (.pointer none) (.pointer none) _ = _
  unfold sameV fV
  rfl
theorem len_slice {t : TypeId} {e : TypeId} (hu : B.un.find t = some (.slice e)) {b : Option Addr} {n cap : Nat} {h : Hp} (c : Value → An R) : lenK B (.slice b n cap) t h c = c (.int .i64 (.ofNat n)) := by
  unfold lenK und
  rw [hu]
theorem len_str {t : TypeId} (hu : B.un.find t = some .string) {l : List UInt8} {h : Hp} (c : Value → An R) : lenK B (.string ⟨⟨l⟩⟩) t h c = c (.int .i64 (.ofNat l.length)) := by
  unfold lenK und
  rw [hu]
  exact fN_eq _ _
theorem binNatK_nat (op : BinOp) (k : IntKind) (m n : Nat) (s : Sem Value) (c : Value → An R) :
    binNatK op k m n c (fun _ => fS s c) = (match binNatK op k m n (fun v => (.ok v : An Value)) (fun _ => fS s fun v => .ok v) with | .ok v => c v | .error e => .error e) := by
  have hs : fS s c = (match fS s (fun v => (.ok v : An Value)) with | .ok v => c v | .error e => .error e) := by
    unfold fS
    split
    · unfold fV
      split <;> first | rfl | (rw [fN_eq, fN_eq])
    · rfl
  have hb : ∀ b, ifB b c = (match ifB b (fun v => (.ok v : An Value)) with | .ok v => c v | .error e => .error e) := fun b => by cases b <;> rfl
  unfold binNatK
  split <;> first | exact hb _ | exact hs | (simp only [fN_eq]; repeat' split) <;> first | rfl | exact hs | simp_all
/-- two numbers. -/
theorem bin_int {op : BinOp} {t : TypeId} {k j : IntKind} {a b : Int} {v : Value} (hv : Go.binOp op t (.int k a) (.int j b) = .pure v) (hf : (∃ k n, v = .int k n) ∨ ∃ b, v = .bool b) {h : Hp} (c : Value → An R) :
    binK B op t (.int k a) (.int j b) h c = c v := by
  have hfs : ∀ {R : Type} (c : Value → An R), fS (Go.binOp op t (.int k a) (.int j b)) c = c v := fun c => by
    rw [hv]
    unfold fS
    rcases hf with ⟨k, n, rfl⟩ | ⟨b, rfl⟩
    · exact fV_int k n c
    · exact fV_bool b c
  have hgo : ∀ m n, a = .ofNat m → b = .ofNat n → (k = j ∨ op = .shr) → binNatK op k m n c (fun _ => fS (Go.binOp op t (.int k a) (.int j b)) c) = c v := by
    intro m n ha hb hkj
    subst ha; subst hb
    rw [binNatK_nat]
    cases hr : binNatK op k m n (fun v => (.ok v : An Value)) (fun _ => fS (Go.binOp op t (.int k (.ofNat m)) (.int j (.ofNat n))) fun v => .ok v) with
    | ok u =>
      obtain ⟨w, h1, h2, _⟩ := binNatK_ok hkj hr
      rw [hv] at h1
      cases h1; cases h2
      rfl
    | error e =>
      exfalso
      unfold binNatK at hr
      have hx := hfs (fun v => (.ok v : An Value))
      have hi : ∀ b, ifB b (fun v => (.ok v : An Value)) ≠ .error e := fun b => by cases b <;> (intro h; cases h)
      split at hr <;> first | exact hi _ hr | (simp only [fN_eq] at hr; repeat' split at hr) <;> first | (cases hr; done) | (rw [hx] at hr; cases hr)
  unfold binK
  simp only
  unfold binIntK
  split
  · rename_i m
    split
    · rename_i n
      split
      · rename_i hk
        exact hgo m n rfl rfl (Or.inl (kindN_inj hk))
      · split
        · exact hgo m n rfl rfl (Or.inr rfl)
        · exact hfs c
    · exact hfs c
  · exact hfs c
noncomputable def planB (ops : List Oper) : Bool := match planOf ops with | .ok _ => true | .error _ => false
noncomputable def planMs (ops : List Oper) : T Nat := match planOf ops with | .ok ms => ms | .error _ => .nil
/-- a region that draws its order. -/
theorem draw_eq {call : CallK R} {call1 : CallK (Value × Hp)} {ops : List Oper} {ntm : Nat} {tm : T Value} {h : Hp} {c : T Value → Hp → An R} (hp : planB ops = true) (ha : ops.any mayAlloc = false) :
    drawK B call call1 ops ntm tm h c = rowsK B call call1 ops (planMs ops) ntm h.next ops 0 tm h 0 none [] fun rows tm' h' cm als =>
          match stillRows rows with
          | true => c tm' h'
          | false => readsK B call (planMs ops) h (loudsOf rows 0) (loudMask (loudsOf rows 0)) als rows ops 0 <|
            allK cm als h'.t fun t => c tm' ⟨t, h'.next⟩ := by
  cases hm : planOf ops with
  | ok ms =>
    have : planMs ops = ms := by unfold planMs; rw [hm]
    rw [this]
    unfold drawK
    rw [hm]
    simp only [fN_eq, ha]
    rfl
  | error x =>
    unfold planB at hp
    rw [hm] at hp
    cases hp
end
end Go.Ev
set_option linter.unusedVariables false
namespace Go.Ev
section
variable {R : Type} {B : Tab}
theorem beq_ff {a b : Nat} (h : a ≠ b) : Nat.beq a b = false := by
  cases e : Nat.beq a b with
  | false => rfl
  | true => exact absurd (Nat.eq_of_beq_eq_true e) h
theorem beq_tt {a b : Nat} (h : a = b) : Nat.beq a b = true := by subst h; exact Nat.beq_refl a
theorem ble_tt {a b : Nat} (h : a ≤ b) : Nat.ble a b = true := Nat.ble_eq_true_of_le h
theorem ble_ff {a b : Nat} (h : b < a) : Nat.ble a b = false := by
  cases e : Nat.ble a b with
  | false => rfl
  | true => exact absurd (Nat.le_of_ble_eq_true e) (Nat.not_le_of_lt h)
theorem blt_tt {a b : Nat} (h : a < b) : Nat.blt a b = true := Nat.ble_eq_true_of_le h
theorem blt_ff {a b : Nat} (h : b ≤ a) : Nat.blt a b = false := ble_ff (Nat.lt_succ_of_le h)
theorem und_eq {t : TypeId} {d : TypeDesc} (h : B.un.find t = some d) (c : TypeDesc → An R) : und B t c = c d := by unfold und; rw [h]
theorem info_eq {t : TypeId} {d : TypeInfo} (h : B.ty.find t = some d) (c : TypeInfo → An R) : info B t c = c d := by unfold info; rw [h]
theorem newBlk_eq (b : Blk) (h : Hp) (c : Nat → Hp → An R) : newBlk b h c = c h.next ⟨h.t.put h.next (some b), h.next + 1⟩ := by
  unfold newBlk
  rw [T.putK_eq, fN_eq]
/-- cells, one behind the other. -/
noncomputable def putL : List Value → (i : Nat) → T Value → T Value
  | [], _, t => t
  | v :: r, i, t => putL r (i + 1) (t.put i (some v))
theorem putCells_eq : ∀ {l : List Value} {i : Nat} {t : T Value} {c : T Value → An R}, l.all cellOk = true → putCells l i t c = c (putL l i t)
  | [], _, _, _, _ => rfl
  | v :: r, i, t, c, h => by
    rw [List.all_cons, Bool.and_eq_true] at h
    show (Bool.rec (motive := fun _ => An R) (no 8) (t.putK (some v) i fun t => putCells r (Nat.succ i) t c) (cellOk v)) = _
    rw [h.1]
    show t.putK (some v) i _ = _
    rw [T.putK_eq]
    exact putCells_eq h.2
theorem find_putL : ∀ {l : List Value} {i : Nat} {t : T Value} {j : Nat}, (putL l i t).find j = if i ≤ j ∧ j < i + l.length then l[j - i]? else t.find j
  | [], i, t, j => by rw [if_neg (by simp)]; rfl
  | v :: r, i, t, j => by
    show (putL r (i + 1) (t.put i (some v))).find j = _
    rw [find_putL, T.find_put]
    by_cases e : j = i
    · subst e
      rw [if_neg (by omega), if_pos rfl, if_pos (by simp), Nat.sub_self]
      rfl
    · rw [if_neg e]
      by_cases h : i + 1 ≤ j ∧ j < i + 1 + r.length
      · rw [if_pos h, if_pos (by simp only [List.length_cons]; omega)]
        have : j - i = (j - (i + 1)) + 1 := by omega
        rw [this]
        rfl
      · rw [if_neg h, if_neg (by simp only [List.length_cons]; omega)]
theorem cellsK_eq (d : Value) (t : T Value) : ∀ (m i : Nat) (c : List Value → An R), cellsK d t m i c = c ((List.range m).map fun j => blkGet d t (i + j))
  | 0, _, _ => rfl
  | m + 1, i, c => by
    have h : cellsK d t (m + 1) i c = cellsK d t m (i + 1) fun l => c (blkGet d t i :: l) := by
      unfold blkGet
      show (Option.rec (motive := fun _ => An R) (cellsK d t m (Nat.succ i) fun l => c (d :: l)) (fun v => cellsK d t m (Nat.succ i) fun l => c (v :: l)) (t.find i)) = _
      cases t.find i <;> rfl
    rw [h, cellsK_eq d t m (i + 1), List.range_succ_eq_map, List.map_cons, List.map_map]
    congr 2
    apply List.map_congr_left
    intro j _
    show blkGet d t (i + 1 + j) = blkGet d t (i + (j + 1))
    congr 1
    omega
/-- a slice's cells, z of them an element. -/
noncomputable def Span (h : Hp) (v : Value) (z n : Nat) (L : List Value) : Prop :=
  L.length = n * z ∧ ((n = 0 ∧ ∃ cap, v = .slice none 0 cap) ∨
    ∃ k off cap m e mu pl d tr, v = .slice (some ⟨k, off, none⟩) n cap ∧ k < h.next ∧ h.t.find k = some (.cells m e z mu pl d tr) ∧ off + n * z ≤ m ∧ ∀ i, i < n * z → L[i]? = some (blkGet d tr (off + i)))
/-- a slice that was made by append: its block is its own. -/
noncomputable def Mine (h : Hp) (v : Value) (el : TypeId) (z n : Nat) (L : List Value) : Prop :=
  L.length = n * z ∧ ((n = 0 ∧ v = .slice none 0 0) ∨
    ∃ k d tr, v = .slice (some ⟨k, 0, none⟩) n TOP ∧ 0 < n ∧ k < h.next ∧ h.t.find k = some (.cells (n * z) el z true true d tr) ∧ ∀ i, i < n * z → L[i]? = some (blkGet d tr i))
theorem Mine.span {h : Hp} {v : Value} {el : TypeId} {z n : Nat} {L : List Value} (o : Mine h v el z n L) : Span h v z n L := by
  refine ⟨o.1, ?_⟩
  rcases o.2 with ⟨h0, rfl⟩ | ⟨k, d, tr, rfl, _, hk, hf, hL⟩
  · exact .inl ⟨h0, 0, rfl⟩
  · exact .inr ⟨k, 0, TOP, n * z, el, true, true, d, tr, rfl, hk, hf, by omega, fun i hi => by rw [Nat.zero_add]; exact hL i hi⟩
/-- the block that a slice lies in. -/
noncomputable def blkOf : Value → Option Nat
  | .slice (some ⟨k, _, _⟩) _ _ => some k
  | .pointer (some ⟨k, _, _⟩) => some k
  | _ => none
/-- what is the same in two heaps: all of the first but S. -/
noncomputable def Same (S : Nat → Prop) (h h' : Hp) : Prop := h.next ≤ h'.next ∧ ∀ j, j < h.next → ¬ S j → h'.t.find j = h.t.find j
theorem Same.refl {S : Nat → Prop} (h : Hp) : Same S h h := ⟨Nat.le_refl _, fun _ _ _ => rfl⟩
theorem Same.trans {S : Nat → Prop} {a b c : Hp} (x : Same S a b) (y : Same S b c) : Same S a c :=
  ⟨Nat.le_trans x.1 y.1, fun j hj hs => (y.2 j (Nat.lt_of_lt_of_le hj x.1) hs).trans (x.2 j hj hs)⟩
theorem Same.mono {S S' : Nat → Prop} {a b : Hp} (x : Same S a b) (h : ∀ j, j < a.next → S j → S' j) : Same S' a b := ⟨x.1, fun j hj hs => x.2 j hj fun e => hs (h j hj e)⟩
theorem Span.same {S : Nat → Prop} {h h' : Hp} {v : Value} {z n : Nat} {L : List Value} (o : Span h v z n L) (s : Same S h h') (hs : ∀ k, blkOf v = some k → ¬ S k) : Span h' v z n L := by
  refine ⟨o.1, ?_⟩
  rcases o.2 with ⟨h0, cap, rfl⟩ | ⟨k, off, cap, m, e, mu, pl, d, tr, rfl, hk, hf, hm, hL⟩
  · exact .inl ⟨h0, cap, rfl⟩
  · exact .inr ⟨k, off, cap, m, e, mu, pl, d, tr, rfl, Nat.lt_of_lt_of_le hk s.1, (s.2 k hk (hs k rfl)).trans hf, hm, hL⟩
theorem Mine.same {S : Nat → Prop} {h h' : Hp} {v : Value} {el : TypeId} {z n : Nat} {L : List Value} (o : Mine h v el z n L) (s : Same S h h') (hs : ∀ k, blkOf v = some k → ¬ S k) : Mine h' v el z n L := by
  refine ⟨o.1, ?_⟩
  rcases o.2 with ⟨h0, rfl⟩ | ⟨k, d, tr, rfl, h0, hk, hf, hL⟩
  · exact .inl ⟨h0, rfl⟩
  · exact .inr ⟨k, d, tr, rfl, h0, Nat.lt_of_lt_of_le hk s.1, (s.2 k hk (hs k rfl)).trans hf, hL⟩
theorem Mine.nil (h : Hp) (el : TypeId) (z : Nat) : Mine h (.slice none 0 0) el z 0 [] := ⟨by simp, .inl ⟨rfl, rfl⟩⟩
theorem list_cells {L : List Value} {m : Nat} {f : Nat → Value} (hl : L.length = m) (h : ∀ i, i < m → L[i]? = some (f i)) : (List.range m).map f = L := by
  apply List.ext_getElem?
  intro i
  by_cases hi : i < m
  · rw [h i hi, List.getElem?_map, List.getElem?_range hi]
    rfl
  · rw [List.getElem?_eq_none (by simp; omega), List.getElem?_eq_none (by omega)]
theorem firstK_span {h : Hp} {v : Value} {z n : Nat} {L : List Value} (o : Span h v z n L) (c : List Value → An R) : firstK z n v h c = c L := by
  obtain ⟨hl, o⟩ := o
  rcases o with ⟨rfl, cap, rfl⟩ | ⟨k, off, cap, m, e, mu, pl, d, tr, rfl, hk, hf, hm, hL⟩
  · have : L = [] := by simpa using hl
    subst this
    rfl
  · unfold firstK
    simp only
    by_cases h0 : n = 0
    · subst h0
      have : L = [] := by simpa using hl
      subst this
      rfl
    · have hb : Nat.beq n 0 = false := beq_ff h0
      rw [hb]
      simp only [hf]
      have hm' : Nat.ble (Nat.add off (Nat.mul n z)) m = true := Nat.ble_eq_true_of_le hm
      rw [hm']
      simp only
      rw [cellsK_eq]
      congr 1
      exact list_cells hl hL
/-- what append is, of a type. -/
structure AppT (B : Tab) (sT el : TypeId) (z : Nat) where
  e : TypeInfo
  zv : Value
  hs : B.un.find sT = some (.slice el)
  he : B.ty.find el = some e
  hz : e.size = z
  hb : e.bytes ≤ 4096
  hzero : e.zero = some zv
  hflat : isFlat zv = true
  hzv : (cellsOf zv).length = z
  hz0 : 0 < z
/-- the heap behind a new block; old: the block that is let go. -/
noncomputable def grown (h : Hp) (old : Option Nat) (b : Blk) : Hp :=
  match old with
  | none => ⟨h.t.put h.next (some b), h.next + 1⟩
  | some k => ⟨(h.t.put h.next (some b)).put k none, h.next + 1⟩
theorem blk_span {h : Hp} {L : List Value} {el : TypeId} {z n : Nat} (hn : 0 < n) (hl : L.length = n * z) {tr : T Value} {d : Value} (ht : ∀ i, i < n * z → L[i]? = some (blkGet d tr i)) (old : Option Nat) (ho : ∀ k, old = some k → k < h.next) :
    Mine (grown h old (.cells (n * z) el z true true d tr)) (.slice (some ⟨h.next, 0, none⟩) n TOP) el z n L ∧ Same (fun j => old = some j) h (grown h old (.cells (n * z) el z true true d tr)) := by
  cases old with
  | none =>
    refine ⟨⟨hl, .inr ⟨h.next, d, tr, rfl, hn, Nat.lt_succ_self _, ?_, ht⟩⟩, Nat.le_succ _, fun j hj _ => ?_⟩
    · show (h.t.put _ _).find _ = _
      rw [T.find_put, if_pos rfl]
    · show (h.t.put _ _).find _ = _
      rw [T.find_put, if_neg (by omega)]
  | some k =>
    have hk := ho k rfl
    refine ⟨⟨hl, .inr ⟨h.next, d, tr, rfl, hn, Nat.lt_succ_self _, ?_, ht⟩⟩, Nat.le_succ _, fun j hj hs => ?_⟩
    · show ((h.t.put _ _).put _ _).find _ = _
      rw [T.find_put, if_neg (by omega), T.find_put, if_pos rfl]
    · show ((h.t.put _ _).put _ _).find _ = _
      have : j ≠ k := fun e => hs (by rw [e])
      rw [T.find_put, if_neg this, T.find_put, if_neg (by omega)]
theorem grownK_eq {el : TypeId} {z need : Nat} {vs : List Value} {h : Hp} {c : Value → Hp → An R} (hok : vs.all cellOk = true) :
    grownK el z true vs need h c = c (.slice (some ⟨h.next, 0, none⟩) need TOP) (grown h none (.cells vs.length el z true true undef (putL vs 0 .nil))) := by
  unfold grownK
  rw [putCells_eq hok, newBlk_eq]
  rfl
theorem putL_row {vs : List Value} {m : Nat} (h : vs.length = m) : ∀ i, i < m → vs[i]? = some (blkGet undef (putL vs 0 .nil) i) := by
  intro i hi
  unfold blkGet
  rw [find_putL, if_pos (by omega), Nat.sub_zero]
  have : i < vs.length := by omega
  rw [List.getElem?_eq_getElem this]
theorem partOf_find (off : Nat) (t : T Value) (i : Nat) : (partOf off t).find i = t.find (off + i) := by
  unfold partOf
  cases off with
  | zero => rw [Nat.zero_add]
  | succ o =>
    simp only
    cases t with
    | nil => rfl
    | node l v r => exact T.find_shift _ _ _
    | shift n t =>
      show (T.shift (n + (o + 1)) t).find i = (T.shift n t).find (o + 1 + i)
      rw [T.find_shift, T.find_shift]
      congr 1
      omega
theorem share_or {s x : Value} {z : Nat} {h : Hp} {el : TypeId} {ns n : Nat} {L M : List Value} (o : Mine h s el z ns L) (hx : Span h x z n M) :
    appShare s x z h = none ∨ ∃ d tr, appShare s x z h = some (n, d, tr) ∧ ns = 0 ∧ s = .slice none 0 0 ∧ 64 ≤ n ∧ ∀ i, i < n * z → M[i]? = some (blkGet d tr i) := by
  obtain ⟨hl, hx⟩ := hx
  rcases hx with ⟨rfl, cap, rfl⟩ | ⟨k, off, cap, m, e, mu, pl, d, tr, rfl, hk, hf, hm, hM⟩
  · exact .inl rfl
  · cases hc : Nat.ble 64 n && Nat.ble n 1073741824 with
    | false =>
      left
      unfold appShare
      simp only [hc]
    | true =>
      obtain ⟨_, o⟩ := o
      rw [Bool.and_eq_true] at hc
      rcases o with ⟨rfl, rfl⟩ | ⟨k', d', tr', rfl, hn', _⟩
      · right
        refine ⟨d, partOf off tr, ?_, rfl, rfl, Nat.le_of_ble_eq_true hc.1, fun i hi => ?_⟩
        · unfold appShare
          simp only [hc.1, hc.2, Bool.and_self]
          unfold shareOf
          simp only [hf]
          rw [ble_tt (show Nat.add off (Nat.mul n z) ≤ m from hm)]
          rfl
        · rw [hM i hi]
          unfold blkGet
          rw [partOf_find]
      · left
        unfold appShare
        simp only [hc.1, hc.2, Bool.and_self]
        cases ns with
        | zero => omega
        | succ p => rfl
theorem zeroOf_eq {t : TypeId} {e : TypeInfo} {zv : Value} (he : B.ty.find t = some e) (hz : e.zero = some zv) (hf : isFlat zv = true) (c : Value → An R) : zeroOf B t c = c zv := by
  unfold zeroOf
  rw [info_eq he]
  simp only [hz, hf]
theorem own_old {h : Hp} {s : Value} {el : TypeId} {z n : Nat} {L : List Value} (o : Mine h s el z n L) : ∀ k, blkOf s = some k → k < h.next := by
  intro k hk
  rcases o.2 with ⟨_, rfl⟩ | ⟨k', d, tr, rfl, _, h1, _⟩
  · cases hk
  · cases hk; exact h1
/-- what is appended: a slice. -/
theorem append_span {sT el xT xl : TypeId} {z : Nat} (A : AppT B sT el z) (hxT : B.un.find xT = some (.slice xl)) {h : Hp} {s x : Value} {n m : Nat} {L M : List Value} (o : Mine h s el z n L) (hx : Span h x z m M)
    (hL : L.all cellOk = true) (hM : M.all cellOk = true) (hn : n + m ≤ 1073741824) :
    ∃ s' h', (∀ (R : Type) (c : Value → Hp → An R), appendK B sT xT s x h c = c s' h') ∧ Mine h' s' el z (n + m) (L ++ M) ∧ Same (fun j => blkOf s = some j) h h' ∧ h'.next ≤ h.next + 1 ∧ (∀ k, blkOf s' = some k → k = h.next ∨ blkOf s = some k) := by
  have hlen : (L ++ M).length = (n + m) * z := by rw [List.length_append, o.1, hx.1, Nat.add_mul]
  have hall : (L ++ M).all cellOk = true := by rw [List.all_append, hL, hM]; rfl
  by_cases hm : m = 0
  · subst hm
    have hM0 : M = [] := by have := hx.1; simpa using this
    subst hM0
    refine ⟨s, h, fun R c => ?_, by rw [List.append_nil]; exact o, Same.refl h, Nat.le_succ _, fun k hk => .inr hk⟩
    unfold appendK
    rw [und_eq A.hs]
    simp only
    rw [info_eq A.he, zeroOf_eq A.he A.hzero A.hflat]
    rcases share_or o hx with hs | ⟨d, tr, hs, h0, rfl, h64, hr⟩
    · rw [A.hz, hs]
      simp only
      unfold newK
      rw [und_eq hxT]
      simp only
      have hfx := fun (c : List Value → An R) => firstK_span hx c
      rcases hx.2 with ⟨_, cap, rfl⟩ | ⟨k, off, cap, m, e, mu, pl, d, tr, rfl, hk, hf, hm, hM⟩
      all_goals
        simp only [hfx]
        rcases o.2 with ⟨rfl, rfl⟩ | ⟨k', d', tr', rfl, _⟩
        · rfl
        · rfl
    · omega
  · have hmp : 0 < m := Nat.pos_of_ne_zero hm
    refine ⟨.slice (some ⟨h.next, 0, none⟩) (n + m) TOP, ?_⟩
    rcases share_or o hx with hs | ⟨d, tr, hs, rfl, rfl, h64, hr⟩
    · have hb := blk_span (h := h) (el := el) (by omega) hlen (putL_row hlen) (blkOf s) (own_old o)
      refine ⟨_, fun R c => ?_, hb.1, hb.2, ?_, fun k hk => .inl (by cases hk; rfl)⟩
      · unfold appendK
        rw [und_eq A.hs]
        simp only
        rw [info_eq A.he, zeroOf_eq A.he A.hzero A.hflat, A.hz, hs]
        simp only
        unfold newK
        rw [und_eq hxT]
        simp only
        have hfx := fun (c : List Value → An R) => firstK_span hx c
        have hfs := fun (c : List Value → An R) => firstK_span o.span c
        obtain ⟨p, rfl⟩ : ∃ p, m = p + 1 := ⟨m - 1, by omega⟩
        have hxl := hx.1
        rcases hx.2 with ⟨h0, _⟩ | ⟨k, off, cap, mm, e, mu, pl, d, tr, rfl, hk, hf, hm, hMM⟩
        · omega
        simp only [hfx]
        rcases o with ⟨ol, ⟨rfl, rfl⟩ | ⟨k', d', tr', rfl, hn0, hk', hf', _⟩⟩
        · simp only [fN_eq]
          have hL0 : L = [] := by simpa using ol
          subst hL0
          have c1 : (Nat.ble (Nat.add 0 (p + 1)) 1073741824 && Nat.ble A.e.bytes 4096 && Nat.beq (cellsOf A.zv).length z && Nat.beq M.length (Nat.mul (p + 1) z)) = true := by
            rw [ble_tt (show Nat.add 0 (p + 1) ≤ _ from hn), ble_tt A.hb, beq_tt A.hzv, beq_tt (show M.length = Nat.mul (p + 1) z from hxl)]
            rfl
          rw [c1]
          simp only
          rw [grownK_eq hM, hxl]
          have e0 : Nat.add 0 (p + 1) = p + 1 := Nat.zero_add _
          rw [e0]
          simp only [List.nil_append, Nat.zero_add]
          rfl
        · simp only [fN_eq, fL_eq]
          have c1 : (Nat.ble (Nat.add n (p + 1)) 1073741824 && Nat.ble A.e.bytes 4096 && Nat.beq (cellsOf A.zv).length z && Nat.beq M.length (Nat.mul (p + 1) z)) = true := by
            rw [ble_tt (show Nat.add n (p + 1) ≤ _ from hn), ble_tt A.hb, beq_tt A.hzv, beq_tt (show M.length = Nat.mul (p + 1) z from hxl)]
            rfl
          rw [c1]
          simp only [hf']
          have c2 : Nat.blt TOP 4611686018427387904 = false := by decide
          rw [c2]
          simp only
          have c3 : (Nat.beq el el && Nat.beq z z && Nat.ble TOP TOP && Nat.beq 0 (Nat.mul (Nat.sub TOP TOP) z)) = true := by
            rw [beq_tt rfl, beq_tt rfl, ble_tt (Nat.le_refl _), beq_tt (show 0 = Nat.mul (Nat.sub TOP TOP) z by show 0 = (TOP - TOP) * z; rw [Nat.sub_self, Nat.zero_mul])]
            rfl
          rw [c3]
          simp only
          rw [hfs, grownK_eq hall, hlen]
          show T.putK _ _ _ _ = _
          rw [T.putK_eq]
          rfl
      · cases blkOf s <;> exact Nat.le_refl _
    · have hL0 : L = [] := by have := o.1; simpa using this
      subst hL0
      have hb := blk_span (h := h) (el := el) (n := m) hmp hx.1 hr none (fun k hk => by cases hk)
      refine ⟨_, fun R c => ?_, by rw [Nat.zero_add]; exact hb.1, hb.2.mono (fun j _ hj => by cases hj), Nat.le_refl _, fun k hk => .inl (by cases hk; rfl)⟩
      unfold appendK
      rw [und_eq A.hs]
      simp only
      rw [info_eq A.he, zeroOf_eq A.he A.hzero A.hflat, A.hz, hs]
      simp only
      rw [und_eq hxT]
      simp only [fN_eq, newBlk_eq]
      rw [ble_tt A.hb, beq_tt A.hzv]
      simp only [isIntD, Bool.not_false, Bool.and_self, Nat.zero_add]
      rfl
end
end Go.Ev
set_option linter.unusedVariables false
namespace Go.Ev
section
variable {R : Type} {B : Tab}
theorem rows_nil {call : CallK R} {call1 : CallK (Value × Hp)} {all : List Oper} {ms : T Nat} {ntm base i : Nat} {tm : T Value} {h : Hp} {cm : Nat} {last : Option Nat} {als : List Al} {c : List Row → T Value → Hp → Nat → List Al → An R} :
    rowsK B call call1 all ms ntm base [] i tm h cm last als c = c [] tm h cm als := rfl
theorem rows_cons {call : CallK R} {call1 : CallK (Value × Hp)} {all : List Oper} {ms : T Nat} {ntm base i : Nat} {tm : T Value} {h : Hp} {cm : Nat} {last : Option Nat} {als : List Al} {c : List Row → T Value → Hp → Nat → List Al → An R} {o : Oper} {r : List Oper} :
    rowsK B call call1 all ms ntm base (o :: r) i tm h cm last als c = wantedK all o.guard tm fun w => match w with
    | false => putTm tm o.dst ntm undef fun tm => rowsK B call call1 all ms ntm base r (Nat.succ i) tm h cm last als fun rows => c (.off :: rows)
    | true => clsK B o.op fun k => match k with
      | .pure => execK B never call tm h o.op o.type fun v _ => putTm tm o.dst ntm v fun tm => rowsK B call call1 all ms ntm base r (Nat.succ i) tm h cm last als fun rows => c (.pure :: rows)
      | .read => addK (maskOf ms i) cm als h.t fun t => execK B never call tm ⟨t, h.next⟩ o.op o.type fun v _ =>
          putTm tm o.dst ntm v fun tm' => rowsK B call call1 all ms ntm base r (Nat.succ i) tm' h cm last als fun rows => c (.read tm v :: rows)
      | .alloc => fN (Nat.add base i) fun k => execK B never call tm ⟨.nil, k⟩ o.op o.type fun v h' => match h'.t.find k with
          | some b => putTm tm o.dst ntm v fun tm => rowsK B call call1 all ms ntm base r (Nat.succ i) tm h cm last ((i, k, b) :: als) fun rows => c (.alloc k b :: rows)
          | none => no 122
      | .loud => match (match last with | none => true | some e => Nat.testBit (maskOf ms i) e) with
        | true => addK (maskOf ms i) cm als h.t fun t => match execK B never call1 tm ⟨t, h.next⟩ o.op o.type (fun v h2 => .ok (v, h2)) with
          | .ok (v, h2) => (match Nat.ble h.next h2.next with
            | true => putTm tm o.dst ntm v fun tm => rowsK B call call1 all ms ntm base r (Nat.succ i) tm h2 (maskOf ms i) (some i) als fun rows => c (.loud h2 :: rows)
            | false => no 126)
          | .error x => .error x
        | false => no 123 := rfl
theorem bin_nat {op : BinOp} {t : TypeId} {k : IntKind} {m n : Nat} {h : Hp} (c : Value → An R) :
    binK B op t (.int k (.ofNat m)) (.int k (.ofNat n)) h c = binNatK op k m n c fun _ => fS (Go.binOp op t (.int k (.ofNat m)) (.int k (.ofNat n))) c := by
  unfold binK
  simp only
  unfold binIntK
  simp only
  rw [beq_tt rfl]
section
variable {t : TypeId} {k : IntKind} {m n : Nat} {h : Hp} (c : Value → An R)
theorem lss_t (e : m < n) : binK B .lss t (.int k (.ofNat m)) (.int k (.ofNat n)) h c = c (.bool true) := by rw [bin_nat]; unfold binNatK; simp only; rw [blt_tt e]; rfl
theorem lss_f (e : n ≤ m) : binK B .lss t (.int k (.ofNat m)) (.int k (.ofNat n)) h c = c (.bool false) := by rw [bin_nat]; unfold binNatK; simp only; rw [blt_ff e]; rfl
theorem gtr_t (e : n < m) : binK B .gtr t (.int k (.ofNat m)) (.int k (.ofNat n)) h c = c (.bool true) := by rw [bin_nat]; unfold binNatK; simp only; rw [blt_tt e]; rfl
theorem gtr_f (e : m ≤ n) : binK B .gtr t (.int k (.ofNat m)) (.int k (.ofNat n)) h c = c (.bool false) := by rw [bin_nat]; unfold binNatK; simp only; rw [blt_ff e]; rfl
theorem leq_t (e : m ≤ n) : binK B .leq t (.int k (.ofNat m)) (.int k (.ofNat n)) h c = c (.bool true) := by rw [bin_nat]; unfold binNatK; simp only; rw [ble_tt e]; rfl
theorem leq_f (e : n < m) : binK B .leq t (.int k (.ofNat m)) (.int k (.ofNat n)) h c = c (.bool false) := by rw [bin_nat]; unfold binNatK; simp only; rw [ble_ff e]; rfl
theorem geq_t (e : n ≤ m) : binK B .geq t (.int k (.ofNat m)) (.int k (.ofNat n)) h c = c (.bool true) := by rw [bin_nat]; unfold binNatK; simp only; rw [ble_tt e]; rfl
theorem geq_f (e : m < n) : binK B .geq t (.int k (.ofNat m)) (.int k (.ofNat n)) h c = c (.bool false) := by rw [bin_nat]; unfold binNatK; simp only; rw [ble_ff e]; rfl
theorem eql_t (e : m = n) : binK B .eql t (.int k (.ofNat m)) (.int k (.ofNat n)) h c = c (.bool true) := by rw [bin_nat]; unfold binNatK; simp only; rw [beq_tt e]; rfl
theorem eql_f (e : m ≠ n) : binK B .eql t (.int k (.ofNat m)) (.int k (.ofNat n)) h c = c (.bool false) := by rw [bin_nat]; unfold binNatK; simp only; rw [beq_ff e]; rfl
theorem neq_f (e : m = n) : binK B .neq t (.int k (.ofNat m)) (.int k (.ofNat n)) h c = c (.bool false) := by rw [bin_nat]; unfold binNatK; simp only; rw [beq_tt e]
theorem neq_t (e : m ≠ n) : binK B .neq t (.int k (.ofNat m)) (.int k (.ofNat n)) h c = c (.bool true) := by rw [bin_nat]; unfold binNatK; simp only; rw [beq_ff e]
theorem add_n (e : m + n < kindLim k) : binK B .add t (.int k (.ofNat m)) (.int k (.ofNat n)) h c = c (.int k (.ofNat (m + n))) := by
  rw [bin_nat]; unfold binNatK; simp only; rw [fN_eq, blt_tt (show Nat.add m n < kindLim k from e)]; rfl
theorem mul_n (e : m * n < kindLim k) : binK B .mul t (.int k (.ofNat m)) (.int k (.ofNat n)) h c = c (.int k (.ofNat (m * n))) := by
  rw [bin_nat]; unfold binNatK; simp only; rw [fN_eq, blt_tt (show Nat.mul m n < kindLim k from e)]; rfl
theorem sub_n (e : n ≤ m) (f : m < kindLim k) : binK B .sub t (.int k (.ofNat m)) (.int k (.ofNat n)) h c = c (.int k (.ofNat (m - n))) := by
  rw [bin_nat]; unfold binNatK; simp only; rw [ble_tt e, blt_tt f]; simp only; rw [fN_eq]; rfl
theorem and_n (e : m < kindLim k) (f : n < kindLim k) : binK B .and t (.int k (.ofNat m)) (.int k (.ofNat n)) h c = c (.int k (.ofNat (m &&& n))) := by
  rw [bin_nat]; unfold binNatK; simp only; rw [blt_tt e, blt_tt f]; simp only; rw [fN_eq]; rfl
theorem or_n (e : m < kindLim k) (f : n < kindLim k) : binK B .or t (.int k (.ofNat m)) (.int k (.ofNat n)) h c = c (.int k (.ofNat (m ||| n))) := by
  rw [bin_nat]; unfold binNatK; simp only; rw [blt_tt e, blt_tt f]; simp only; rw [fN_eq]; rfl
theorem shr_n {j : IntKind} (e : m < kindLim k) (f : n < 64) : binK B .shr t (.int k (.ofNat m)) (.int j (.ofNat n)) h c = c (.int k (.ofNat (m >>> n))) := by
  unfold binK
  simp only
  unfold binIntK
  have g : binNatK .shr k m n c (fun _ => fS (Go.binOp .shr t (.int k (.ofNat m)) (.int j (.ofNat n))) c) = c (.int k (.ofNat (m >>> n))) := by
    unfold binNatK
    simp only
    rw [blt_tt e, blt_tt f]
    simp only
    rw [fN_eq]
    rfl
  simp only
  split
  · exact g
  · exact g
end
theorem conv_n {s d : TypeId} {ds : TypeDesc} {k j : IntKind} {m : Nat} {h : Hp} (hs : B.un.find s = some ds) (hd : B.un.find d = some (.int k)) (e : m < kindLim k) (c : Value → Hp → An R) :
    convK B s d (.int j (.ofNat m)) h c = c (.int k (.ofNat m)) h := by
  unfold convK
  rw [und_eq hs, und_eq hd]
  cases ds <;> (simp only; unfold convIntK; simp only; unfold convNatK; rw [blt_tt e])
theorem conv_u8 {s d : TypeId} {ds : TypeDesc} {j : IntKind} {m : Nat} {h : Hp} (hs : B.un.find s = some ds) (hd : B.un.find d = some (.int .u8)) (c : Value → Hp → An R) :
    convK B s d (.int j (.ofNat m)) h c = c (.int .u8 (.ofNat (m % 256))) h := by
  by_cases e : m < 256
  · rw [conv_n hs hd e, Nat.mod_eq_of_lt e]
  · unfold convK
    rw [und_eq hs, und_eq hd]
    cases ds <;> (simp only; unfold convIntK; simp only; unfold convNatK; rw [blt_ff (show kindLim .u8 ≤ m by show 256 ≤ m; omega)]; simp only; rw [fN_eq]; rfl)
/-- bytes, as cells. -/
noncomputable def bys (l : List UInt8) : List Value := l.map fun b => .int .u8 (.ofNat b.toNat)
theorem bys_length (l : List UInt8) : (bys l).length = l.length := by simp [bys]
theorem bys_ok (l : List UInt8) : (bys l).all cellOk = true := by
  rw [List.all_eq_true]
  intro x hx
  simp only [bys, List.mem_map] at hx
  obtain ⟨b, _, rfl⟩ := hx
  rfl
theorem bys_append (l m : List UInt8) : bys (l ++ m) = bys l ++ bys m := by simp [bys]
theorem firstK_str (z : Nat) (l : List UInt8) (h : Hp) (c : List Value → An R) : firstK z l.length (.string ⟨⟨l⟩⟩) h c = c (bys l) := by
  unfold firstK
  simp only
  rw [fL_eq, List.take_length]
  rfl
/-- a text is appended to bytes. -/
theorem append_str {sT el xT : TypeId} (A : AppT B sT el 1) (hxT : B.un.find xT = some .string) {h : Hp} {s : Value} {n : Nat} {L : List Value} {l : List UInt8} (o : Mine h s el 1 n L)
    (hL : L.all cellOk = true) (hn : n + l.length ≤ 1073741824) :
    ∃ s' h', (∀ (R : Type) (c : Value → Hp → An R), appendK B sT xT s (.string ⟨⟨l⟩⟩) h c = c s' h') ∧ Mine h' s' el 1 (n + l.length) (L ++ bys l) ∧ Same (fun j => blkOf s = some j) h h' ∧ h'.next ≤ h.next + 1 ∧ (∀ k, blkOf s' = some k → k = h.next ∨ blkOf s = some k) := by
  have hlen : (L ++ bys l).length = (n + l.length) * 1 := by rw [List.length_append, o.1, bys_length, Nat.mul_one, Nat.mul_one]
  have hall : (L ++ bys l).all cellOk = true := by rw [List.all_append, hL, bys_ok]; rfl
  have hfx := fun (R : Type) (c : List Value → An R) => firstK_str 1 l h c
  have hfs := fun (R : Type) (c : List Value → An R) => firstK_span o.span c
  by_cases hm : l.length = 0
  · have hM0 : l = [] := by simpa using hm
    subst hM0
    refine ⟨s, h, fun R c => ?_, by simpa [bys] using o, Same.refl h, Nat.le_succ _, fun k hk => .inr hk⟩
    unfold appendK
    rw [und_eq A.hs]
    simp only
    rw [info_eq A.he, zeroOf_eq A.he A.hzero A.hflat]
    show newK B xT A.e.size A.e.bytes A.zv _ h _ = _
    unfold newK
    rw [und_eq hxT]
    simp only
    rw [fN_eq, A.hz, hfx]
    rcases o.2 with ⟨rfl, rfl⟩ | ⟨k', d', tr', rfl, _⟩
    · rfl
    · rfl
  · obtain ⟨p, hp⟩ : ∃ p, l.length = p + 1 := ⟨l.length - 1, by omega⟩
    have hb := blk_span (h := h) (el := el) (by omega) hlen (putL_row hlen) (blkOf s) (own_old o)
    refine ⟨.slice (some ⟨h.next, 0, none⟩) (n + l.length) TOP, _, fun R c => ?_, hb.1, hb.2, ?_, fun k hk => .inl (by cases hk; rfl)⟩
    · unfold appendK
      rw [und_eq A.hs]
      simp only
      rw [info_eq A.he, zeroOf_eq A.he A.hzero A.hflat]
      show newK B xT A.e.size A.e.bytes A.zv _ h _ = _
      unfold newK
      rw [und_eq hxT]
      simp only
      rw [fN_eq, A.hz, hfx]
      have hxl := bys_length l
      rw [hp] at hxl hn ⊢
      have hol := o
      rcases o with ⟨ol, ⟨rfl, rfl⟩ | ⟨k', d', tr', rfl, hn0, hk', hf', _⟩⟩
      · simp only [fN_eq]
        have hL0 : L = [] := by simpa using ol
        subst hL0
        have c1 : (Nat.ble (Nat.add 0 (p + 1)) 1073741824 && Nat.ble A.e.bytes 4096 && Nat.beq (cellsOf A.zv).length 1 && Nat.beq (bys l).length (Nat.mul (p + 1) 1)) = true := by
          rw [ble_tt (show Nat.add 0 (p + 1) ≤ _ from hn), ble_tt A.hb, beq_tt A.hzv, beq_tt (show (bys l).length = Nat.mul (p + 1) 1 by rw [hxl]; exact (Nat.mul_one _).symm)]
          rfl
        rw [c1]
        simp only
        rw [grownK_eq (bys_ok l), hxl]
        have e0 : Nat.add 0 (p + 1) = p + 1 := Nat.zero_add _
        rw [e0]
        simp only [List.nil_append, Nat.zero_add, Nat.mul_one]
        rfl
      · simp only [fN_eq, fL_eq]
        have c1 : (Nat.ble (Nat.add n (p + 1)) 1073741824 && Nat.ble A.e.bytes 4096 && Nat.beq (cellsOf A.zv).length 1 && Nat.beq (bys l).length (Nat.mul (p + 1) 1)) = true := by
          rw [ble_tt (show Nat.add n (p + 1) ≤ _ from hn), ble_tt A.hb, beq_tt A.hzv, beq_tt (show (bys l).length = Nat.mul (p + 1) 1 by rw [hxl]; exact (Nat.mul_one _).symm)]
          rfl
        rw [c1]
        simp only [hf']
        have c2 : Nat.blt TOP 4611686018427387904 = false := by decide
        rw [c2]
        simp only
        have c3 : (Nat.beq el el && Nat.beq 1 1 && Nat.ble TOP TOP && Nat.beq 0 (Nat.mul (Nat.sub TOP TOP) 1)) = true := by
          rw [beq_tt rfl, beq_tt rfl, ble_tt (Nat.le_refl _), beq_tt (show 0 = Nat.mul (Nat.sub TOP TOP) 1 by show 0 = (TOP - TOP) * 1; rw [Nat.sub_self, Nat.zero_mul])]
          rfl
        rw [c3]
        simp only
        rw [hfs, grownK_eq hall, hlen, hp]
        show T.putK _ _ _ _ = _
        rw [T.putK_eq]
        rfl
    · cases blkOf s <;> exact Nat.le_refl _
/-- a text becomes bytes. -/
theorem conv_bytes {s d e : TypeId} (hs : B.un.find s = some .string) (hd : B.un.find d = some (.slice e)) (he : B.un.find e = some (.int .u8)) {l : List UInt8} (hl : l.length ≤ 1099511627776) {h : Hp} (c : Value → Hp → An R) :
    convK B s d (.string ⟨⟨l⟩⟩) h c = c (.slice (some ⟨h.next, 0, none⟩) l.length TOP) (grown h none (.cells l.length e 1 true false undef (putL (bys l) 0 .nil))) := by
  unfold convK
  rw [und_eq hs, und_eq hd]
  simp only
  rw [und_eq he]
  simp only
  rw [ble_tt hl]
  simp only [fL_eq]
  show putCells (bys l) 0 .nil _ = _
  rw [putCells_eq (bys_ok l), fN_eq, newBlk_eq]
  rfl
theorem bytes_span (h : Hp) (e : TypeId) (l : List UInt8) : Span (grown h none (.cells l.length e 1 true false undef (putL (bys l) 0 .nil))) (.slice (some ⟨h.next, 0, none⟩) l.length TOP) 1 l.length (bys l) :=
  ⟨by rw [bys_length, Nat.mul_one], .inr ⟨h.next, 0, TOP, l.length, e, true, false, undef, putL (bys l) 0 .nil, rfl, Nat.lt_succ_self _, by show (h.t.put _ _).find _ = _; rw [T.find_put, if_pos rfl], by omega,
    fun i hi => by rw [Nat.zero_add]; exact putL_row (bys_length l) i (by omega)⟩⟩
theorem toBytes_bys : ∀ (l : List UInt8) (c : List UInt8 → An R), toBytes (bys l) c = c l
  | [], _ => rfl
  | b :: l, c => by
    show toBytes (.int .u8 (.ofNat b.toNat) :: bys l) c = _
    unfold toBytes
    rw [toBytes_bys l]
    have : UInt8.ofNat b.toNat = b := by simp
    rw [this]
/-- bytes become a text. -/
theorem conv_text {s d e : TypeId} (hs : B.un.find s = some (.slice e)) (hd : B.un.find d = some .string) (he : B.un.find e = some (.int .u8)) {x : Value} {n : Nat} {l : List UInt8} {h : Hp} (o : Span h x 1 n (bys l)) (c : Value → Hp → An R) :
    convK B s d x h c = c (.string ⟨⟨l⟩⟩) h := by
  have hfx := fun (c : List Value → An R) => firstK_span o c
  unfold convK
  rw [und_eq hs, und_eq hd]
  rcases o.2 with ⟨rfl, cap, rfl⟩ | ⟨k, off, cap, m, e', mu, pl, d', tr, rfl, hk, hf, hm, hL⟩
  · simp only
    rw [und_eq he]
    simp only
    have : l = [] := by have := o.1; simpa [bys] using this
    subst this
    rfl
  · simp only
    rw [und_eq he]
    simp only
    unfold bytesStr
    simp only
    rw [hfx, toBytes_bys]
/-- texts, one behind the other. -/
theorem add_str {t : TypeId} {l m : List UInt8} {h : Hp} (hn : l.length + m.length < 1152921504606846976) (c : Value → An R) :
    binK B .add t (.string ⟨⟨l⟩⟩) (.string ⟨⟨m⟩⟩) h c = c (.string ⟨⟨l ++ m⟩⟩) := by
  unfold binK
  simp only
  rw [blt_tt (show Nat.add l.length m.length < _ from hn)]
  simp only
  rw [fL_eq]
theorem cmp_str {op : BinOp} {t : TypeId} {l m : List UInt8} {h : Hp} (ho : op ≠ .add) (c : Value → An R) : binK B op t (.string ⟨⟨l⟩⟩) (.string ⟨⟨m⟩⟩) h c = strCmp op l m c := by
  unfold binK
  cases op <;> first | rfl | exact absurd rfl ho
section
variable {t : TypeId} {l m : List UInt8} {h : Hp} (c : Value → An R)
theorem eqs_b : binK B .eql t (.string ⟨⟨l⟩⟩) (.string ⟨⟨m⟩⟩) h c = c (.bool (l == m)) := by rw [cmp_str (by decide)]; exact fV_bool _ c
theorem nes_b : binK B .neq t (.string ⟨⟨l⟩⟩) (.string ⟨⟨m⟩⟩) h c = c (.bool !(l == m)) := by rw [cmp_str (by decide)]; exact fV_bool _ c
theorem lts_b : binK B .lss t (.string ⟨⟨l⟩⟩) (.string ⟨⟨m⟩⟩) h c = c (.bool (Op.bytesLess l m)) := by rw [cmp_str (by decide)]; exact fV_bool _ c
theorem les_b : binK B .leq t (.string ⟨⟨l⟩⟩) (.string ⟨⟨m⟩⟩) h c = c (.bool (Op.bytesLess l m || l == m)) := by rw [cmp_str (by decide)]; exact fV_bool _ c
theorem gts_b : binK B .gtr t (.string ⟨⟨l⟩⟩) (.string ⟨⟨m⟩⟩) h c = c (.bool !(Op.bytesLess l m || l == m)) := by rw [cmp_str (by decide)]; exact fV_bool _ c
theorem ges_b : binK B .geq t (.string ⟨⟨l⟩⟩) (.string ⟨⟨m⟩⟩) h c = c (.bool !(Op.bytesLess l m)) := by rw [cmp_str (by decide)]; exact fV_bool _ c
end
/-- a byte of a text. -/
theorem index_str {t : TypeId} (hu : B.un.find t = some .string) {l : List UInt8} {k : IntKind} {i : Nat} {b : UInt8} (hb : l[i]? = some b) (c : Value → An R) :
    indexK B t (.string ⟨⟨l⟩⟩) (.int k (.ofNat i)) c = c (.int .u8 (.ofNat b.toNat)) := by
  unfold indexK asN
  simp only
  rw [und_eq hu]
  simp only [hb]
  rw [fN_eq]
theorem slice_hi {t : TypeId} (hu : B.un.find t = some .string) {l : List UInt8} {k : IntKind} {i : Nat} (hi : i ≤ l.length) (c : Value → An R) :
    sliceK B t (.string ⟨⟨l⟩⟩) none (some (.int k (.ofNat i))) none c = c (.string ⟨⟨l.take i⟩⟩) := by
  unfold sliceK
  rw [und_eq hu]
  simp only
  simp only [boundsK, boundK, asN]
  rw [ble_tt hi]
  simp only [fL_eq]
  rfl
theorem slice_lo {t : TypeId} (hu : B.un.find t = some .string) {l : List UInt8} {k : IntKind} {i : Nat} (hi : i ≤ l.length) (c : Value → An R) :
    sliceK B t (.string ⟨⟨l⟩⟩) (some (.int k (.ofNat i))) none none c = c (.string ⟨⟨l.drop i⟩⟩) := by
  unfold sliceK
  rw [und_eq hu]
  simp only
  simp only [boundsK, boundK, asN]
  rw [ble_tt hi]
  simp only [fL_eq, List.take_length]
theorem slice_both {t : TypeId} (hu : B.un.find t = some .string) {l : List UInt8} {k k' : IntKind} {i j : Nat} (hij : i ≤ j) (hj : j ≤ l.length) (c : Value → An R) :
    sliceK B t (.string ⟨⟨l⟩⟩) (some (.int k (.ofNat i))) (some (.int k' (.ofNat j))) none c = c (.string ⟨⟨(l.take j).drop i⟩⟩) := by
  unfold sliceK
  rw [und_eq hu]
  simp only
  simp only [boundsK, boundK, asN]
  rw [ble_tt hj, ble_tt hij]
  simp only [fL_eq]
theorem addOff_eq (k off d : Nat) (c : Value → An R) : addOff k off d c = c (.pointer (some ⟨k, off + d, none⟩)) := by
  unfold addOff
  rw [fN_eq]
  rfl
/-- an element's place. -/
theorem at_slice {t el : TypeId} {e : TypeInfo} (hu : B.un.find t = some (.slice el)) (he : B.ty.find el = some e) {k off n cap i : Nat} {j : IntKind} (hi : i < n) (c : Value → An R) :
    indexAddrK B t (.slice (some ⟨k, off, none⟩) n cap) (.int j (.ofNat i)) c = c (.pointer (some ⟨k, off + i * e.size, none⟩)) := by
  unfold indexAddrK asN
  simp only
  rw [und_eq hu]
  simp only
  rw [blt_tt hi]
  simp only
  rw [info_eq he, addOff_eq]
  rfl
/-- cells are read, as one. -/
theorem load_agg {t : TypeId} {ds : TypeDesc} {e : TypeInfo} (hu : B.un.find t = some ds) (ha : isAggD ds = true) (he : B.ty.find t = some e) {k off n : Nat} {el : TypeId} {z : Nat} {mu pl : Bool} {d : Value} {tr : T Value} {h : Hp} (hb : h.t.find k = some (.cells n el z mu pl d tr))
    (hle : off + e.size ≤ n) {L : List Value} (hl : L.length = e.size) (hL : ∀ i, i < e.size → L[i]? = some (blkGet d tr (off + i))) (c : Value → An R) : loadAt B t (.pointer (some ⟨k, off, none⟩)) h c = c (.agg ⟨L⟩) := by
  unfold loadAt
  simp only [hb]
  rw [und_eq hu]
  simp only [ha]
  rw [info_eq he, ble_tt (show Nat.add off e.size ≤ n from hle)]
  simp only
  rw [cellsK_eq, list_cells hl hL]
/-- one cell is read. -/
theorem load_one {t : TypeId} {ds : TypeDesc} (hu : B.un.find t = some ds) (ha : isAggD ds = false) {k off n : Nat} {el : TypeId} {z : Nat} {mu pl : Bool} {d : Value} {tr : T Value} {h : Hp} (hb : h.t.find k = some (.cells n el z mu pl d tr))
    (hlt : off < n) {v : Value} (hv : blkGet d tr off = v) (c : Value → An R) : loadAt B t (.pointer (some ⟨k, off, none⟩)) h c = c v := by
  unfold loadAt
  simp only [hb]
  rw [und_eq hu]
  simp only [ha]
  rw [blt_tt hlt]
  simp only
  unfold blkGet at hv
  cases e : tr.find off with
  | none => rw [e] at hv; subst hv; rfl
  | some w => rw [e] at hv; subst hv; rfl
/-- cells are written. -/
theorem store_eq {t : TypeId} {e : TypeInfo} (he : B.ty.find t = some e) {k off n : Nat} {el : TypeId} {z : Nat} {pl : Bool} {d : Value} {tr : T Value} {h : Hp} (hb : h.t.find k = some (.cells n el z true pl d tr)) {v : Value} {L : List Value}
    (hL : cellsOf v = L) (hl : L.length = e.size) (hle : off + e.size ≤ n) (hok : L.all cellOk = true) (c : Hp → An R) :
    storeAt B t (.pointer (some ⟨k, off, none⟩)) v h c = c ⟨h.t.put k (some (.cells n el z true pl d (putL L off tr))), h.next⟩ := by
  unfold storeAt
  simp only
  rw [info_eq he, hL, beq_tt hl.symm]
  simp only
  unfold writeAt
  simp only [hb]
  rw [ble_tt (show Nat.add off L.length ≤ n by rw [hl]; exact hle)]
  simp only
  rw [putCells_eq hok, T.putK_eq]
theorem newCells_eq {el : TypeId} {z : Nat} {vs : List Value} {h : Hp} {c : Nat → Hp → An R} (hok : vs.all cellOk = true) :
    newCells el z vs h c = c h.next ⟨h.t.put h.next (some (.cells vs.length el z true true undef (putL vs 0 .nil))), h.next + 1⟩ := by
  unfold newCells
  rw [putCells_eq hok, newBlk_eq]
theorem max_0 {k j : IntKind} {m : Nat} (c : Value → An R) : maxK (.int k (.ofNat m)) (.int j (.ofNat 0)) c = c (.int k (.ofNat m)) := by
  unfold maxK
  simp only
  rw [fV_int, if_neg (by have := Int.natCast_nonneg m; show ¬ ((0 : Int) > (m : Int)); omega)]
end
end Go.Ev
