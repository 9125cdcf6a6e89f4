/-
  Comparing and arithmetic, whole; reading of slices; conversions that make nothing.
-/
import Derived.Test.YtopkigockpiggaaGreatEvQuiet2
set_option linter.unusedVariables false
set_option linter.unusedSimpArgs false
namespace Go.Ev
section
variable {R : Type} {P : Program} {B : Tab} {r : R}
theorem guard_run {op : BinOp} {t : TypeId} {X Y : Operand} {a b : Value} {w : World} (h1 : ¬ (a = .nilIface ∧ b = .nilIface)) (h2 : ∀ l m, ¬ (a = .agg l ∧ b = .agg m)) :
    (eqGuard op t X Y a b).run P w = .ok () w := by
  unfold eqGuard
  cases op
  all_goals simp only [Bool.not_true, Bool.not_false, if_true, Bool.false_eq_true, if_false, Sem.run_pure]
  all_goals (
    split
    · exact absurd ⟨rfl, rfl⟩ h1
    · exact absurd ⟨rfl, rfl⟩ (h2 _ _)
    · rfl)
theorem VR.agg_inv {E : Env} {x : Value} {l : Array Value} (h : VR E x (.agg l)) : ∃ m, x = .agg m := by
  cases h with
  | flat h => exact ⟨_, rfl⟩
  | agg => exact ⟨_, rfl⟩
  | any h => cases h
theorem run_binInt {op : BinOp} {t : TypeId} {k j : IntKind} {m n : Int} {v : Value} {w : World} (h : Go.binOp op t (.int k m) (.int j n) = .pure v) : (Go.binOp op t (.int k m) (.int j n)).run P w = .ok v w := by
  rw [h]; rfl
theorem kindN_inj {k j : IntKind} (h : Nat.beq (kindN k) (kindN j) = true) : k = j := by
  cases k <;> cases j <;> first | rfl | (exact absurd h (by decide))
theorem wrap_lim {k : IntKind} {m : Nat} (h : m < kindLim k) : k.wrap (m : Int) = m := by
  cases k <;> simp only [kindLim] at h <;> first | (exact absurd h (Nat.not_lt_zero _)) | (simp [IntKind.wrap, IntKind.bits, IntKind.signed]; omega)
theorem lim_bits (k : IntKind) : kindLim k ≤ 2 ^ k.bits := by cases k <;> decide
theorem bits_ofNat {k : IntKind} {m : Nat} (h : m < kindLim k) : (BitVec.ofInt k.bits (m : Int)).toNat = m := by
  rw [BitVec.ofInt_natCast, BitVec.toNat_ofNat]
  exact Nat.mod_eq_of_lt (Nat.lt_of_lt_of_le h (lim_bits k))
theorem blt_lt {a b : Nat} (h : Nat.blt a b = true) : a < b := Nat.le_of_ble_eq_true h
theorem binNatK_ok {op : BinOp} {t : TypeId} {k j : IntKind} {m n : Nat} {c : Value → An R} (hkj : k = j ∨ op = .shr)
    (hq : binNatK op k m n c (fun _ => fS (Go.binOp op t (.int k (.ofNat m)) (.int j (.ofNat n))) c) = .ok r) :
    ∃ v, Go.binOp op t (.int k (.ofNat m)) (.int j (.ofNat n)) = .pure v ∧ c v = .ok r ∧ isFlat v = true := by
  have slow : fS (Go.binOp op t (.int k (.ofNat m)) (.int j (.ofNat n))) c = .ok r → ∃ v, Go.binOp op t (.int k (.ofNat m)) (.int j (.ofNat n)) = .pure v ∧ c v = .ok r ∧ isFlat v = true := fun h => fS_ok h
  have cmp : ∀ {b : Bool} {d : Bool}, ifB b c = .ok r → Go.binOp op t (.int k (.ofNat m)) (.int j (.ofNat n)) = .pure (.bool d) → b = d → ∃ v, Go.binOp op t (.int k (.ofNat m)) (.int j (.ofNat n)) = .pure v ∧ c v = .ok r ∧ isFlat v = true := by
    intro b d h1 h2 h3
    subst h3
    cases b <;> exact ⟨_, h2, h1, rfl⟩
  unfold binNatK at hq
  split at hq
  · have : k = j := by rcases hkj with h | h; exact h; cases h
    subst this
    refine cmp hq (d := (Int.ofNat m == Int.ofNat n)) (by simp [Go.binOp, Op.intCmp]; rfl) ?_
    rw [Bool.eq_iff_iff, Nat.beq_eq]; simp only [beq_iff_eq]; exact ⟨fun h => by rw [h], fun h => Int.ofNat.inj h⟩
  · have : k = j := by rcases hkj with h | h; exact h; cases h
    subst this
    have h2 : Go.binOp .neq t (.int k (.ofNat m)) (.int k (.ofNat n)) = .pure (.bool (Int.ofNat m != Int.ofNat n)) := by simp [Go.binOp, Op.intCmp]; rfl
    split at hq
    · rename_i hb
      have := Nat.eq_of_beq_eq_true hb
      subst this
      exact ⟨_, h2, by simpa using hq, rfl⟩
    · rename_i hb
      have hne : m ≠ n := fun e => by subst e; rw [Nat.beq_refl] at hb; cases hb
      refine ⟨_, h2, ?_, rfl⟩
      have : (Int.ofNat m != Int.ofNat n) = true := by simp; omega
      rw [this]; exact hq
  · have : k = j := by rcases hkj with h | h; exact h; cases h
    subst this
    refine cmp hq (d := decide (Int.ofNat m < Int.ofNat n)) (by simp [Go.binOp, Op.intCmp]; rfl) ?_
    rw [Bool.eq_iff_iff, Nat.blt_eq]; simp
  · have : k = j := by rcases hkj with h | h; exact h; cases h
    subst this
    refine cmp hq (d := decide (Int.ofNat m ≤ Int.ofNat n)) (by simp [Go.binOp, Op.intCmp]; rfl) ?_
    rw [Bool.eq_iff_iff, Nat.ble_eq]; simp
  · have : k = j := by rcases hkj with h | h; exact h; cases h
    subst this
    refine cmp hq (d := decide (Int.ofNat m > Int.ofNat n)) (by simp [Go.binOp, Op.intCmp]; rfl) ?_
    rw [Bool.eq_iff_iff, Nat.blt_eq]; simp
  · have : k = j := by rcases hkj with h | h; exact h; cases h
    subst this
    refine cmp hq (d := decide (Int.ofNat m ≥ Int.ofNat n)) (by simp [Go.binOp, Op.intCmp]; rfl) ?_
    rw [Bool.eq_iff_iff, Nat.ble_eq]; simp
  · have : k = j := by rcases hkj with h | h; exact h; cases h
    subst this
    rw [fN_eq] at hq
    split at hq
    case h_2 => exact slow hq
    rename_i hb
    refine ⟨_, ?_, hq, rfl⟩
    have h1 := wrap_lim (blt_lt hb)
    have h2 : Int.ofNat m + Int.ofNat n = ((Nat.add m n : Nat) : Int) := by simp
    simp only [Go.binOp, Op.intArith, ne_eq, not_true, if_false, h2, h1]
    rfl
  · have : k = j := by rcases hkj with h | h; exact h; cases h
    subst this
    split at hq
    case h_2 => exact slow hq
    rename_i hb1 hb2
    rw [fN_eq] at hq
    refine ⟨_, ?_, hq, rfl⟩
    have hle := Nat.le_of_ble_eq_true hb1
    have h1 := wrap_lim (k := k) (m := Nat.sub m n) (Nat.lt_of_le_of_lt (Nat.sub_le _ _) (blt_lt hb2))
    have h2 : Int.ofNat m - Int.ofNat n = ((Nat.sub m n : Nat) : Int) := by
      show (m : Int) - (n : Int) = ((m - n : Nat) : Int)
      omega
    simp only [Go.binOp, Op.intArith, ne_eq, not_true, if_false, h2, h1]
    rfl
  · have : k = j := by rcases hkj with h | h; exact h; cases h
    subst this
    rw [fN_eq] at hq
    split at hq
    case h_2 => exact slow hq
    rename_i hb
    refine ⟨_, ?_, hq, rfl⟩
    have h1 := wrap_lim (blt_lt hb)
    have h2 : Int.ofNat m * Int.ofNat n = ((Nat.mul m n : Nat) : Int) := by simp
    simp only [Go.binOp, Op.intArith, ne_eq, not_true, if_false, h2, h1]
    rfl
  · have : k = j := by rcases hkj with h | h; exact h; cases h
    subst this
    split at hq
    case h_2 => exact slow hq
    rename_i hb1 hb2
    rw [fN_eq] at hq
    refine ⟨_, ?_, hq, rfl⟩
    have h3 : (BitVec.ofInt k.bits (Int.ofNat m) &&& BitVec.ofInt k.bits (Int.ofNat n)).toNat = Nat.land m n := by
      rw [BitVec.toNat_and]
      exact congr (congrArg _ (bits_ofNat (blt_lt hb1))) (bits_ofNat (blt_lt hb2))
    have h4 : Nat.land m n < kindLim k := Nat.lt_of_le_of_lt Nat.and_le_left (blt_lt hb1)
    simp only [Go.binOp, Op.intBits, ne_eq, not_true, if_false, h3, wrap_lim h4]
    rfl
  · have : k = j := by rcases hkj with h | h; exact h; cases h
    subst this
    split at hq
    case h_2 => exact slow hq
    rename_i hb1 hb2
    rw [fN_eq] at hq
    refine ⟨_, ?_, hq, rfl⟩
    have h3 : (BitVec.ofInt k.bits (Int.ofNat m) ||| BitVec.ofInt k.bits (Int.ofNat n)).toNat = Nat.lor m n := by
      rw [BitVec.toNat_or]
      exact congr (congrArg _ (bits_ofNat (blt_lt hb1))) (bits_ofNat (blt_lt hb2))
    have h4 : Nat.lor m n < kindLim k := by
      have := Nat.or_lt_two_pow (x := m) (y := n) (n := if k = .i64 then 63 else if k = .i32 then 31 else k.bits)
      have a1 := blt_lt hb1; have a2 := blt_lt hb2
      cases k <;> simp [kindLim, IntKind.bits] at a1 a2 this ⊢ <;> exact this (by omega) (by omega)
    simp only [Go.binOp, Op.intBits, ne_eq, not_true, if_false, h3, wrap_lim h4]
    rfl
  · have : k = j := by rcases hkj with h | h; exact h; cases h
    subst this
    split at hq
    case h_2 => exact slow hq
    rename_i hb1 hb2
    rw [fN_eq] at hq
    refine ⟨_, ?_, hq, rfl⟩
    have h3 : (BitVec.ofInt k.bits (Int.ofNat m) ^^^ BitVec.ofInt k.bits (Int.ofNat n)).toNat = Nat.xor m n := by
      rw [BitVec.toNat_xor]
      exact congr (congrArg _ (bits_ofNat (blt_lt hb1))) (bits_ofNat (blt_lt hb2))
    have h4 : Nat.xor m n < kindLim k := by
      have := Nat.xor_lt_two_pow (x := m) (y := n) (n := if k = .i64 then 63 else if k = .i32 then 31 else k.bits)
      have a1 := blt_lt hb1; have a2 := blt_lt hb2
      cases k <;> simp [kindLim, IntKind.bits] at a1 a2 this ⊢ <;> exact this (by omega) (by omega)
    simp only [Go.binOp, Op.intBits, ne_eq, not_true, if_false, h3, wrap_lim h4]
    rfl
  · split at hq
    case h_2 => exact slow hq
    rename_i hb1 hb2
    rw [fN_eq] at hq
    refine ⟨_, ?_, hq, rfl⟩
    have a1 := blt_lt hb1; have a2 := blt_lt hb2
    have h0 : ¬ (Int.ofNat n < 0) := by simp
    have h1 : (Int.ofNat m).fdiv (2 ^ min (Int.ofNat n).toNat k.bits) = ((Nat.shiftRight m n : Nat) : Int) := by
      have e1 : (2 : Int) ^ min (Int.ofNat n).toNat k.bits = ((2 ^ min n k.bits : Nat) : Int) := by simp
      rw [e1]
      have e2 : (Int.ofNat m).fdiv ((2 ^ min n k.bits : Nat) : Int) = ((m / 2 ^ min n k.bits : Nat) : Int) := by
        rw [Int.fdiv_eq_ediv_of_nonneg _ (Int.natCast_nonneg _)]; simp
      rw [e2]
      congr 1
      show _ = m >>> n
      rw [Nat.shiftRight_eq_div_pow]
      by_cases hn : n ≤ k.bits
      · rw [Nat.min_eq_left hn]
      · rw [Nat.min_eq_right (by omega)]
        have b1 := lim_bits k
        have b2 : 2 ^ k.bits ≤ 2 ^ n := Nat.pow_le_pow_right (by decide) (by omega)
        rw [Nat.div_eq_of_lt (by omega), Nat.div_eq_of_lt (by omega)]
    simp only [Go.binOp, Op.shift, h0, if_false, h1]
    rfl
  · exact slow hq
theorem binIntK_ok {op : BinOp} {t : TypeId} {k j : IntKind} {a b : Int} {c : Value → An R} (hq : binIntK op t k a j b c = .ok r) :
    ∃ v, Go.binOp op t (.int k a) (.int j b) = .pure v ∧ c v = .ok r ∧ isFlat v = true := by
  unfold binIntK at hq
  split at hq
  case h_2 => exact fS_ok hq
  split at hq
  case h_2 => exact fS_ok hq
  split at hq
  · rename_i hk
    exact binNatK_ok (Or.inl (kindN_inj hk)) hq
  · split at hq
    · exact binNatK_ok (Or.inr rfl) hq
    · exact fS_ok hq
theorem convIntK_ok {k : IntKind} {n : Int} {c : Value → An R} (hq : convIntK k n c = .ok r) : c (.int k (k.wrap n)) = .ok r := by
  unfold convIntK at hq
  split at hq
  case h_2 => exact (fV_ok hq).1
  rename_i m
  unfold convNatK at hq
  split at hq
  · rename_i hb
    have := wrap_lim (blt_lt hb)
    show c (.int k (k.wrap (m : Int))) = _
    rw [this]; exact hq
  · split at hq
    · rw [fN_eq] at hq
      have : IntKind.u8.wrap (m : Int) = ((m % 256 : Nat) : Int) := by simp [IntKind.wrap, IntKind.bits, IntKind.signed]
      show c (.int .u8 (IntKind.u8.wrap (m : Int))) = _
      rw [this]; exact hq
    · exact (fV_ok hq).1
theorem binK_ok (hB : TabOK P B) {op : BinOp} {t : TypeId} {x y : Value} {h : Hp} {c : Value → An R} (hq : binK B op t x y h c = .ok r) :
    ∃ v, c v = .ok r ∧ isFlat v = true ∧ ∀ G E w x' y' X Y, (op = .eql ∨ op = .neq → WR G E h.t w) → VR E x x' → VR E y y' → (do eqGuard op t X Y x' y'; Go.binOp op t x' y' : Sem Value).run P w = .ok v w := by
  unfold binK at hq
  split at hq
  · rename_i k m j n
    obtain ⟨v, hs, hq, hf⟩ := binIntK_ok hq
    refine ⟨v, hq, hf, fun G E w x' y' X Y hw hx hy => ?_⟩
    obtain rfl := hx.inv_int; obtain rfl := hy.inv_int
    simp only [Sem.run_bind, guard_run (P := P) (op := op) (t := t) (X := X) (Y := Y) (a := .int k m) (b := .int j n) (w := w) (fun h => by cases h.1) (fun l m h => by cases h.1), Result.andThen_ok]
    exact run_binInt hs
  · rename_i l m
    have gd : ∀ w X Y, (eqGuard op t X Y (.string ⟨⟨l⟩⟩) (.string ⟨⟨m⟩⟩)).run P w = .ok () w := fun w X Y => guard_run (fun h => by cases h.1) (fun l m h => by cases h.1)
    split at hq
    · split at hq
      case h_2 => exact absurd hq no_ok
      rename_i hlt
      have hlt : l.length + m.length < 1152921504606846976 := Nat.le_of_ble_eq_true hlt
      rw [fL_eq] at hq
      refine ⟨_, hq, rfl, fun G E w x' y' X Y hw hx hy => ?_⟩
      obtain rfl := hx.inv_str; obtain rfl := hy.inv_str
      simp only [Sem.run_bind, gd, Result.andThen_ok]
      have h1 : ¬ (((ByteArray.mk ⟨l⟩).size + (ByteArray.mk ⟨m⟩).size : Nat) : Int) > IntKind.i64.max := by
        have e1 : (ByteArray.mk ⟨l⟩).size = l.length := rfl
        have e2 : (ByteArray.mk ⟨m⟩).size = m.length := rfl
        have e3 : IntKind.i64.max = 9223372036854775807 := by kernel_rfl
        rw [e1, e2, e3]; omega
      have e4 : (ByteArray.mk ⟨l⟩ ++ ByteArray.mk ⟨m⟩ : ByteArray) = ⟨⟨l ++ m⟩⟩ := by
        apply ByteArray.ext
        apply Array.ext'
        simp
      show (Op.stringOp .add _ _).run P w = _
      simp only [Op.stringOp, h1, if_false, e4, Sem.run_pure]
    · obtain ⟨v, hq, hf, hs⟩ := strCmp_ok hq
      refine ⟨v, hq, hf, fun G E w x' y' X Y hw hx hy => ?_⟩
      obtain rfl := hx.inv_str; obtain rfl := hy.inv_str
      simp only [Sem.run_bind, gd, Result.andThen_ok]
      have e : Go.binOp op t (.string ⟨⟨l⟩⟩) (.string ⟨⟨m⟩⟩) = Op.stringOp op ⟨⟨l⟩⟩ ⟨⟨m⟩⟩ := by cases op <;> rfl
      rw [e, hs]; rfl
  · rename_i l m
    split at hq
    case h_2 => exact absurd hq no_ok
    rename_i hpl
    obtain ⟨hst, hgt⟩ := hB.plain t hpl
    have gd : ∀ w X Y l m, (eqGuard op t X Y (.agg l) (.agg m)).run P w = .ok () w := fun w X Y l m => by
      unfold eqGuard
      cases op <;> simp [hgt]
    have fin : ∀ {b : Bool} {v : Value}, (match op with | .eql => fV (.bool b) c | .neq => fV (.bool !b) c | _ => no 382) = .ok r → (∀ E w l' m', LR E l l' → LR E m m' → (Op.equal t (.agg ⟨l'⟩) (.agg ⟨m'⟩)).run P w = .ok b w) →
        ∃ v, c v = .ok r ∧ isFlat v = true ∧ ∀ G E w x' y' X Y, (op = .eql ∨ op = .neq → WR G E h.t w) → VR E (.agg ⟨l⟩) x' → VR E (.agg ⟨m⟩) y' → (do eqGuard op t X Y x' y'; Go.binOp op t x' y' : Sem Value).run P w = .ok v w := by
      intro b _ hq heq
      split at hq
      case h_3 => exact absurd hq no_ok
      all_goals (
        obtain ⟨hq, hf⟩ := fV_ok hq
        refine ⟨_, hq, hf, fun G E w x' y' X Y hw hx hy => ?_⟩
        obtain ⟨l', hl, rfl⟩ := hx.inv_agg
        obtain ⟨m', hm, rfl⟩ := hy.inv_agg
        simp only [Sem.run_bind, gd, Result.andThen_ok]
        simp only [Go.binOp, Sem.run_bind, heq E w l' m' hl hm, Result.andThen_ok, Sem.run_pure])
    replace hq := und_ok hB hq
    obtain ⟨ds, hu, hq⟩ := hq
    split at hq
    · rename_i n e
      replace hq := info_ok hB hq
      obtain ⟨i, hi, hq⟩ := hq
      replace hq := und_ok hB hq
      obtain ⟨de, hue, hq⟩ := hq
      split at hq
      case h_2 => exact absurd hq no_ok
      rename_i kk
      split at hq
      case h_2 => exact absurd hq no_ok
      rename_i b hl hz hs
      obtain ⟨h1, f, g, h2, h3⟩ := sameInts_ok hs
      have hl := Nat.eq_of_beq_eq_true hl
      have hz := Nat.eq_of_beq_eq_true hz
      have same : ∀ E (a a' : List Value), LR E a a' → a = l ∨ a = m → a = a' := fun E a a' ha hor => by
        have ints : ∀ (i : Nat) (v : Value), a[i]? = some v → ∃ z : Int, v = .int kk z := fun i v hv => by
          rcases hor with rfl | rfl
          · have := (h2 i (List.getElem?_eq_some_iff.1 hv).1).1; rw [hv] at this; exact ⟨_, Option.some.inj this⟩
          · have := (h2 i (by rw [h1]; exact (List.getElem?_eq_some_iff.1 hv).1)).2; rw [hv] at this; exact ⟨_, Option.some.inj this⟩
        apply List.ext_getElem?
        intro i
        cases hv : a[i]? with
        | none => rw [List.getElem?_eq_none_iff] at hv; rw [List.getElem?_eq_none]; rw [← ha.1]; exact hv
        | some v =>
          obtain ⟨v', h4, h5⟩ := ha.get hv
          obtain ⟨z, rfl⟩ := ints i v hv
          rw [h4, h5.inv_int]
      refine fin (v := undef) hq (fun E w l' m' hl' hm' => ?_)
      obtain rfl := same E _ _ hl' (Or.inl rfl)
      obtain rfl := same E _ _ hm' (Or.inr rfl)
      show (Op.equalIn (9999 + 1) t _ _).run P w = _
      rw [run_equalIn_array w 9999 _ _ hu hi]
      have hc : P.cellsOf e = 1 := by simp [Program.cellsOf, hi, hz]
      rw [hc, run_eqItems_ints w 9998 e kk _ _ f g hue (List.range n) (fun i hi => by have := (h2 i (by simp at hi; omega)).1; simpa using this) (fun i hi => by have := (h2 i (by simp at hi; omega)).2; simpa using this), h3, hl]
    · rename_i fs
      obtain ⟨b, hq, hb⟩ := sameFlds_ok hB hq
      refine fin (v := undef) hq (fun E w l' m' hl' hm' => ?_)
      show (Op.equalIn (9999 + 1) t _ _).run P w = _
      have hfs : P.fieldsOf t = fs := by simp [Program.fieldsOf, hu]
      rw [run_equalIn_struct w 9999 t _ _ (by rw [hfs]; exact hu) hst, hfs]
      exact hb E w l' m' hl' hm'
    · exact absurd hq no_ok
  · rename_i hx1 hx2 hx3
    split at hq
    case h_3 => exact absurd hq no_ok
    all_goals (
      replace hq := und_ok hB hq
      obtain ⟨ds, hu, hq⟩ := hq
      obtain ⟨b, hq, hnum, hn, ha, hrun⟩ := sameV_ok hB hu hq
      obtain ⟨hq, hf⟩ := fV_ok hq
      refine ⟨_, hq, hf, fun G E w x' y' X Y hw hx hy => ?_⟩
      simp only [Sem.run_bind, guard_run (P := P) (t := t) (X := X) (Y := Y) (a := x') (b := y') (w := w) (fun h => hn E ⟨h.1 ▸ hx, h.2 ▸ hy⟩) (fun l m h => by
        have h1 := h.1; subst h1; obtain ⟨m', rfl⟩ := hx.agg_inv; exact ha.1 _ rfl), Result.andThen_ok]
      have hr := hrun G E w x' y' (hw (by first | exact Or.inl rfl | exact Or.inr rfl)) hx hy
      have hnn : notNum x' = true := (hx.notNum ha.2) ▸ hnum
      first
        | (rw [binOp_eql hnn]; simp only [Sem.run_bind, hr, Result.andThen_ok, Sem.run_pure])
        | (rw [binOp_neq hnn]; simp only [Sem.run_bind, hr, Result.andThen_ok, Sem.run_pure]))
end
end Go.Ev
