/-
  The document's Parse.
-/
import Derived.Test.YtmcpobmmogeiiaaParse
namespace Go.Proofs.Ytmcpobmmogeiiaa
open Go.RowKit

/-- byte k behind i digits. -/
def qv (bs : List By) (i k : Nat) : By := if 2 * k + 1 < i then pairB bs k else if 2 * k < i then BitVec.ofNat 8 (dv (bs.getD (2 * k) 0)) else 0
def qRow (bs : List By) (i : Nat) : Array Value := rowN 32 fun k => vB (qv bs i k)
theorem qRow_zero (bs : List By) : qRow bs 0 = z32 := by
  rw [← pRow_zero bs]; unfold qRow pRow; apply rowN_ext; intro k hk
  unfold qv; rw [if_neg (by omega), if_neg (by omega), if_neg (by omega)]; rfl
theorem qRow_full (bs : List By) (h : parseOk bs = true) : qRow bs 64 = byRow (parseB bs) := by
  rw [← pRow_full bs h]; unfold qRow pRow; apply rowN_ext; intro k hk
  unfold qv; rw [if_pos (by omega), if_pos hk]
theorem qv_next (bs : List By) (t : Nat) : BitVec.ofNat 8 (16 * (qv bs t (t / 2)).toNat + dv (bs.getD t 0)) = qv bs (t + 1) (t / 2) := by
  unfold qv
  rcases Nat.mod_two_eq_zero_or_one t with h0 | h1
  · rw [if_neg (by omega), if_neg (by omega), if_neg (by omega), if_pos (by omega)]
    have e : 2 * (t / 2) = t := by omega
    rw [e]; simp
  · rw [if_neg (by omega), if_pos (by omega), if_pos (by omega)]
    unfold pairB
    have e : 2 * (t / 2) + 1 = t := by omega
    rw [e, BitVec.toNat_ofNat, Nat.mod_eq_of_lt (by have := dv_lt (bs.getD (2 * (t / 2)) 0); omega)]
theorem qRow_set (bs : List By) (t : Nat) (v : Value) (hv : v = vB (BitVec.ofNat 8 (16 * (qv bs t (t / 2)).toNat + dv (bs.getD t 0)))) : (qRow bs t).setIfInBounds (t / 2) v = qRow bs (t + 1) := by
  subst hv
  unfold qRow
  rw [rowN_set]
  apply rowN_ext
  intro k _
  by_cases hk : k = t / 2
  · rw [if_pos hk, hk, qv_next]
  · rw [if_neg hk]
    unfold qv
    by_cases h1 : 2 * k + 1 < t
    · rw [if_pos h1, if_pos (by omega)]
    · rw [if_neg h1, if_neg (by omega), if_neg (by omega), if_neg (by omega)]
theorem dig_low {c : By} (h1 : 48 ≤ c.toNat) (h2 : c.toNat ≤ 57) : isD c = true ∧ dv c = c.toNat - 48 := by
  unfold isD dv dig; rw [if_pos ⟨h1, h2⟩]; exact ⟨rfl, rfl⟩
theorem dig_high {c : By} (h1 : 97 ≤ c.toNat) (h2 : c.toNat ≤ 102) : isD c = true ∧ dv c = c.toNat - 87 := by
  unfold isD dv dig; rw [if_neg (by omega), if_pos ⟨h1, h2⟩]; exact ⟨rfl, rfl⟩
theorem dig_none {c : By} (h1 : ¬ (48 ≤ c.toNat ∧ c.toNat ≤ 57)) (h2 : ¬ (97 ≤ c.toNat ∧ c.toNat ≤ 102)) : isD c = false := by
  unfold isD dig; rw [if_neg h1, if_neg h2]; rfl

theorem nib_val (o : By) (d : Nat) (x : Int) (hd : d < 16) (hx : x = (d : Int)) : Value.int .u8 ((o.toNat : Int) * 16 % 256 + x) = vB (BitVec.ofNat 8 (16 * o.toNat + d)) := by
  unfold vB
  rw [BitVec.toNat_ofNat]
  congr 1
  omega
theorem nib_low {bs : List By} {t : Nat} {o c : By} (hc : c = bs.getD t 0) (ho : o = qv bs t (t / 2)) (hd : dv c = c.toNat - 48) (h1 : 48 ≤ c.toNat) :
    Value.int .u8 ((o.toNat : Int) * 16 % 256 + ((c.toNat : Int) - 48)) = vB (BitVec.ofNat 8 (16 * (qv bs t (t / 2)).toNat + dv (bs.getD t 0))) := by
  rw [← hc, ← ho]; exact nib_val o (dv c) _ (dv_lt c) (by rw [hd]; omega)
theorem nib_high {bs : List By} {t : Nat} {o c : By} (hc : c = bs.getD t 0) (ho : o = qv bs t (t / 2)) (hd : dv c = c.toNat - 87) (h1 : 97 ≤ c.toNat) :
    Value.int .u8 ((o.toNat : Int) * 16 % 256 + ((c.toNat : Int) - 97 + 10)) = vB (BitVec.ofNat 8 (16 * (qv bs t (t / 2)).toNat + dv (bs.getD t 0))) := by
  rw [← hc, ← ho]; exact nib_val o (dv c) _ (dv_lt c) (by rw [hd]; omega)
theorem one_more {bs : List By} {t : Nat} {c : By} (h : ∀ i, i < t → isD (bs.getD i 0) = true) (e : c = bs.getD t 0) (h1 : isD c = true) : ∀ i, i < t + 1 → isD (bs.getD i 0) = true := by
  intro i hi
  by_cases ha : i = t
  · rw [ha, ← e]; exact h1
  · exact h i (by omega)

set_option maxRecDepth 100000 in
set_option maxHeartbeats 1000000 in
theorem refparse_any (bs : List By) (w : World) :
    Calls Try.prog 24 #[.string (strOf bs)] w fun e w' => e = .returned (.tuple #[.agg (byRow (parseB bs)), .bool (parseOk bs)]) ∧ Below w.heap.size w w' := by
  have hsz := strOf_size bs
  by_cases hl : bs.length = 64
  · have HL := Lib.hid hl
    rw [hl] at hsz
    go_enter Try.func24, Try.ntmps24
    go_wp2_with (with_reducible refine wpList_alloc_row rfl 24 rfl z32 Try.zero24 ?_)
    go_loopw [5, 6, 7] (fun i _ _ wr => ∃ t : Nat, t ≤ 64 ∧ i = .int .i64 t ∧ Hid (∀ i, i < t → isD (bs.getD i 0) = true) ∧ EnvC w.heap.size w wr (qRow bs t)) (fun i _ _ _ => 64 - (intOf i).toNat)
    case atStart => exact ⟨0, by omega, rfl, Lib.hid (fun i hi => by omega), by rw [qRow_zero]; exact EnvC.start w⟩
    case round =>
      obtain ⟨t, ht, rfl, HD, hE⟩ := hrel
      by_cases hlt : t < 64
      · have hi1 := str_at bs t (by omega)
        obtain ⟨c, hc⟩ : ∃ c, c = bs.getD t 0 := ⟨_, rfl⟩
        have HC := Lib.hid hc
        rw [← hc] at hi1
        clear hc
        have hx := EnvC.cell hE (i := t / 2) (by omega)
        obtain ⟨o, ho⟩ : ∃ o, o = qv bs t (t / 2) := ⟨_, rfl⟩
        have HO := Lib.hid ho
        rw [← ho] at hx
        clear ho
        have hf := hE.free (t / 2)
        have lt : 0 ≤ (t : Int) / 2 ∧ (t : Int) / 2 < 32 := by omega
        have nt : ((t : Int) / 2).toNat = t / 2 := by omega
        have lo := c.isLt
        have lc : 0 ≤ (c.toNat : Int) ∧ (c.toNat : Int) < 256 := by omega
        by_cases ha : 48 ≤ c.toNat ∧ c.toNat ≤ 57
        · have HG := Lib.hid (dig_low ha.1 ha.2)
          have a1 : (48 : Int) ≤ c.toNat ∧ (c.toNat : Int) ≤ 57 := by omega
          go_wp2
          clear hx hf lc a1 lo
          go_roundw
          case rel =>
            exact ⟨t + 1, by omega, by go_num, Lib.hid (one_more HD.out HC.out HG.out.1), by
              rw [← qRow_set bs t _ (nib_low HC.out HO.out HG.out.2 ha.1)]; exact hE.set (t / 2) _⟩
          case measure => simp [intOf]; omega
        · by_cases hb : 97 ≤ c.toNat ∧ c.toNat ≤ 102
          · have HG := Lib.hid (dig_high hb.1 hb.2)
            have a1 : (97 : Int) ≤ c.toNat ∧ (c.toNat : Int) ≤ 102 := by omega
            have a2 : ¬ ((c.toNat : Int) ≤ 57) := by omega
            have a3 : (48 : Int) ≤ c.toNat := by omega
            go_wp2
            clear hx hf lc a1 a2 a3 lo
            go_roundw
            case rel =>
              exact ⟨t + 1, by omega, by go_num, Lib.hid (one_more HD.out HC.out HG.out.1), by rw [← qRow_set bs t _ (nib_high HC.out HO.out HG.out.2 hb.1)]; exact hE.set (t / 2) _⟩
            case measure => simp [intOf]; omega
          · have hbad := Lib.hid (bad_at t (by rw [HL.out]; omega) (by rw [← HC.out]; exact dig_none ha hb))
            clear hx hf
            by_cases h48 : c.toNat < 48
            · have a1 : ¬ ((48 : Int) ≤ c.toNat) := by omega
              have a2 : ¬ ((97 : Int) ≤ c.toNat) := by omega
              go_wp2_with (first | (with_reducible refine wpList_buildTo rfl 24 _ rfl _ rfl z32 (by as_aux_lemma => kernel_rfl) ?_) | (with_reducible refine wpList_store_row rfl 24 _ _ rfl w.heap.size z32 rfl rfl 24 z32 hE.b0 (by rw [z32_size]; exact Try.size24) rfl z32_all ?_))
              exact bodyPost_row_tmp rfl w.heap.size 24 z32 _ rfl (setRow_heap _ _ _ _ _ _ hE.b0) Try.underlying24 rfl (by rw [z32_size]; exact Try.size24) _ rfl ⟨by rw [parse_bad hbad.out, hbad.out]; rfl, hE.bel.trans ⟨rfl, rfl, rfl, by simp, fun k hk => setRow_other _ _ _ _ (by omega)⟩⟩
            · by_cases h97 : c.toNat < 97
              · have a1 : (48 : Int) ≤ c.toNat := by omega
                have a2 : ¬ ((97 : Int) ≤ c.toNat) := by omega
                have a3 : ¬ ((c.toNat : Int) ≤ 57) := by omega
                go_wp2_with (first | (with_reducible refine wpList_buildTo rfl 24 _ rfl _ rfl z32 (by as_aux_lemma => kernel_rfl) ?_) | (with_reducible refine wpList_store_row rfl 24 _ _ rfl w.heap.size z32 rfl rfl 24 z32 hE.b0 (by rw [z32_size]; exact Try.size24) rfl z32_all ?_))
                exact bodyPost_row_tmp rfl w.heap.size 24 z32 _ rfl (setRow_heap _ _ _ _ _ _ hE.b0) Try.underlying24 rfl (by rw [z32_size]; exact Try.size24) _ rfl ⟨by rw [parse_bad hbad.out, hbad.out]; rfl, hE.bel.trans ⟨rfl, rfl, rfl, by simp, fun k hk => setRow_other _ _ _ _ (by omega)⟩⟩
              · have a1 : (97 : Int) ≤ c.toNat := by omega
                have a0 : (48 : Int) ≤ c.toNat := by omega
                have a2 : ¬ ((c.toNat : Int) ≤ 57) := by omega
                have a3 : ¬ ((c.toNat : Int) ≤ 102) := by omega
                go_wp2_with (first | (with_reducible refine wpList_buildTo rfl 24 _ rfl _ rfl z32 (by as_aux_lemma => kernel_rfl) ?_) | (with_reducible refine wpList_store_row rfl 24 _ _ rfl w.heap.size z32 rfl rfl 24 z32 hE.b0 (by rw [z32_size]; exact Try.size24) rfl z32_all ?_))
                exact bodyPost_row_tmp rfl w.heap.size 24 z32 _ rfl (setRow_heap _ _ _ _ _ _ hE.b0) Try.underlying24 rfl (by rw [z32_size]; exact Try.size24) _ rfl ⟨by rw [parse_bad hbad.out, hbad.out]; rfl, hE.bel.trans ⟨rfl, rfl, rfl, by simp, fun k hk => setRow_other _ _ _ _ (by omega)⟩⟩
      · have ht64 : t = 64 := by omega
        have hok : parseOk bs = true := ok_of HL.out (fun i hi => HD.out i (by omega))
        have hE : EnvC w.heap.size w wr (byRow (parseB bs)) := by
          rw [ht64, qRow_full bs hok] at hE; exact hE
        have HOK := Lib.hid hok
        clear hok ht64
        go_wp2_with (first | (with_reducible refine wpList_load_row rfl 24 _ rfl (w.heap.size + 1) rfl 24 (byRow (parseB bs)) (0, 0) _ hE.b1 Try.underlying24 rfl (by rw [byRow_size]; exact Try.size24) ?_) | (with_reducible refine wpList_store_row rfl 24 _ _ rfl w.heap.size (byRow (parseB bs)) rfl rfl 24 z32 hE.b0 (by rw [byRow_size]; exact Try.size24) (by rw [byRow_size, z32_size]) (byRow_ones2 _) ?_))
        exact bodyPost_row_tmp rfl w.heap.size 24 (byRow (parseB bs)) _ rfl (setRow_heap _ _ _ _ _ _ hE.b0) Try.underlying24 rfl (by rw [byRow_size]; exact Try.size24) _ rfl ⟨by rw [HOK.out]; rfl, hE.bel.trans ⟨rfl, rfl, rfl, by simp, fun k hk => setRow_other _ _ _ _ (by omega)⟩⟩
  · have hbad := Lib.hid (bad_len hl)
    have hl' : ((bs.length : Int) == 64) = false := by simp; omega
    have hE := EnvC.start w
    go_enter Try.func24, Try.ntmps24
    go_wp2_with (first | (with_reducible refine wpList_alloc_row rfl 24 rfl z32 Try.zero24 ?_) | (with_reducible refine wpList_load_row rfl 24 _ rfl (w.heap.size + 1) rfl 24 z32 (0, 0) _ hE.b1 Try.underlying24 rfl (by rw [z32_size]; exact Try.size24) ?_) | (with_reducible refine wpList_store_row rfl 24 _ _ rfl w.heap.size z32 rfl rfl 24 z32 hE.b0 (by rw [z32_size]; exact Try.size24) rfl z32_all ?_))
    exact bodyPost_row_tmp rfl w.heap.size 24 z32 _ rfl (setRow_heap _ _ _ _ _ _ hE.b0) Try.underlying24 rfl (by rw [z32_size]; exact Try.size24) _ rfl ⟨by rw [parse_bad hbad.out, hbad.out]; rfl, hE.bel.trans ⟨rfl, rfl, rfl, by simp, fun k hk => setRow_other _ _ _ _ (by omega)⟩⟩
end Go.Proofs.Ytmcpobmmogeiiaa
