/-
  The program's Write: bytes go into the Hasher.
-/
import Derived.Test.YtmcpobmmogeiiaaHasher
namespace Go.Proofs.Ytmcpobmmogeiiaa
open Go.RowKit

theorem take_more (L bs : List By) (j k : Nat) : L ++ bs.take (j + k) = (L ++ bs.take j) ++ (bs.drop j).take k := by
  rw [List.append_assoc, List.take_add]
theorem HSt.block {g : Nat} {w : World} {L bs : List By} {j all : Nat} {S : S8} {R : List By} (h : HSt g w (L ++ bs.take j) all S R 0) (h64 : 64 ≤ bs.length - j) :
    HSt g (w.setCells g 0 (blockS S (bs.drop j)).row.toList) (L ++ bs.take (j + 64)) all (blockS S (bs.drop j)) R 0 where
  obj := h.obj.setState _
  st := by rw [take_more, stateOf_block _ _ h.hn.symm (by simp; omega), h.st]
  hn := by
    rw [take_more, List.length_append, List.length_take, List.length_drop]
    have := h.hn; omega
  rest := fun i hi => by omega

theorem Try.size5 : (Try.prog.info? 5).map (·.size) = some 1 := by kernel_rfl
theorem by_one (c : List By) : ∀ v ∈ c.map vB, v.oneCell' = true := by
  intro v hv
  simp only [List.mem_map] at hv
  obtain ⟨x, _, rfl⟩ := hv
  kernel_rfl
/-- the same, with what the object says of n not yet what the bytes say. -/
structure HPre (g : Nat) (w : World) (M : List By) (all : Nat) (S : S8) (R : List By) (n m : Nat) : Prop where
  obj : HObj g w S R m all
  st : S = stateOf M
  hn : n = M.length % 64
  rest : ∀ i, i < n → R.getD i 0 = M.getD (64 * (M.length / 64) + i) 0
theorem HSt.setN' {g : Nat} {w : World} {M : List By} {all : Nat} {S : S8} {R : List By} {n : Nat} (h : HSt g w M all S R n) (k : Nat) :
    HPre g (w.setCell ⟨g, 72, none⟩ (.int .i64 ((n : Int) + (k : Int)))) M all S R n (n + k) :=
  ⟨by have := h.obj.setN (n + k); rwa [Int.natCast_add] at this, h.st, h.hn, h.rest⟩
theorem HPre.below {g : Nat} {wr w2 : World} {M : List By} {all : Nat} {S : S8} {R : List By} {n m : Nat} (h : HPre g wr M all S R n m) (hb : Below wr.heap.size wr w2) : HPre g w2 M all S R n m :=
  ⟨h.obj.below hb, h.st, h.hn, h.rest⟩
theorem slice_eq {x : Option Addr} {a b c d : Nat} (h1 : a = b) (h2 : c = d) : Value.slice x a c = Value.slice x b d := by rw [h1, h2]
theorem src_get (bs : List By) (j k i : Nat) (hi : i < k) (hk : k ≤ bs.length - j) : ((List.take k (List.drop j bs)).map vB)[i]? = some (vB (bs.getD (j + i) 0)) := by
  rw [List.getElem?_map, List.getElem?_take_of_lt hi, List.getElem?_drop, List.getD_eq_getElem?_getD, List.getElem?_eq_getElem (by omega)]
  rfl
theorem HPre.fullRest {g : Nat} {w : World} {M c R0 : List By} {all : Nat} {S : S8} {R : List By} {n m : Nat} (h : HPre g w M all S R n m) (hR : R = List.take n R0 ++ (c ++ List.drop (n + c.length) R0)) (hc : n + c.length = 64) :
    ∀ i, i < 64 → R.getD i 0 = (M.drop (64 * (M.length / 64)) ++ c).getD i 0 := by
  intro i hi
  have hn := h.hn
  have hl := h.obj.len
  have h0 : (List.take n R0).length = n := by
    have : R.length = (List.take n R0).length + (c.length + (R0.length - (n + c.length))) := by rw [hR]; simp
    simp at this ⊢; omega
  by_cases hin : i < n
  · rw [h.rest i hin, getD_append_left' _ _ _ (by simp; omega), getD_drop']
  · rw [hR, getD_append_right' _ _ _ (by omega), h0, getD_append_left' _ _ _ (by omega), getD_append_right' _ _ _ (by simp; omega)]
    congr 1; simp; omega
theorem HSt.more {g : Nat} {w : World} {M R0 c R1 : List By} {all : Nat} {S : S8} {n : Nat} (h : HSt g w M all S (R0 ++ (c ++ R1)) n) (h0 : R0.length = n) (k : Nat) (hk : c.length = k) (hlt : n + k < 64) :
    HSt g (w.setCell ⟨g, 72, none⟩ (.int .i64 ((n : Int) + (k : Int)))) (M ++ c) all S (R0 ++ (c ++ R1)) (n + k) where
  obj := by have := h.obj.setN (n + k); rwa [Int.natCast_add] at this
  st := by rw [stateOf_less _ _ (by rw [← h.hn, hk]; exact hlt)]; exact h.st
  hn := by rw [List.length_append, hk]; have := h.hn; omega
  rest := fun i hi => by
    have hn := h.hn
    have hq : (M ++ c).length / 64 = M.length / 64 := by rw [List.length_append, hk]; omega
    rw [hq]
    by_cases hin : i < n
    · rw [h.rest i hin, getD_append_left' _ _ _ (by omega)]
    · rw [getD_append_right' _ _ _ (by omega), getD_append_left' _ _ _ (by omega), getD_append_right' _ _ _ (by omega)]
      congr 1; omega
theorem HSt.fill {g : Nat} {w : World} {M : List By} {all : Nat} {S : S8} {R : List By} {n : Nat} (h : HSt g w M all S R n) (c : List By) (hk : n + c.length ≤ 64) :
    HSt g (w.setRow g ((hRow S R n all).toList.take (8 + n) ++ (c.map vB ++ (hRow S R n all).toList.drop (8 + n + (c.map vB).length))).toArray) M all S (R.take n ++ (c ++ R.drop (n + c.length))) n where
  obj := h.obj.setRest n c hk
  st := h.st
  hn := h.hn
  rest := fun i hi => by
    rw [getD_append_left' _ _ _ (by simp [h.obj.len]; omega), getD_take' _ _ _ hi]; exact h.rest i hi

set_option maxRecDepth 100000 in
set_option maxHeartbeats 4000000 in
theorem write_any (g : Nat) (L bs : List By) (ao : Option Addr) (bk off cap : Nat) (w : World) (hH : HOK g w L)
    (hlen : L.length + bs.length ≤ 4611686018427387904) (hcap : bs.length ≤ cap)
    (hao : 0 < bs.length → ao = some ⟨bk, off, none⟩) (hbk : 0 < bs.length → bk < w.heap.size ∧ bk ≠ g)
    (hb : ∀ i, i < bs.length → w.cell? ⟨bk, off + i, none⟩ = some (vB (bs.getD i 0))) :
    Calls Try.prog 18 #[.pointer (some ⟨g, 0, none⟩), .slice ao bs.length cap] w fun e w' => e = .returned (.tuple #[]) ∧ HOK g w' (L ++ bs) ∧ Keeps g w w' := by
  have HB := Lib.hid hb; clear hb
  have HA := Lib.hid hao; clear hao
  obtain ⟨S, R, n, hS⟩ := hH
  have hca := hS.obj.call
  have hfa := hS.obj.free 73
  go_enter Try.func18, Try.ntmps18
  go_wp2
  have hS1 : HSt g (w.setCell ⟨g, 73, none⟩ (.int .i64 ((L.length : Int) + (bs.length : Int)))) (L ++ bs.take 0) (L.length + bs.length) S R n := by
    rw [List.take_zero, List.append_nil]
    exact ⟨by have := hS.obj.setAll (L.length + bs.length); rwa [Int.natCast_add] at this, hS.st, hS.hn, hS.rest⟩
  have hK1 := (Keeps.refl g w).setCell 73 (.int .i64 ((L.length : Int) + (bs.length : Int)))
  generalize w.setCell ⟨g, 73, none⟩ (.int .i64 ((L.length : Int) + (bs.length : Int))) = w1 at hS1 hK1 ⊢
  clear hS hca hfa
  go_loopw [1, 4] (fun v _ wr => ∃ j ao, j ≤ bs.length ∧ v = .slice ao (bs.length - j) (cap - j) ∧ Hid (j < bs.length → ao = some ⟨bk, off + j, none⟩) ∧ (∃ S R n, HSt g wr (L ++ bs.take j) (L.length + bs.length) S R n) ∧ Keeps g w wr) (fun v _ _ => sliceLen v)
  case atStart => exact ⟨0, ao, by omega, rfl, HA, ⟨S, R, n, hS1⟩, hK1⟩
  case round =>
    clear hS1 hK1 HA
    obtain ⟨j, ao, hj, rfl, hao, ⟨S, R, n, hS⟩, hK⟩ := hrel
    by_cases hlt : j < bs.length
    · obtain rfl := hao.out hlt
      clear hao
      have hn64 : n < 64 := by rw [hS.hn]; omega
      have hcn := hS.obj.cn
      by_cases hA : n = 0 ∧ 64 ≤ bs.length - j
      · obtain ⟨rfl, h64⟩ := hA
        go_wp2
        have hB64 : (0 : Int) ≤ 64 ∧ (64 : Int) ≤ ((cap - j : Nat) : Int) := by omega
        have hSd : HSt g wr.drew (L ++ bs.take j) (L.length + bs.length) S R 0 := ⟨hS.obj.drewN 1, hS.st, hS.hn, hS.rest⟩
        have hKd : Keeps g w wr.drew := hK.drewN 1
        have HC := Lib.hid (round_out S (bs.drop j) bk (off + j) (cap - j) wr.drew (Nat.lt_of_lt_of_le (hbk (by omega)).1 hK.size) (fun i hi => by
          rw [hKd.cell (p := ⟨bk, off + j + i, none⟩) (hbk (by omega)).1 (hbk (by omega)).2, Nat.add_assoc, HB.out (j + i) (by omega), getD_drop']))
        obtain ⟨hc0, hc1, hc2, hc3, hc4, hc5, hc6, hc7⟩ := hS.obj.eight
        go_region_with (go_at_call 28; refine (HC.out).mono ?_; rintro e w2 ⟨T, hT, rfl, hb2⟩; have hS2 := hSd.below hb2; have hK2 := hKd.below hb2; clear hb2 hc0 hc1 hc2 hc3 hc4 hc5 hc6 hc7 hcn; obtain ⟨hc0, hc1, hc2, hc3, hc4, hc5, hc6, hc7⟩ := hS2.obj.eight; obtain ⟨hf0, hf1, hf2, hf3, hf4, hf5, hf6, hf7⟩ := hS2.obj.free8)
        clear hc0 hc1 hc2 hc3 hc4 hc5 hc6 hc7 hf0 hf1 hf2 hf3 hf4 hf5 hf6 hf7
        rw [← setState_eq]
        go_wp2
        refine ⟨⟨j + 64, _, by omega, by rw [Nat.sub_sub, Nat.sub_sub], ?_, ⟨_, R, 0, by rw [hT.out]; exact hS2.block h64⟩, hK2.setState _⟩, by simp [sliceLen]; omega⟩
        show j + 64 < bs.length → _
        intro h
        rw [if_neg (by omega), Nat.add_assoc]
      · obtain ⟨k, hk⟩ : ∃ k, k = min (bs.length - j) (64 - n) := ⟨_, rfl⟩
        have hk1 : 1 ≤ k := by omega
        have hk2 : k ≤ bs.length - j := by omega
        have hk3 : n + k ≤ 64 := by omega
        have hk4 : n + k < 64 → k = bs.length - j := by omega
        have HKm := Lib.hid hk
        clear hk
        obtain ⟨c, hc⟩ : ∃ c, c = (bs.drop j).take k := ⟨_, rfl⟩
        have HCc := Lib.hid hc
        have hcl : c.length = k := by rw [hc]; simp; omega
        have HCl := Lib.hid hcl
        clear hc hcl
        have hB : (0 : Int) ≤ (n : Int) ∧ (n : Int) ≤ 64 := by omega
        have hne : ¬ (64 = n) := by omega
        have hA' : (((n : Int) == 0) = false) ∨ (Hid (n = 0) ∧ ((n : Int) == 0) = true ∧ ¬ (64 : Int) ≤ ((bs.length - j : Nat) : Int)) := by
          by_cases h0 : n = 0
          · right; exact ⟨Lib.hid h0, by simp; omega, by omega⟩
          · left; simp; omega
        by_cases hf : n + k = 64
        · have hf' : ((n : Int) + (k : Int) == 64) = true := by simp; omega
          have HF := Lib.hid hf
          clear hf
          rcases hA' with hA' | ⟨hA1, hA2, hA3⟩
          all_goals
            go_wp2
            refine wp_region_still_tail 9 (by kernel_rfl) (by kernel_rfl) ?_
            simp only [List.take_succ_cons, List.take_zero, List.drop_succ_cons, List.drop_zero]
            repeat (refine wpStill_step (fun K hK => ?_); go_simp; (try go_bits); (try (rw [if_pos (by omega)]; go_simp)); refine hK _ ?_; clear hK K)
            refine wpStill_nil ?_
            change wpList _ _ _ _ _ (wr.drewN 1)
            refine HSt.go hS hK _ (fun w2 => wpList _ _ _ _ _ w2) ?_
            clear hcn hS hK; intro wr hS hK
            refine wpList_copy_own rfl (.tmp 48) (.tmp 49) 22 22 rfl 5 Try.underlying22 Try.size5 g (8 + n) (64 - n) (64 - n) ⟨bk, off + j, none⟩ (bs.length - j) (cap - j) rfl rfl (hRow S R n (L.length + bs.length)) 58 hS.obj.obj (c.map vB) ?hn ?hsrc ?hfit (by_one c) ?_
            case hn => rw [List.length_map, HCl.out]; exact HKm.out
            case hsrc =>
              intro i v hv
              rw [Addr.add_mid]
              have hi : i < k := by have := (List.getElem?_eq_some_iff.1 hv).1; rw [List.length_map, HCl.out] at this; exact this
              rw [hK.cell (p := ⟨bk, off + j + i, none⟩) (hbk (by omega)).1 (hbk (by omega)).2, Nat.add_assoc, HB.out (j + i) (by omega), ← hv, HCc.out, src_get bs j k i hi hk2]
            case hfit =>
              have : (hRow S R n (L.length + bs.length)).size = 74 := by simpa [hRow] using hList_length S R n (L.length + bs.length) hS.obj.len
              rw [this, List.length_map, HCl.out]; omega
            have hS2 := hS.fill c (by rw [HCl.out]; exact hk3)
            have hK2 := hK.setRow ((hRow S R n (L.length + bs.length)).toList.take (8 + n) ++ (c.map vB ++ (hRow S R n (L.length + bs.length)).toList.drop (8 + n + (c.map vB).length))).toArray
            generalize wr.setRow g ((hRow S R n (L.length + bs.length)).toList.take (8 + n) ++ (c.map vB ++ (hRow S R n (L.length + bs.length)).toList.drop (8 + n + (c.map vB).length))).toArray = w2 at hS2 hK2 ⊢
            rw [List.length_map, HCl.out]
            clear hS hK
            have hcn := hS2.obj.cn
            have hfn := hS2.obj.free 72
            go_wp2
            all_goals
              have hS3 := hS2.setN' k
              have hK3 := hK2.setCell 72 (.int .i64 ((n : Int) + (k : Int)))
              clear hcn hfn hS2 hK2
              generalize w2.setCell ⟨g, 72, none⟩ (.int .i64 ((n : Int) + (k : Int))) = w3 at hS3 hK3 ⊢
              obtain ⟨R', hR'⟩ : ∃ R', R' = List.take n R ++ (c ++ List.drop (n + c.length) R) := ⟨_, rfl⟩
              rw [← hR'] at hS3
              have HR := Lib.hid hR'
              clear hR'
              have hSd : HPre g w3.drew (L ++ bs.take j) (L.length + bs.length) S R' n (n + k) := ⟨hS3.obj.drewN 1, hS3.st, hS3.hn, hS3.rest⟩
              have hKd : Keeps g w w3.drew := hK3.drewN 1
              have HC := Lib.hid (round_out S R' g 8 64 w3.drew hSd.obj.lt (fun i hi => hSd.obj.crest i hi))
              obtain ⟨hc0, hc1, hc2, hc3, hc4, hc5, hc6, hc7⟩ := hS3.obj.eight
              go_region_with (go_at_call 28; refine (HC.out).mono ?_; rintro e w4 ⟨T, hT, rfl, hb2⟩; have hS4 := hSd.below hb2; have hK4 := hKd.below hb2; clear hb2 hc0 hc1 hc2 hc3 hc4 hc5 hc6 hc7; obtain ⟨hc0, hc1, hc2, hc3, hc4, hc5, hc6, hc7⟩ := hS4.obj.eight; obtain ⟨hf0, hf1, hf2, hf3, hf4, hf5, hf6, hf7⟩ := hS4.obj.free8)
              clear hc0 hc1 hc2 hc3 hc4 hc5 hc6 hc7 hf0 hf1 hf2 hf3 hf4 hf5 hf6 hf7
              rw [← setState_eq]
              have hO5 := hS4.obj.setState T
              have hK5 := hK4.setState T
              generalize w4.setCells g 0 T.row.toList = w5 at hO5 hK5 ⊢
              have hcn := hO5.cn
              have hfn := hO5.free 72
              go_wp2
              clear hcn hfn
              refine ⟨⟨j + k, _, by omega, slice_eq (by omega) (by omega), Lib.hid (fun hh => ?_), ⟨T, R', 0, ?_⟩, hK5.setCell 72 _⟩, by simp [sliceLen]; omega⟩
              · first | (exfalso; omega) | (rw [if_neg (by omega), Nat.add_assoc]) | (rw [Nat.add_assoc]; done)
              · rw [take_more, ← HCc.out]
                exact ⟨hO5.setN 0, by rw [hT.out, hSd.st]; exact (stateOf_full _ _ _ (by rw [← hSd.hn, HCl.out]; exact HF.out) (HPre.fullRest hSd HR.out (by rw [HCl.out]; exact HF.out))).symm, by rw [List.length_append, HCl.out]; have := hSd.hn; have := HF.out; omega, fun i hi => by omega⟩
        · have hf' : ((n : Int) + (k : Int) == 64) = false := by simp; omega
          have HF := Lib.hid hf
          clear hf
          rcases hA' with hA' | ⟨hA1, hA2, hA3⟩
          all_goals
            go_wp2
            refine wp_region_still_tail 9 (by kernel_rfl) (by kernel_rfl) ?_
            simp only [List.take_succ_cons, List.take_zero, List.drop_succ_cons, List.drop_zero]
            repeat (refine wpStill_step (fun K hK => ?_); go_simp; (try go_bits); (try (rw [if_pos (by omega)]; go_simp)); refine hK _ ?_; clear hK K)
            refine wpStill_nil ?_
            change wpList _ _ _ _ _ (wr.drewN 1)
            refine HSt.go hS hK _ (fun w2 => wpList _ _ _ _ _ w2) ?_
            clear hcn hS hK; intro wr hS hK
            refine wpList_copy_own rfl (.tmp 48) (.tmp 49) 22 22 rfl 5 Try.underlying22 Try.size5 g (8 + n) (64 - n) (64 - n) ⟨bk, off + j, none⟩ (bs.length - j) (cap - j) rfl rfl (hRow S R n (L.length + bs.length)) 58 hS.obj.obj (c.map vB) ?hn ?hsrc ?hfit (by_one c) ?_
            case hn => rw [List.length_map, HCl.out]; exact HKm.out
            case hsrc =>
              intro i v hv
              rw [Addr.add_mid]
              have hi : i < k := by have := (List.getElem?_eq_some_iff.1 hv).1; rw [List.length_map, HCl.out] at this; exact this
              rw [hK.cell (p := ⟨bk, off + j + i, none⟩) (hbk (by omega)).1 (hbk (by omega)).2, Nat.add_assoc, HB.out (j + i) (by omega), ← hv, HCc.out, src_get bs j k i hi hk2]
            case hfit =>
              have : (hRow S R n (L.length + bs.length)).size = 74 := by simpa [hRow] using hList_length S R n (L.length + bs.length) hS.obj.len
              rw [this, List.length_map, HCl.out]; omega
            have hS2 := hS.fill c (by rw [HCl.out]; exact hk3)
            have hK2 := hK.setRow ((hRow S R n (L.length + bs.length)).toList.take (8 + n) ++ (c.map vB ++ (hRow S R n (L.length + bs.length)).toList.drop (8 + n + (c.map vB).length))).toArray
            generalize wr.setRow g ((hRow S R n (L.length + bs.length)).toList.take (8 + n) ++ (c.map vB ++ (hRow S R n (L.length + bs.length)).toList.drop (8 + n + (c.map vB).length))).toArray = w2 at hS2 hK2 ⊢
            rw [List.length_map, HCl.out]
            clear hS hK
            have hcn := hS2.obj.cn
            have hfn := hS2.obj.free 72
            go_wp2
            all_goals
              clear hcn hfn
              refine ⟨⟨j + k, _, by omega, slice_eq (by omega) (by omega), Lib.hid (fun hh => ?_), ⟨S, List.take n R ++ (c ++ List.drop (n + c.length) R), n + k, ?_⟩, hK2.setCell 72 _⟩, by simp [sliceLen]; omega⟩
              · first | (exfalso; omega) | (rw [if_neg (by omega), Nat.add_assoc]) | (rw [Nat.add_assoc]; done)
              · rw [take_more, ← HCc.out]
                exact hS2.more (by have := hS2.obj.len; simp [HCl.out] at this ⊢; omega) k HCl.out (by have := HF.out; omega)
    · have hj' : j = bs.length := by omega
      go_wp2
      go_end0
      refine ⟨rfl, ⟨S, R, n, ?_⟩, hK⟩
      rw [hj', List.take_length] at hS
      rw [List.length_append]; exact hS
end Go.Proofs.Ytmcpobmmogeiiaa
