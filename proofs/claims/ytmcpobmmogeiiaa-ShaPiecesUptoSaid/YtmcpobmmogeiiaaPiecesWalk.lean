/-
  Pieces of bytes: the walk of the law ShaPieces.
-/
import Derived.Test.YtmcpobmmogeiiaaPieces
import Derived.Test.YtmcpobmmogeiiaaApp
namespace Go.Proofs.Ytmcpobmmogeiiaa
open Go.RowKit

/-- the pieces' cells. -/
def PCells (w : World) (bk off : Nat) (ps : List Pc) : Prop := ∀ i p, ps[i]? = some p → w.cell? ⟨bk, off + i * 3, none⟩ = some (.slice p.ao p.bs.length p.cap) ∧ w.cell? ⟨bk, off + i * 3 + 1, none⟩ = some (.bool p.copy) ∧ w.cell? ⟨bk, off + i * 3 + 2, none⟩ = some (.bool p.ask) ∧ BSrc w p.ao p.cap p.bs
theorem PCells.at {w wr : World} {bk off : Nat} {ps : List Pc} (h : PCells w bk off ps) (hbk : bk < w.heap.size) (hb : Below w.heap.size w wr) : PCells wr bk off ps := fun i p hp => by
  obtain ⟨h0, h1, h2, h3⟩ := h i p hp
  exact ⟨by rw [hb.cell (p := ⟨bk, _, none⟩) hbk]; exact h0, by rw [hb.cell (p := ⟨bk, _, none⟩) hbk]; exact h1, by rw [hb.cell (p := ⟨bk, _, none⟩) hbk]; exact h2, h3.after hb⟩
/-- bytes that are written to the hasher. -/
theorem src_write {w : World} {ao : Option Addr} {cap : Nat} {bs L : List By} {g : Nat} (h : BSrc w ao cap bs) (hH : HOK g w L) (hne : ∀ bk off, ao = some ⟨bk, off, none⟩ → bk ≠ g) (hlen : L.length + bs.length ≤ 4611686018427387904) :
    Calls Try.prog 18 #[.pointer (some ⟨g, 0, none⟩), .slice ao bs.length cap] w fun e w' => e = .returned (.tuple #[]) ∧ HOK g w' (L ++ bs) ∧ Keeps g w w' := by
  by_cases hp : 0 < bs.length
  · obtain ⟨bk, off, h1, h2, h3⟩ := h.plain hp
    exact write_any g L bs ao bk off cap w hH hlen h.cap (fun _ => h1) (fun _ => ⟨h2, hne bk off h1⟩) h3
  · exact write_any g L bs ao 0 0 cap w hH hlen h.cap (fun h' => absurd h' hp) (fun h' => absurd h' hp) (fun i hi => by omega)
/-- the call's own row, as bytes. -/
theorem own_src' {w : World} {base : Nat} {v : Value} {n : Nat} {bs : List By} (h : w.ownsRow base 5 1 v n (bs.map vB)) (hn : n = bs.length) :
    ∃ ao cap, v = .slice ao bs.length cap ∧ BSrc w ao cap bs := by
  by_cases hv : v = .slice none 0 0
  · subst hv
    rcases h.2 with ⟨_, h0⟩ | ⟨g, cap, cur, hv, _⟩
    · have hb : bs = [] := List.eq_nil_of_length_eq_zero (by omega)
      subst hb
      exact ⟨none, 0, rfl, ⟨fun _ => ⟨rfl, rfl⟩, Nat.le_refl _, fun h => by simp at h⟩⟩
    · cases hv
  · obtain ⟨g, cap, rfl, _, _, hs⟩ := own_src h hn hv
    exact ⟨_, cap, rfl, hs⟩
theorem size12 (w : World) (a : Obj) : w.heap.size ≤ (w.alloc a).heap.size := by simp
/-- a row of bytes that the call may turn. -/
def MRow (w : World) (go n : Nat) : Prop := ∃ cur, w.heap[go]? = some (.cells cur 5 (0, 0)) ∧ ∀ i, i < n → ∃ b : By, cur[i]? = some (vB b)
theorem MRow.of {w : World} {base go n cap : Nat} {bs : List By} (h : w.ownsRow base 5 1 (.slice (some ⟨go, 0, none⟩) n cap) bs.length (bs.map vB)) : MRow w go bs.length := by
  rcases h.2 with ⟨h0, _⟩ | ⟨g, c, cur, hv, _, hg, _, _, _, ht⟩
  · cases h0
  · cases hv
    refine ⟨cur, hg, fun i hi => ⟨bs[i], ?_⟩⟩
    have h1 : (cur.toList.take (bs.length * 1))[i]? = (bs.map vB)[i]? := by rw [ht]
    rw [List.getElem?_take_of_lt (by omega), List.getElem?_map, List.getElem?_eq_getElem hi] at h1
    simpa using h1
theorem MRow.set {w : World} {go n : Nat} (h : MRow w go n) (k : Nat) (b : By) : MRow (w.setCell ⟨go, k, none⟩ (vB b)) go n := by
  obtain ⟨cur, h1, h2⟩ := h
  refine ⟨_, heap_setCell_same _ _ _ _ _ _ h1, fun i hi => ?_⟩
  obtain ⟨c, hc⟩ := h2 i hi
  by_cases e : k = i
  · subst e
    refine ⟨b, ?_⟩
    have : k < cur.size := by
      by_cases hlt : k < cur.size
      · exact hlt
      · rw [Array.getElem?_eq_none (by omega)] at hc; cases hc
    simp [Array.getElem?_setIfInBounds, this]
  · exact ⟨c, by rw [Array.getElem?_setIfInBounds_ne e]; exact hc⟩
theorem inc_val (b : By) : Value.int .u8 (((b.toNat : Int) + 1) % 256) = vB (b + 1) := by
  unfold vB
  rw [BitVec.toNat_add]
  congr 1
def other5 : List By := [111, 116, 104, 101, 114]

set_option maxRecDepth 100000 in
set_option maxHeartbeats 4000000 in
theorem pieces_walk (ps : List Pc) (ao : Option Addr) (cap : Nat) (w : World) (hsrc : PSrc w ao ps) (hlen : (bytesTo ps ps.length).length ≤ 1048576) (hps : ps.length ≤ 1048576) :
    Calls Try.prog 5 #[.slice ao ps.length cap] w fun e w' => e = .returned (.bool true) ∧ Below w.heap.size w w' := by
  obtain ⟨i0, hi, hz0, hz1, hz2⟩ := info_parts Try.info5
  have hg := eqGuard24
  have HP := Lib.hid hsrc
  clear hsrc
  have kc := fun (w : World) (C : Array Value) (n c : Nat) => Lib.run_convert_bytes_const (P := Try.prog) w 22 5 C n c Try.underlying22 Try.underlying5
  go_enter Try.func5, Try.ntmps5
  go_wp2_with fail
  refine (lives_any _).mono ?_
  rintro e w1 ⟨rfl, hb1⟩
  go_wp2_with fail
  refine (new_any _).mono ?_
  rintro e w2 ⟨rfl, hok, hb2⟩
  have hSt : PSt w w2 (w1.heap.size + 1) (.slice none 0 0) [] [] := ⟨hok, World.ownsRow_nil _ _ _ _, by have := hb1.size; omega, hb1.trans (hb2.mono hb1.size)⟩
  generalize w1.heap.size + 1 = g at hSt ⊢
  clear hok hb1 hb2
  go_wp2
  go_loopw [3, 4, 5] (fun hp v i wr => ∃ t g : Nat, t ≤ ps.length ∧ i = .int .i64 t ∧ hp = .pointer (some ⟨g, 0, none⟩) ∧ PSt w wr g v (bytesTo ps t) (bytesTo ps t)) (fun _ _ i _ => ps.length - (intOf i).toNat)
  case atStart => exact ⟨0, g, by omega, rfl, rfl, hSt⟩
  case round =>
    clear hSt
    obtain ⟨t, g, ht, rfl, rfl, hSt⟩ := hrel
    have htl := bytesTo_le ps t
    by_cases hlt : t < ps.length
    · obtain ⟨p, hp⟩ : ∃ p, ps[t]? = some p := ⟨ps[t], List.getElem?_eq_getElem hlt⟩
      obtain ⟨bk, off, hao, hbk, hcells⟩ := HP.out.plain (by omega)
      subst hao
      have HPC := Lib.hid (show PCells w bk off ps from hcells)
      clear hcells
      have hsucc := bytesTo_succ ps t p hp
      have htl1 := bytesTo_le ps (t + 1)
      have hpl : (bytesTo ps t).length + p.bs.length ≤ 1048576 := by
        rw [hsucc, List.length_append] at htl1; omega
      have HSU := Lib.hid hsucc
      clear hsucc
      have hti : 0 ≤ (t : Int) ∧ (t : Int) < ps.length := by omega
      obtain ⟨hc0, hc1, hc2, hbs⟩ := HPC.out.at hbk hSt.bel t p hp
      clear hc0 hc2 hbs
      cases hcopy : p.copy with
      | false =>
        rw [hcopy] at hc1
        have hbA := hSt.bel.alloc hSt.bel.size (.cells #[] 5)
        obtain ⟨hc0, _, _, hbs⟩ := HPC.out.at hbk hbA t p hp
        have HBS := Lib.hid hbs
        clear hbs hbA
        go_wp2_with (at_builtin; (refine wpList_append_src rfl (.tmp 34) (.tmp 39) 22 rfl wr.heap.size 5 i0 (.int .u8 0) Try.underlying22 hi hz0 hz1 hz2 rfl _ 0 [] rfl (own_new0 wr) p.ao p.cap p.bs p.bs.length rfl rfl HBS.out (by omega) (size11 _ _) ?_))
        intro vo wo hown hgrow hne
        have hbo : Below wr.heap.size wr wo := ((Below.refl _ wr).alloc (Nat.le_refl _) (.cells #[] 5)).grown hgrow (size11 _ _) (fun k hk => ((own_new0 wr).lt k hk).1)
        have hS2 := hSt.below hbo
        have hgl := hSt.ok.lt
        have hvl : ∀ k, u4.ownBlock = some k → k < wr.heap.size := fun k hk => (hSt.own.lt k hk).2
        obtain ⟨go, co, rfl, hgo1, hgo2, hso⟩ := own_src hown rfl hne
        have hvo : u4.ownBlock ≠ some go := fun e => by have := hvl go e; omega
        have hgg : go ≠ g := by omega
        clear hgrow hne hc0 HBS hc1
        have HSO := Lib.hid hso
        have HVO := Lib.hid hvo
        have hgo3 : w.heap.size ≤ go := Nat.le_trans hSt.bel.size hgo1
        clear hso hvo hvl hSt hbo
        go_wp2_with fail
        refine (src_write HSO.out hS2.ok (fun bk off e => by cases e; omega) (by omega)).mono ?_
        rintro e w3 ⟨rfl, hok3, hk3⟩
        have hS3 := hS2.write hk3 hok3
        have hown3 := own_same hown (fun k hk => hk3.block k (by cases hk; exact hgo2) (by cases hk; exact hgg))
        have hgo4 : go < w3.heap.size := Nat.lt_of_lt_of_le hgo2 hk3.size
        clear hok3 hk3 hS2 hown HSO
        obtain ⟨hc0, hc1, hc2, hbs⟩ := HPC.out.at hbk hS3.bel t p hp
        have HBS := Lib.hid hbs
        clear hbs hc1 hc2
        go_wp2_with (at_builtin; (refine wpList_append_srcB rfl (.tmp 44) (.tmp 49) 22 rfl w.heap.size 5 i0 (.int .u8 0) Try.underlying22 hi hz0 hz1 hz2 rfl _ (bytesTo ps t).length ((bytesTo ps t).map vB) rfl hS3.own p.ao p.cap p.bs p.bs.length rfl rfl HBS.out (by omega) hS3.bel.size ?_))
        intro v4 w4 hown4 hgrow4 hblk4 hne4
        have hS4 : PSt w w4 g v4 (bytesTo ps (t + 1)) (bytesTo ps (t + 1)) := by
          have h1 := hS3.app hgrow4 (M := bytesTo ps t ++ p.bs) (by rw [List.length_append, List.map_append]; exact hown4)
          rw [HSU.out]; exact h1
        have hown5 := own_same hown3 (fun k hk => hgrow4.block k (by cases hk; exact hgo4) (by cases hk; exact fun e => HVO.out e.symm))
        have hv4 : v4.ownBlock ≠ some go := by
          rcases hblk4 with h1 | h1
          · rw [h1]; exact HVO.out
          · rw [h1]; intro e; cases e; omega
        have HM := Lib.hid (MRow.of hown5)
        have HV4 := Lib.hid hv4
        clear hown3 hown4 hgrow4 hblk4 hne4 hS3 hown5 hv4 HBS hc0 HVO
        go_wp2
        go_loopw [8] (fun i wk => ∃ k : Nat, k ≤ p.bs.length ∧ i = .int .i64 k ∧ Keeps go w4 wk ∧ Hid (MRow wk go p.bs.length)) (fun i _ => p.bs.length - (intOf i).toNat)
        case atStart => exact ⟨0, by omega, rfl, Keeps.refl _ _, HM⟩
        case round =>
          clear HM
          obtain ⟨k, hk, rfl, hK, HM⟩ := hrel
          by_cases hkl : k < p.bs.length
          · obtain ⟨cur, hcur, hall⟩ := HM.out
            obtain ⟨b, hb⟩ := hall k hkl
            have hx : wr.cell? ⟨go, k, none⟩ = some (vB b) := by rw [cell_of_row wr go k _ _ _ hcur]; exact hb
            have hf : wr.frozen? ⟨go, k, none⟩ = false := frozen_of_row wr go k _ _ hcur
            clear hcur hall hb
            have hki : 0 ≤ (k : Int) ∧ (k : Int) < p.bs.length := by omega
            go_wp2
            clear hx hf hki
            go_roundw
            case rel => exact ⟨k + 1, by omega, by go_num, hK.setCell _ _, Lib.hid (by rw [inc_val]; exact HM.out.set k _)⟩
            case measure => simp [intOf]; omega
          · have hkn : k = p.bs.length := by omega
            subst hkn
            have hS5 := hS4.other hK hgg HV4.out hgo3
            clear hK HM hS4 HV4
            obtain ⟨hc0, hc1, hc2, hbs⟩ := HPC.out.at hbk hS5.bel t p hp
            clear hc0 hc1 hbs
            cases hask : p.ask with
            | false =>
              rw [hask] at hc2
              go_wp2
              go_roundw
              case rel => exact ⟨t + 1, g, by omega, by go_num, rfl, hS5⟩
              case measure => simp [intOf]; omega
            | true =>
              rw [hask] at hc2
              go_wp2_with fail
              refine (sum_any g _ wr hS5.ok (by omega)).mono ?_
              rintro e w6 ⟨rfl, hb6⟩
              rw [sumRow_by]
              have hS6 := hS5.below hb6
              clear hS5 hb6 hc2
              obtain ⟨av, cv, rfl, hsv⟩ := own_src' hS6.own rfl
              go_wp2_with fail
              refine (refsum_any (bytesTo ps (t + 1)) av cv _ hsv (by omega)).mono ?_
              rintro e w7 ⟨rfl, hb7⟩
              have hS7 := hS6.below hb7
              clear hS6 hb7 hsv
              have heq : ∀ W : World, (Op.equalIn 10000 24 (.agg (byRow (sumL (shaS (bytesTo ps (t + 1)))))) (.agg (byRow (sumL (shaS (bytesTo ps (t + 1))))))).run Try.prog W = .ok true W := fun W => by
                rw [run_eql_by W _ _ (sumL_length _) (sumL_length _)]; simp
              go_wp2_with fail
              refine (len_any g _ w7 hS7.ok).mono ?_
              rintro e w8 ⟨rfl, rfl⟩
              go_wp2
              go_roundw
              case rel => exact ⟨t + 1, g, by omega, by go_num, rfl, hS7⟩
              case measure => simp [intOf]; omega
      | true =>
        rw [hcopy] at hc1
        go_wp2_with fail
        refine (copy_any g _ wr hSt.ok).mono ?_
        rintro e wc ⟨rfl, hokc, _, hbc, hszc⟩
        have hne : u4.ownBlock ≠ some g := own_ne hSt.ok hSt.own
        have hgl := hSt.ok.lt
        have hge := hSt.ge
        have hS2 : PSt w wc wr.heap.size u4 (bytesTo ps t) (bytesTo ps t) := ⟨hokc, (hSt.below hbc).own, hSt.bel.size, (hSt.below hbc).bel⟩
        have hokg := hSt.ok.same (hbc.block g hgl)
        have HNE := Lib.hid hne
        clear hokc hbc hSt hne hc1
        generalize wr.heap.size = g2 at hS2 hgl hszc ⊢
        go_wp2_with fail
        refine (write_any g _ other5 _ wc.heap.size 0 5 _ (hokg.alloc_other _) (by rw [show other5.length = 5 from rfl]; omega) (by decide) (fun _ => rfl) (fun _ => ⟨by simp, by omega⟩) (fun i hi => ?_)).mono ?_
        · rw [cell_of_row _ _ _ _ _ _ (heap_alloc_last wc _), Nat.zero_add]
          match i, hi with
          | 0, _ => rfl
          | 1, _ => rfl
          | 2, _ => rfl
          | 3, _ => rfl
          | 4, _ => rfl
        rintro e w4 ⟨rfl, _, hk4⟩
        have hSt := (hS2.below ((Below.refl _ wc).alloc (Nat.le_refl _) _)).other hk4 (by omega) HNE.out hge
        clear hS2 hk4 hokg HNE hge hgl hszc
        have hc1 := True.intro
        have hbA := hSt.bel.alloc hSt.bel.size (.cells #[] 5)
        obtain ⟨hc0, _, _, hbs⟩ := HPC.out.at hbk hbA t p hp
        have HBS := Lib.hid hbs
        clear hbs hbA
        go_wp2_with (at_builtin; (refine wpList_append_src rfl (.tmp 34) (.tmp 39) 22 rfl w4.heap.size 5 i0 (.int .u8 0) Try.underlying22 hi hz0 hz1 hz2 rfl _ 0 [] rfl (own_new0 w4) p.ao p.cap p.bs p.bs.length rfl rfl HBS.out (by omega) (size11 _ _) ?_))
        intro vo wo hown hgrow hne
        have hbo : Below w4.heap.size w4 wo := ((Below.refl _ w4).alloc (Nat.le_refl _) (.cells #[] 5)).grown hgrow (size11 _ _) (fun k hk => ((own_new0 w4).lt k hk).1)
        have hS2 := hSt.below hbo
        have hgl := hSt.ok.lt
        have hvl : ∀ k, u4.ownBlock = some k → k < w4.heap.size := fun k hk => (hSt.own.lt k hk).2
        obtain ⟨go, co, rfl, hgo1, hgo2, hso⟩ := own_src hown rfl hne
        have hvo : u4.ownBlock ≠ some go := fun e => by have := hvl go e; omega
        have hgg : go ≠ g2 := by omega
        clear hgrow hne hc0 HBS hc1
        have HSO := Lib.hid hso
        have HVO := Lib.hid hvo
        have hgo3 : w.heap.size ≤ go := Nat.le_trans hSt.bel.size hgo1
        clear hso hvo hvl hSt hbo
        go_wp2_with fail
        refine (src_write HSO.out hS2.ok (fun bk off e => by cases e; omega) (by omega)).mono ?_
        rintro e w3 ⟨rfl, hok3, hk3⟩
        have hS3 := hS2.write hk3 hok3
        have hown3 := own_same hown (fun k hk => hk3.block k (by cases hk; exact hgo2) (by cases hk; exact hgg))
        have hgo4 : go < w3.heap.size := Nat.lt_of_lt_of_le hgo2 hk3.size
        clear hok3 hk3 hS2 hown HSO
        obtain ⟨hc0, hc1, hc2, hbs⟩ := HPC.out.at hbk hS3.bel t p hp
        have HBS := Lib.hid hbs
        clear hbs hc1 hc2
        go_wp2_with (at_builtin; (refine wpList_append_srcB rfl (.tmp 44) (.tmp 49) 22 rfl w.heap.size 5 i0 (.int .u8 0) Try.underlying22 hi hz0 hz1 hz2 rfl _ (bytesTo ps t).length ((bytesTo ps t).map vB) rfl hS3.own p.ao p.cap p.bs p.bs.length rfl rfl HBS.out (by omega) hS3.bel.size ?_))
        intro v4 w4 hown4 hgrow4 hblk4 hne4
        have hS4 : PSt w w4 g2 v4 (bytesTo ps (t + 1)) (bytesTo ps (t + 1)) := by
          have h1 := hS3.app hgrow4 (M := bytesTo ps t ++ p.bs) (by rw [List.length_append, List.map_append]; exact hown4)
          rw [HSU.out]; exact h1
        have hown5 := own_same hown3 (fun k hk => hgrow4.block k (by cases hk; exact hgo4) (by cases hk; exact fun e => HVO.out e.symm))
        have hv4 : v4.ownBlock ≠ some go := by
          rcases hblk4 with h1 | h1
          · rw [h1]; exact HVO.out
          · rw [h1]; intro e; cases e; omega
        have HM := Lib.hid (MRow.of hown5)
        have HV4 := Lib.hid hv4
        clear hown3 hown4 hgrow4 hblk4 hne4 hS3 hown5 hv4 HBS hc0 HVO
        go_wp2
        go_loopw [8] (fun i wk => ∃ k : Nat, k ≤ p.bs.length ∧ i = .int .i64 k ∧ Keeps go w4 wk ∧ Hid (MRow wk go p.bs.length)) (fun i _ => p.bs.length - (intOf i).toNat)
        case atStart => exact ⟨0, by omega, rfl, Keeps.refl _ _, HM⟩
        case round =>
          clear HM
          obtain ⟨k, hk, rfl, hK, HM⟩ := hrel
          by_cases hkl : k < p.bs.length
          · obtain ⟨cur, hcur, hall⟩ := HM.out
            obtain ⟨b, hb⟩ := hall k hkl
            have hx : wr.cell? ⟨go, k, none⟩ = some (vB b) := by rw [cell_of_row wr go k _ _ _ hcur]; exact hb
            have hf : wr.frozen? ⟨go, k, none⟩ = false := frozen_of_row wr go k _ _ hcur
            clear hcur hall hb
            have hki : 0 ≤ (k : Int) ∧ (k : Int) < p.bs.length := by omega
            go_wp2
            clear hx hf hki
            go_roundw
            case rel => exact ⟨k + 1, by omega, by go_num, hK.setCell _ _, Lib.hid (by rw [inc_val]; exact HM.out.set k _)⟩
            case measure => simp [intOf]; omega
          · have hkn : k = p.bs.length := by omega
            subst hkn
            have hS5 := hS4.other hK hgg HV4.out hgo3
            clear hK HM hS4 HV4
            obtain ⟨hc0, hc1, hc2, hbs⟩ := HPC.out.at hbk hS5.bel t p hp
            clear hc0 hc1 hbs
            cases hask : p.ask with
            | false =>
              rw [hask] at hc2
              go_wp2
              go_roundw
              case rel => exact ⟨t + 1, g2, by omega, by go_num, rfl, hS5⟩
              case measure => simp [intOf]; omega
            | true =>
              rw [hask] at hc2
              go_wp2_with fail
              refine (sum_any g2 _ wr hS5.ok (by omega)).mono ?_
              rintro e w6 ⟨rfl, hb6⟩
              rw [sumRow_by]
              have hS6 := hS5.below hb6
              clear hS5 hb6 hc2
              obtain ⟨av, cv, rfl, hsv⟩ := own_src' hS6.own rfl
              go_wp2_with fail
              refine (refsum_any (bytesTo ps (t + 1)) av cv _ hsv (by omega)).mono ?_
              rintro e w7 ⟨rfl, hb7⟩
              have hS7 := hS6.below hb7
              clear hS6 hb7 hsv
              have heq : ∀ W : World, (Op.equalIn 10000 24 (.agg (byRow (sumL (shaS (bytesTo ps (t + 1)))))) (.agg (byRow (sumL (shaS (bytesTo ps (t + 1))))))).run Try.prog W = .ok true W := fun W => by
                rw [run_eql_by W _ _ (sumL_length _) (sumL_length _)]; simp
              go_wp2_with fail
              refine (len_any g2 _ w7 hS7.ok).mono ?_
              rintro e w8 ⟨rfl, rfl⟩
              go_wp2
              go_roundw
              case rel => exact ⟨t + 1, g2, by omega, by go_num, rfl, hS7⟩
              case measure => simp [intOf]; omega
    · have htn : t = ps.length := by omega
      subst htn
      clear hlt htl ht
      have heq : ∀ W : World, (Op.equalIn 10000 24 (.agg (byRow (sumL (shaS (bytesTo ps ps.length))))) (.agg (byRow (sumL (shaS (bytesTo ps ps.length)))))).run Try.prog W = .ok true W := fun W => by
        rw [run_eql_by W _ _ (sumL_length _) (sumL_length _)]; simp
      obtain ⟨av, cv, rfl, _⟩ := own_src' hSt.own rfl
      go_wp2_with fail
      refine (sum_any g _ wr hSt.ok (by omega)).mono ?_
      rintro e w6 ⟨rfl, hb6⟩
      rw [sumRow_by]
      have hS6 := hSt.below hb6
      clear hSt hb6
      go_wp2_with fail
      obtain ⟨av2, cv2, he2, hsv⟩ := own_src' hS6.own rfl
      cases he2
      refine (refsum_any (bytesTo ps ps.length) av cv _ hsv (by omega)).mono ?_
      rintro e w7 ⟨rfl, hb7⟩
      have hS7 := hS6.below hb7
      clear hS6 hb7 hsv
      go_wp2_with fail
      refine (sum_any g _ w7 hS7.ok (by omega)).mono ?_
      rintro e w8 ⟨rfl, hb8⟩
      rw [sumRow_by]
      have hS8 := hS7.below hb8
      clear hS7 hb8
      go_wp2_with fail
      obtain ⟨av2, cv2, he2, hsv⟩ := own_src' hS8.own rfl
      cases he2
      refine (refsum_any (bytesTo ps ps.length) av cv _ hsv (by omega)).mono ?_
      rintro e w9 ⟨rfl, hb9⟩
      have hS9 := hS8.below hb9
      clear hS8 hb9 hsv
      go_wp2_with fail
      refine (len_any g _ w9 hS9.ok).mono ?_
      rintro e w10 ⟨rfl, rfl⟩
      go_wp2
      go_ret
      exact ⟨rfl, hS9.bel⟩
end Go.Proofs.Ytmcpobmmogeiiaa
