/-
  Every sum: the walk of the law ShaSums.
-/
import Derived.Test.YtmcpobmmogeiiaaRefSum
import Derived.Test.YtmcpobmmogeiiaaSame
import Derived.Test.YtmcpobmmogeiiaaArgs
namespace Go.Proofs.Ytmcpobmmogeiiaa
open Go.RowKit

theorem own_new0 (w : World) : (w.alloc (.cells #[] 5)).ownsRow w.heap.size 5 1 (.slice (some ⟨w.heap.size, 0, none⟩) 0 0) 0 [] := own_new1 w w.heap.size (Nat.le_refl _)
theorem size11 (w : World) (a : Obj) : w.heap.size ≤ (w.alloc a).heap.size := by simp
/-- a copy of the call's own, as bytes that came in. -/
theorem own_src {w : World} {base : Nat} {v : Value} {n : Nat} {bs : List By} (h : w.ownsRow base 5 1 v n (bs.map vB)) (hn : n = bs.length) (hne : v ≠ .slice none 0 0) :
    ∃ g cap, v = .slice (some ⟨g, 0, none⟩) bs.length cap ∧ base ≤ g ∧ g < w.heap.size ∧ BSrc w (some ⟨g, 0, none⟩) cap bs := by
  obtain ⟨g, cap, rfl, h1, h2, h3, h4⟩ := own_shape h hne
  subst hn
  exact ⟨g, cap, rfl, h1, h2, ⟨(fun h => by cases h), h3, fun _ => ⟨g, 0, rfl, h2, fun i hi => by rw [Nat.zero_add]; exact h4 i hi⟩⟩⟩

set_option maxRecDepth 100000 in
set_option maxHeartbeats 1000000 in
theorem sums_walk (bs : List By) (ao : Option Addr) (cap : Nat) (w : World) (hsrc : BSrc w ao cap bs) (hlen : bs.length ≤ 140737488351232) :
    Calls Try.prog 3 #[.slice ao bs.length cap] w fun e w' => e = .returned (.bool true) ∧ Below w.heap.size w w' := by
  obtain ⟨i0, hi, hz0, hz1, hz2⟩ := info_parts Try.info5
  have hg := eqGuard24
  have heq : ∀ W : World, (Op.equalIn 10000 24 (.agg (byRow (sumL (shaS bs)))) (.agg (byRow (sumL (shaS bs))))).run Try.prog W = .ok true W := fun W => by
    rw [run_eql_by W _ _ (sumL_length _) (sumL_length _)]; simp
  have HS := Lib.hid (hsrc.after ((Below.refl _ w).alloc (Nat.le_refl _) (.cells #[] 5)))
  have HS0 := Lib.hid hsrc
  clear hsrc
  go_enter Try.func3, Try.ntmps3
  go_wp2_with (at_builtin; (refine wpList_append_src rfl (.tmp 4) (.tmp 5) 22 rfl w.heap.size 5 i0 (.int .u8 0) Try.underlying22 hi hz0 hz1 hz2 rfl _ 0 [] rfl (own_new0 w) ao cap bs bs.length rfl rfl HS.out (by omega) (size11 _ _) ?_))
  intro v1 w1 hown hgrow hne
  have hb1 : Below w.heap.size w w1 := ((Below.refl _ w).alloc (Nat.le_refl _) (.cells #[] 5)).grown hgrow (size11 _ _) (fun k hk => ((own_new0 w).lt k hk).1)
  obtain ⟨g, cp, rfl, hg1, hg2, hso⟩ := own_src hown rfl hne
  have hs1 := HS0.out.after hb1
  clear hgrow hown hne HS HS0
  have HO := Lib.hid hso
  have HI := Lib.hid hs1
  clear hso hs1
  go_wp2_with fail
  refine (lives_any _).mono ?_
  rintro e w2 ⟨rfl, hb2⟩
  have hb2' : Below w.heap.size w w2 := hb1.trans (hb2.mono hb1.size)
  have HO2 := Lib.hid (HO.out.after hb2)
  have HI2 := Lib.hid (HI.out.after hb2)
  clear hb1 hb2 HO HI
  go_wp2_with fail
  refine (HO2.out.shasum (by omega)).mono ?_
  rintro e w3 ⟨rfl, hb3⟩
  have hb3' : Below w.heap.size w w3 := hb2'.trans (hb3.mono hb2'.size)
  have HO3 := Lib.hid (HO2.out.after hb3)
  have HI3 := Lib.hid (HI2.out.after hb3)
  clear hb2' hb3 HO2 HI2
  rw [sumRow_by]
  go_wp2_with fail
  refine (refsum_any bs ao cap _ HI3.out hlen).mono ?_
  rintro e w4 ⟨rfl, hb4⟩
  have hb4' : Below w.heap.size w w4 := hb3'.trans (hb4.mono hb3'.size)
  have HO4 := Lib.hid (HO3.out.after hb4)
  have HI4 := Lib.hid (HI3.out.after hb4)
  clear hb3' hb4 HO3 HI3
  go_wp2_with fail
  refine (same_any bs _ _ _ _ _ HO4.out HI4.out (by omega)).mono ?_
  rintro e w5 ⟨rfl, hb5⟩
  have hb5' : Below w.heap.size w w5 := hb4'.trans (hb5.mono hb4'.size)
  clear hb4' hb5 HO4 HI4
  go_wp2
  go_ret
  exact ⟨rfl, hb5'⟩
end Go.Proofs.Ytmcpobmmogeiiaa
