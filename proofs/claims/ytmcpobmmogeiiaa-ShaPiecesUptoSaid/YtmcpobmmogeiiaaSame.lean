/-
  Two slices of the same bytes: the law's own comparison says so.
-/
import Derived.Test.YtmcpobmmogeiiaaSrc
namespace Go.Proofs.Ytmcpobmmogeiiaa
open Go.RowKit

set_option maxRecDepth 100000 in
set_option maxHeartbeats 1000000 in
theorem same_any (bs : List By) (ao bo : Option Addr) (ca cb : Nat) (w : World) (ha : BSrc w ao ca bs) (hb : BSrc w bo cb bs) (hlen : bs.length ≤ 140737488355328) :
    Calls Try.prog 13 #[.slice ao bs.length ca, .slice bo bs.length cb] w fun e w' => e = .returned (.bool true) ∧ Below w.heap.size w w' := by
  have HA := Lib.hid ha
  have HB := Lib.hid hb
  by_cases hn : bs.length = 0
  · rw [hn]
    clear ha hb
    go_enter Try.func13, Try.ntmps13
    go_wp2
    go_loopw [5] (fun i wr => i = .int .i64 0 ∧ Below w.heap.size w wr) (fun _ _ => 0)
    case atStart => exact ⟨rfl, Below.refl _ _⟩
    case round =>
      obtain ⟨rfl, hE⟩ := hrel
      go_wp2
      go_ret
      exact ⟨rfl, hE⟩
  · obtain ⟨ka, fa, rfl, hka, hca⟩ := ha.plain (by omega)
    obtain ⟨kb, fb, rfl, hkb, hcb⟩ := hb.plain (by omega)
    have HCA := Lib.hid hca
    have HCB := Lib.hid hcb
    clear ha hb hca hcb
    go_enter Try.func13, Try.ntmps13
    go_wp2
    go_loopw [5] (fun i wr => ∃ t : Nat, t ≤ bs.length ∧ i = .int .i64 t ∧ Below w.heap.size w wr) (fun i _ => bs.length - (intOf i).toNat)
    case atStart => exact ⟨0, by omega, rfl, Below.refl _ _⟩
    case round =>
      obtain ⟨t, ht, rfl, hE⟩ := hrel
      by_cases hlt : t < bs.length
      · have hxa := (hE.cell (p := ⟨ka, fa + t, none⟩) hka).trans (HCA.out t hlt)
        have hxb := (hE.cell (p := ⟨kb, fb + t, none⟩) hkb).trans (HCB.out t hlt)
        have lt : 0 ≤ (t : Int) ∧ (t : Int) < bs.length := by omega
        go_wp2
        go_quiet (fail)
        clear hxa hxb lt
        go_wp2
        go_roundw
        case rel => exact ⟨t + 1, by omega, by go_num, hE.trans ⟨rfl, rfl, rfl, Nat.le_refl _, fun _ _ => rfl⟩⟩
        case measure => simp [intOf]; omega
      · have htn : t = bs.length := by omega
        subst htn
        go_wp2
        go_ret
        exact ⟨rfl, hE⟩
end Go.Proofs.Ytmcpobmmogeiiaa
