/-
  The program's Hex: a sum as a text.
-/
import Derived.Test.YtmcpobmmogeiiaaWhole
import Derived.Deep.RegionLaw
namespace Go.Proofs.Ytmcpobmmogeiiaa
open Go.RowKit

theorem step_append_own {P : Program} {ops : Array Oper} {o : Oper} {a : Act} {w : World} {K : Act → World → Prop} {Q : Exit → Act → World → Prop} {E : Prop} (hgd : o.guard = none) (s x : Operand) (t : TypeId)
    (ho : o.op = .call { callee := .builtin .append, args := #[s, x], argTypes := #[t, t] })
    (base : Nat) (e : TypeId) (i : TypeInfo) (z : Value) (size bytes : Nat) (ht : P.underlying t = some (.slice e)) (hi : P.info? e = some i) (hz : i.zero = some z)
    (hsize : i.size = size) (hby : i.bytes = bytes) (hzs : z.cells.size = size) (hsz : 0 < size)
    (v : Value) (n : Nat) (xs : List Value) (hs : a.eval s = v) (hown : w.ownsRow base e size v n xs)
    (ad : Addr) (m c : Nat) (news : List Value) (hx : a.eval x = .slice (some ad) m c) (hl : news.length = m * size) (hnews : ∀ j u, news[j]? = some u → w.cell? (ad.add j) = some u) (h1 : ∀ u ∈ news, u.oneCell' = true)
    (h63 : n + m ≤ maxLen) (hbytes : (n + m) * bytes ≤ 140737488355328) (hbase : base ≤ w.heap.size)
    (h : ∀ v' w', w'.ownsRow base e size v' (n + m) (xs ++ news) → w.grownBy w' v.ownBlock → (v' = .slice none 0 0 ↔ v = .slice none 0 0 ∧ m = 0) → K (a.put o.dst v') w') :
    if Region.wanted o (yielded ops a.tmps) = true then Oper.wp P o a w K Q else E := by
  rw [if_pos (by simp [Region.wanted, hgd])]
  exact wp_append_own w s x t ho base e i z size bytes ht hi hz hsize hby hzs hsz v n xs hs hown ad m c news hx hl hnews h1 h63 hbytes hbase h

/-- a digit. -/
def hexd (n : Nat) : By := if n < 10 then BitVec.ofNat 8 (48 + n) else BitVec.ofNat 8 (87 + n)
def hexL (bs : List By) : List By := bs.flatMap fun c => [hexd (c.toNat / 16), hexd (c.toNat % 16)]
theorem digit_run (n : Nat) (hn : n < 16) (W : World) : (Instr.index 9 (.string { data := #[48, 49, 50, 51, 52, 53, 54, 55, 56, 57, 97, 98, 99, 100, 101, 102] }) (.int .u8 (n : Int))).run Try.prog W = .ok (vB (hexd n)) W := by
  iterate 16 (rcases n with _ | n; · kernel_rfl)
  omega
theorem digit_hi (c : By) (W : World) : (Instr.index 9 (.string { data := #[48, 49, 50, 51, 52, 53, 54, 55, 56, 57, 97, 98, 99, 100, 101, 102] }) (.int .u8 ((c.toNat : Int) / 16))).run Try.prog W = .ok (vB (hexd (c.toNat / 16))) W := by
  have := digit_run (c.toNat / 16) (by have := c.isLt; omega) W
  rwa [Int.natCast_ediv] at this
theorem digit_lo (c : By) (W : World) : (Instr.index 9 (.string { data := #[48, 49, 50, 51, 52, 53, 54, 55, 56, 57, 97, 98, 99, 100, 101, 102] }) (.int .u8 ((c.toNat : Int) % 16))).run Try.prog W = .ok (vB (hexd (c.toNat % 16))) W := by
  have := digit_run (c.toNat % 16) (by omega) W
  rwa [Int.natCast_emod] at this

/-- a sum's bytes in an array. -/
def byRow (bs : List By) : Array Value := rowN 32 fun i => vB (bs.getD i 0)
theorem byRow_size (bs : List By) : (byRow bs).size = 32 := by rw [byRow, rowN_size]
theorem Try.size5b : (Try.prog.info? 5).map (·.size) = some 1 := by kernel_rfl

theorem two_new (w : World) (x y : Value) : ∀ j u, [x, y][j]? = some u → (w.alloc (.cells #[x, y] 5)).cell? ((⟨w.heap.size, 0, none⟩ : Addr).add j) = some u := by
  intro j u hu
  rw [Addr.add_mid, Nat.zero_add, cell_of_row _ _ _ _ _ _ (heap_alloc_last w _)]
  simpa using hu
theorem two_cells (x y : By) : ∀ u ∈ [vB x, vB y], u.oneCell' = true := by
  intro u hu
  simp only [List.mem_cons, List.not_mem_nil, or_false] at hu
  rcases hu with rfl | rfl <;> rfl
theorem and15 (c : By) : bits BinOp.and IntKind.u8 (c.toNat : Int) 15 = (c.toNat : Int) % 16 := by
  have key : ∀ n : Nat, n < 256 → bits BinOp.and IntKind.u8 (n : Int) 15 = (n : Int) % 16 := by decide +kernel
  exact key _ c.isLt

/-- bytes as a string. -/
def strOf (bs : List By) : ByteArray := ⟨(bs.map UInt8.ofBitVec).toArray⟩
theorem push_all (bs : List By) : ∀ l : List UInt8, (bs.map fun x => (x.toNat : Int)).foldl (fun (r : ByteArray) n => r.push (UInt8.ofNat n.toNat)) ⟨l.toArray⟩ = ⟨(l ++ bs.map UInt8.ofBitVec).toArray⟩ := by
  induction bs with
  | nil => intro l; simp
  | cons b bs ih =>
    intro l
    simp only [List.map_cons, List.foldl_cons]
    have e : (ByteArray.push ⟨l.toArray⟩ (UInt8.ofNat (b.toNat : Int).toNat)) = ⟨(l ++ [UInt8.ofBitVec b]).toArray⟩ := by
      have h1 : UInt8.ofNat (b.toNat : Int).toNat = UInt8.ofBitVec b := by
        apply UInt8.eq_of_toBitVec_eq; simp
      rw [h1]
      simp [ByteArray.push]
    rw [e, ih]; simp
theorem run_convert_str (w : World) (g : Nat) (bs : List By) (cap : Nat) (hc : ∀ i, i < bs.length → w.cell? ⟨g, i, none⟩ = some (vB (bs.getD i 0))) :
    (convert 22 9 (.slice (some ⟨g, 0, none⟩) bs.length cap)).run Try.prog w = .ok (.string (strOf bs)) w := by
  rw [run_convert_bytes_string w 22 9 5 _ _ _ Try.underlying22 Try.underlying5 Try.underlying9]
  have hl := run_loadCells_list (P := Try.prog) w ⟨g, 0, none⟩ (bs.map vB) (fun j v hv => by
    have hj : j < bs.length := by have := (List.getElem?_eq_some_iff.1 hv).1; simpa using this
    rw [Addr.add_mid, Nat.zero_add, hc j hj, ← hv, List.getElem?_map, List.getD_eq_getElem?_getD, List.getElem?_eq_getElem hj]; rfl)
  rw [List.length_map] at hl
  have e : bs.map vB = (bs.map fun x => (x.toNat : Int)).map (Value.int .u8) := by simp
  rw [e] at hl
  rw [run_bytesToString w _ _ _ _ hl]
  have := push_all bs []
  rw [show ByteArray.empty = ⟨([] : List UInt8).toArray⟩ from rfl, this]; rfl
theorem hex_grown {w wr w2 : World} {v : Value} {n : Nat} {xs : List Value} {o : Obj} (hb : Below w.heap.size w wr) (hown : wr.ownsRow w.heap.size 5 1 v n xs) (hg : (wr.drew.alloc o).grownBy w2 v.ownBlock) : Below w.heap.size w w2 :=
  ((hb.drew).alloc hb.size o).grown hg (by have := hb.size; simp; omega) (fun k hk => (hown.lt k hk).1)
theorem hex_size {w wr w2 : World} {v : Value} {o : Obj} (hg : (wr.drew.alloc o).grownBy w2 v.ownBlock) (h : w.heap.size < wr.heap.size) : w.heap.size < w2.heap.size := by
  have := hg.size; simp at this; omega
theorem hex_succ (bs : List By) (t : Nat) (c : By) (hc : c = bs.getD t 0) (ht : t < bs.length) : (hexL (bs.take t)).map vB ++ [vB (hexd (c.toNat / 16)), vB (hexd (c.toNat % 16))] = (hexL (bs.take (t + 1))).map vB := by
  rw [List.take_succ_eq_append_getElem ht, hc, List.getD_eq_getElem?_getD, List.getElem?_eq_getElem ht]
  unfold hexL
  rw [List.flatMap_append, List.map_append]
  rfl

set_option maxRecDepth 100000 in
set_option maxHeartbeats 1000000 in
theorem hex_any (bs : List By) (hbs : bs.length = 32) (w : World) :
    Calls Try.prog 22 #[.agg (byRow bs)] w fun e w' => e = .returned (.string (strOf (hexL bs))) ∧ Below w.heap.size w w' := by
  obtain ⟨i0, hi, hz0, hz1, hz2⟩ := info_parts Try.info5
  go_enter Try.func22, Try.ntmps22
  go_wp2_with (with_reducible refine wpList_load_row rfl 24 _ rfl w.heap.size rfl 24 (byRow bs) (0, 0) _ (heap_alloc_last w _) Try.underlying24 rfl (by rw [byRow_size]; exact Try.size24) ?_)
  go_loopw [3, 7] (fun v i wr => ∃ t : Nat, t ≤ 32 ∧ i = .int .i64 t ∧ wr.ownsRow w.heap.size 5 1 v (2 * t) ((hexL (bs.take t)).map vB) ∧ Below w.heap.size w wr ∧ w.heap.size < wr.heap.size) (fun _ i _ => 32 - (intOf i).toNat)
  case atStart => exact ⟨0, by omega, rfl, World.ownsRow_nil _ _ _ _, (Below.refl _ _).alloc (Nat.le_refl _) _, by simp⟩
  case round =>
    obtain ⟨t, ht, rfl, hown, hb, hsz⟩ := hrel
    by_cases hlt : t < 32
    · have hidx := fun W : World => run_index_cells (P := Try.prog) W 24 5 32 .u8 (byRow bs) .i64 t _ Try.underlying24 Try.underlying5 Try.size5b hlt (rowN_get 32 _ t hlt)
      obtain ⟨c, hc⟩ : ∃ c, c = bs.getD t 0 := ⟨_, rfl⟩
      have HC := Lib.hid hc
      rw [← hc] at hidx
      clear hc
      have hd1 := digit_hi c
      have hd2 := digit_lo c
      have hm := and15 c
      go_wp2
      go_region_law (refine step_append_own rfl (.tmp 10) (.tmp 17) 22 rfl w.heap.size 5 i0 (.int .u8 0) 1 1 Try.underlying22 hi hz0 hz1 hz2 rfl (by decide) _ (2 * t) ((hexL (bs.take t)).map vB) rfl (by exact hown.drew.alloc _) ⟨wr.heap.size, 0, none⟩ 2 2 [vB (hexd (c.toNat / 16)), vB (hexd (c.toNat % 16))] rfl rfl (two_new _ _ _) (two_cells _ _) (by unfold maxLen; omega) (by omega) (by simp; omega) ?_; intro v2 w2 hown2 hgrow hne2)
      all_goals
        have hb2 := hex_grown hb hown hgrow
        have hsz2 := hex_size hgrow hsz
        rw [hex_succ bs t c HC.out (by omega)] at hown2
        clear hgrow hne2 hown hb hsz
        go_wp2
        go_roundw
        case rel => exact ⟨t + 1, by omega, by go_num, hown2, hb2, hsz2⟩
        case measure => simp [intOf]; omega
    · have ht32 : t = 32 := by omega
      rw [ht32, List.take_of_length_le (by omega)] at hown
      obtain ⟨gp, cp, hv, _, _, _, hcl⟩ := own_shape hown (by
        intro h0
        rcases hown.2 with ⟨_, h1⟩ | ⟨g, cap, cur, rfl, _⟩
        · omega
        · cases h0)
      have HV := Lib.hid hv
      have hl : (hexL bs).length = 2 * 32 := by have := hown.1; rw [List.length_map] at this; omega
      have hconv := run_convert_str wr gp (hexL bs) cp hcl
      rw [hl] at hconv
      rw [← hv] at hconv
      clear hv hcl hown
      go_wp2
      go_ret
      exact ⟨rfl, hb⟩
end Go.Proofs.Ytmcpobmmogeiiaa
