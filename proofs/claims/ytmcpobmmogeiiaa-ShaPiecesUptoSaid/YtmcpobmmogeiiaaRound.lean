/-
  The program's round: the state behind 64 bytes.
-/
import Derived.Test.YtmcpobmmogeiiaaSched
import Derived.Laws.CopyOwn
namespace Go.Proofs.Ytmcpobmmogeiiaa
open Go.RowKit

structure EnvR (B N : Nat) (w : World) (r0 r1 rw : Array Value) (wr : World) (c : Array Value) : Prop where
  bel : Below B w wr
  lt : B + 2 ≤ N
  b0 : wr.heap[B]? = some (.cells r0 52 (0, 0))
  b1 : wr.heap[B + 1]? = some (.cells r1 52 (0, 0))
  bw : wr.heap[N + 1]? = some (.cells rw 67 (0, 0))
  bk : wr.heap[N + 1 + 1]? = some (.cells kRow 67 (0, 0))
  bs : wr.heap[N + 1 + 1 + 1]? = some (.cells c 52 (0, 0))

structure EnvQ (B : Nat) (w : World) (r0 r1 : Array Value) (wr : World) : Prop where
  bel : Below B w wr
  lt : B + 2 ≤ wr.heap.size
  b0 : wr.heap[B]? = some (.cells r0 52 (0, 0))
  b1 : wr.heap[B + 1]? = some (.cells r1 52 (0, 0))
theorem EnvQ.start (w w1 : World) (r0 r1 : Array Value) (h : Below ((w.alloc (.cells r0 52)).alloc (.cells r1 52)).heap.size ((w.alloc (.cells r0 52)).alloc (.cells r1 52)) w1) : EnvQ w.heap.size w r0 r1 w1 where
  bel := (((Below.refl _ _).alloc (Nat.le_refl _) _).alloc (by simp) _).trans (h.mono (by simp <;> omega))
  lt := by have := h.size; simpa using this
  b0 := by rw [h.block _ (by simp <;> omega), Below.heap_alloc _ _ _ (by simp)]; exact heap_alloc_last w _
  b1 := by
    rw [h.block _ (by simp)]
    have := heap_alloc_last (w.alloc (.cells r0 52)) (.cells r1 52)
    simpa using this

theorem EnvR.go {B N : Nat} {w wr : World} {r0 r1 rw c : Array Value} (h : EnvR B N w r0 r1 rw wr c) (k : Nat) (X : World → Prop) (hx : ∀ w2, EnvR B N w r0 r1 rw w2 c → X w2) : X (wr.drewN k) :=
  hx _ ⟨h.bel.trans ⟨rfl, rfl, rfl, Nat.le_refl _, fun _ _ => rfl⟩, h.lt, h.b0, h.b1, h.bw, h.bk, h.bs⟩
theorem EnvR.setS {B N : Nat} {w wr : World} {r0 r1 rw c : Array Value} (h : EnvR B N w r0 r1 rw wr c) (c' : Array Value) : EnvR B N w r0 r1 rw (wr.setRow (N + 1 + 1 + 1) c') c' := by
  have h1 := h.lt
  exact ⟨h.bel.trans ⟨rfl, rfl, rfl, by simp, fun k hk => setRow_other _ _ _ _ (by omega)⟩, h.lt,
    by rw [setRow_other _ _ _ _ (by omega)]; exact h.b0, by rw [setRow_other _ _ _ _ (by omega)]; exact h.b1, by rw [setRow_other _ _ _ _ (by omega)]; exact h.bw,
    by rw [setRow_other _ _ _ _ (by omega)]; exact h.bk, setRow_heap _ _ _ _ _ _ h.bs⟩
theorem EnvR.cellS {B N : Nat} {w wr : World} {r0 r1 rw c : Array Value} (h : EnvR B N w r0 r1 rw wr c) (i : Nat) (v : Value) (hv : c[i]? = some v) : wr.cell? ⟨N + 1 + 1 + 1, i, none⟩ = some v := by
  rw [cell_of_row wr (N + 1 + 1 + 1) i _ _ _ h.bs]; exact hv
theorem EnvR.freeS {B N : Nat} {w wr : World} {r0 r1 rw c : Array Value} (h : EnvR B N w r0 r1 rw wr c) (i : Nat) : wr.frozen? ⟨N + 1 + 1 + 1, i, none⟩ = false :=
  frozen_of_row wr (N + 1 + 1 + 1) i _ _ h.bs
theorem EnvR.setSc {B N : Nat} {w wr : World} {r0 r1 rw c : Array Value} (h : EnvR B N w r0 r1 rw wr c) (i : Nat) (v : Value) : EnvR B N w r0 r1 rw (wr.setCell ⟨N + 1 + 1 + 1, i, none⟩ v) (c.setIfInBounds i v) := by
  have h1 := h.lt
  exact ⟨h.bel.setCell (by simp <;> omega) v, h.lt,
    by rw [heap_setCell_other _ _ _ _ (by simp <;> omega)]; exact h.b0, by rw [heap_setCell_other _ _ _ _ (by simp <;> omega)]; exact h.b1, by rw [heap_setCell_other _ _ _ _ (by simp <;> omega)]; exact h.bw,
    by rw [heap_setCell_other _ _ _ _ (by simp)]; exact h.bk, heap_setCell_same _ _ _ _ _ _ h.bs⟩
theorem EnvR.cellK {B N : Nat} {w wr : World} {r0 r1 rw c : Array Value} (h : EnvR B N w r0 r1 rw wr c) (t : Nat) (ht : t < 64) : wr.cell? ⟨N + 1 + 1, t, none⟩ = some (vW (K t)) := by
  rw [cell_of_row wr (N + 1 + 1) t _ _ _ h.bk]; exact kRow_get t ht
theorem EnvR.cellW {B N : Nat} {w wr : World} {r0 r1 c : Array Value} {W : Nat → Wd} (h : EnvR B N w r0 r1 (wRow W 64) wr c) (t : Nat) (ht : t < 64) : wr.cell? ⟨N + 1, t, none⟩ = some (vW (W t)) := by
  rw [cell_of_row wr (N + 1) t _ _ _ h.bw, wRow, rowN_get _ _ _ ht, if_pos ht]
theorem EnvR.cell0 {B N : Nat} {w wr : World} {r0 r1 rw c : Array Value} (h : EnvR B N w r0 r1 rw wr c) (i : Nat) (v : Value) (hv : r0[i]? = some v) : wr.cell? ⟨B, i, none⟩ = some v := by
  rw [cell_of_row wr B i _ _ _ h.b0]; exact hv
theorem EnvR.free0 {B N : Nat} {w wr : World} {r0 r1 rw c : Array Value} (h : EnvR B N w r0 r1 rw wr c) (i : Nat) : wr.frozen? ⟨B, i, none⟩ = false :=
  frozen_of_row wr B i _ _ h.b0
theorem EnvR.set0 {B N : Nat} {w wr : World} {r0 r1 rw c : Array Value} (h : EnvR B N w r0 r1 rw wr c) (i : Nat) (v : Value) : EnvR B N w (r0.setIfInBounds i v) r1 rw (wr.setCell ⟨B, i, none⟩ v) c := by
  have h1 := h.lt
  exact ⟨h.bel.setCell (by simp) v, h.lt, heap_setCell_same _ _ _ _ _ _ h.b0,
    by rw [heap_setCell_other _ _ _ _ (by simp)]; exact h.b1, by rw [heap_setCell_other _ _ _ _ (by simp <;> omega)]; exact h.bw,
    by rw [heap_setCell_other _ _ _ _ (by simp <;> omega)]; exact h.bk, by rw [heap_setCell_other _ _ _ _ (by simp <;> omega)]; exact h.bs⟩

theorem EnvQ.two {B : Nat} {w w1 : World} {r0 r1 : Array Value} (h : EnvQ B w r0 r1 w1) (rw' : Array Value) :
    (((w1.alloc (.cells kRow 67)).alloc (.cells z64 67)).alloc (.cells z64 67)).heap[w1.heap.size + 1]? = some (.cells z64 67 (0, 0)) ∧ ((((w1.alloc (.cells kRow 67)).alloc (.cells z64 67)).alloc (.cells z64 67)).setRow (w1.heap.size + 1) rw').heap[w1.heap.size + 1 + 1]? = some (.cells z64 67 (0, 0)) ∧
      (((((w1.alloc (.cells kRow 67)).alloc (.cells z64 67)).alloc (.cells z64 67)).setRow (w1.heap.size + 1) rw').setRow (w1.heap.size + 1 + 1) kRow).heap[B]? = some (.cells r0 52 (0, 0)) ∧
      (∀ c, EnvR B w1.heap.size w r0 r1 rw' ((((((w1.alloc (.cells kRow 67)).alloc (.cells z64 67)).alloc (.cells z64 67)).setRow (w1.heap.size + 1) rw').setRow (w1.heap.size + 1 + 1) kRow).alloc (.cells c 52)) c) := by
  have hs : (((w1.alloc (.cells kRow 67)).alloc (.cells z64 67)).alloc (.cells z64 67)).heap.size = w1.heap.size + 1 + 1 + 1 := by simp
  have hlt := h.lt
  have e1 : (((w1.alloc (.cells kRow 67)).alloc (.cells z64 67)).alloc (.cells z64 67)).heap[w1.heap.size + 1]? = some (.cells z64 67 (0, 0)) := by
    rw [Below.heap_alloc _ _ _ (by simp)]
    have := heap_alloc_last (w1.alloc (.cells kRow 67)) (.cells z64 67)
    simpa using this
  have e2 : (((w1.alloc (.cells kRow 67)).alloc (.cells z64 67)).alloc (.cells z64 67)).heap[w1.heap.size + 1 + 1]? = some (.cells z64 67 (0, 0)) := by
    have := heap_alloc_last ((w1.alloc (.cells kRow 67)).alloc (.cells z64 67)) (.cells z64 67)
    simpa using this
  have lo0 : ∀ k, k < w1.heap.size → (((w1.alloc (.cells kRow 67)).alloc (.cells z64 67)).alloc (.cells z64 67)).heap[k]? = w1.heap[k]? := by
    intro k hk
    rw [Below.heap_alloc _ _ _ (by simp <;> omega), Below.heap_alloc _ _ _ (by simp <;> omega), Below.heap_alloc _ _ _ (by omega)]
  have hos : (((w1.alloc (.cells kRow 67)).alloc (.cells z64 67)).alloc (.cells z64 67)).os = w1.os ∧ (((w1.alloc (.cells kRow 67)).alloc (.cells z64 67)).alloc (.cells z64 67)).tape = w1.tape ∧ (((w1.alloc (.cells kRow 67)).alloc (.cells z64 67)).alloc (.cells z64 67)).output = w1.output := ⟨rfl, rfl, rfl⟩
  generalize (((w1.alloc (.cells kRow 67)).alloc (.cells z64 67)).alloc (.cells z64 67)) = w3 at hs e1 e2 lo0 hos ⊢
  have lo : ∀ k, k < w1.heap.size → ((w3.setRow (w1.heap.size + 1) rw').setRow (w1.heap.size + 1 + 1) kRow).heap[k]? = w1.heap[k]? := by
    intro k hk
    rw [setRow_other _ _ _ _ (by omega), setRow_other _ _ _ _ (by omega)]
    exact lo0 k hk
  have e3 : (w3.setRow (w1.heap.size + 1) rw').heap[w1.heap.size + 1 + 1]? = some (.cells z64 67 (0, 0)) := by
    rw [setRow_other _ _ _ _ (by omega)]; exact e2
  refine ⟨e1, e3, by rw [lo _ (by omega)]; exact h.b0, fun c => ?_⟩
  have hb : Below B w1 (((w3.setRow (w1.heap.size + 1) rw').setRow (w1.heap.size + 1 + 1) kRow).alloc (.cells c 52)) :=
    ⟨hos.1, hos.2.1, hos.2.2, by simp [hs]; omega, fun k hk => by rw [Below.heap_alloc _ _ _ (by simp [hs] <;> omega)]; exact lo k (by omega)⟩
  refine ⟨h.bel.trans hb, hlt, ?_, ?_, ?_, ?_, ?_⟩
  · rw [Below.heap_alloc _ _ _ (by simp [hs] <;> omega), lo _ (by omega)]; exact h.b0
  · rw [Below.heap_alloc _ _ _ (by simp [hs] <;> omega), lo _ (by omega)]; exact h.b1
  · rw [Below.heap_alloc _ _ _ (by simp [hs]), setRow_other _ _ _ _ (by omega)]; exact setRow_heap _ _ _ _ _ _ e1
  · rw [Below.heap_alloc _ _ _ (by simp [hs])]; exact setRow_heap _ _ _ _ _ _ e3
  · have := heap_alloc_last ((w3.setRow (w1.heap.size + 1) rw').setRow (w1.heap.size + 1 + 1) kRow) (.cells c 52)
    simpa [hs] using this

theorem Try.size51 : (Try.prog.info? 51).map (·.size) = some 1 := by kernel_rfl
theorem copy_src {B N : Nat} {w wr : World} {r0 r1 rw : Array Value} {S : S8} (h : EnvR B N w r0 r1 rw wr S.row) :
    ∀ j v, [vW S.a, vW S.b, vW S.c, vW S.d, vW S.e, vW S.f, vW S.g][j]? = some v → wr.cell? ((⟨N + 1 + 1 + 1, 0, none⟩ : Addr).add j) = some v := by
  intro j v hv
  have hadd : (⟨N + 1 + 1 + 1, 0, none⟩ : Addr).add j = ⟨N + 1 + 1 + 1, j, none⟩ := by unfold Addr.add; split <;> simp_all
  rw [hadd]
  apply h.cellS
  match j, hv with
  | 0, hv => exact hv
  | 1, hv => exact hv
  | 2, hv => exact hv
  | 3, hv => exact hv
  | 4, hv => exact hv
  | 5, hv => exact hv
  | 6, hv => exact hv
  | j + 7, hv => simp at hv

theorem copy_fit (S : S8) : 1 + [vW S.a, vW S.b, vW S.c, vW S.d, vW S.e, vW S.f, vW S.g].length ≤ S.row.size := Nat.le_refl 8
theorem copy_one (S : S8) : ∀ v ∈ [vW S.a, vW S.b, vW S.c, vW S.d, vW S.e, vW S.f, vW S.g], v.oneCell' = true := by
  intro v hv
  simp only [List.mem_cons, List.not_mem_nil, or_false] at hv
  rcases hv with rfl | rfl | rfl | rfl | rfl | rfl | rfl <;> kernel_rfl

set_option maxRecDepth 100000 in
set_option maxHeartbeats 4000000 in
theorem round_any (s : S8) (b : List By) (bk off : Nat) (cap : Nat) (w : World) (hbk : bk < w.heap.size)
    (hb : ∀ i, i < 64 → w.cell? ⟨bk, off + i, none⟩ = some (vB (b.getD i 0))) :
    Calls Try.prog 28 #[.agg s.row, .slice (some ⟨bk, off, none⟩) 64 cap] w fun e w' => e = .returned (.agg (blockS s b).row) ∧ Below w.heap.size w w' := by
  have HB := Lib.hid hb; clear hb
  go_enter Try.func28, Try.ntmps28
  go_wp2_with (with_reducible refine wpList_alloc_row rfl 52 rfl z8 Try.zero52 ?_)
  refine (schedule_any b bk off cap _ (by simp <;> omega) (fun i hi => ?_)).mono ?_
  · rw [World.cell?_of_block (w := w) (by rw [Below.heap_alloc _ _ _ (by simp <;> omega), Below.heap_alloc _ _ _ (by omega)])]; exact HB.out i hi
  rintro e w1 ⟨rfl, hb1⟩
  have hQ := EnvQ.start w w1 _ _ hb1
  clear hb1
  have H2 := Lib.hid (hQ.two (wRow (Wt (words b)) 64))
  go_wp2_with (first | (go_at_call 34; refine (constants_any _).mono ?_; rintro e w' ⟨rfl, rfl⟩) | ((with_reducible refine wpList_alloc_row rfl 67 rfl z64 Try.zero67 ?_); simp only [World.size_alloc]) | (with_reducible refine wpList_store_row rfl 67 (.tmp 5) _ rfl (w1.heap.size + 1) (wRow (Wt (words b)) 64) rfl rfl 67 z64 H2.out.1 (by rw [wRow_size]; exact Try.size67) (by rw [wRow_size, z64_size]) (wRow_all _ _) ?_) | (with_reducible refine wpList_store_row rfl 67 (.tmp 6) _ rfl (w1.heap.size + 1 + 1) kRow rfl rfl 67 z64 H2.out.2.1 (by rw [kRow_size]; exact Try.size67) (by rw [kRow_size, z64_size]) kRow_all ?_) | (with_reducible refine wpList_load_row rfl 52 (.tmp 2) rfl w.heap.size rfl 52 s.row (0, 0) _ H2.out.2.2.1 Try.underlying52 rfl (by rw [S8.row_size]; exact Try.size52) ?_) | (with_reducible refine wpList_alloc_row rfl 52 rfl z8 Try.zero52 ?_) | (with_reducible refine wpList_store_last rfl 52 _ _ rfl rfl s.row z8 52 rfl rfl (by rw [S8.row_size]; exact Try.size52) (by rw [S8.row_size, z8_size]) (S8.row_all s) ?_))
  have hE := H2.out.2.2.2 s.row
  generalize (((((w1.alloc (.cells kRow 67)).alloc (.cells z64 67)).alloc (.cells z64 67)).setRow (w1.heap.size + 1) (wRow (Wt (words b)) 64)).setRow (w1.heap.size + 1 + 1) kRow).alloc (.cells s.row 52) = w2 at hE ⊢
  clear H2 hQ
  generalize w1.heap.size = N at hE ⊢
  have hsg : IntKind.u32.signed = false := rfl
  go_loopw [18] (fun i wr => ∃ t : Nat, t ≤ 64 ∧ i = .int .i64 t ∧ EnvR w.heap.size N w s.row z8 (wRow (Wt (words b)) 64) wr (roundsS (Wt (words b)) s t).row) (fun i _ => 64 - (intOf i).toNat)
  case atStart => exact ⟨0, by omega, rfl, hE⟩
  case round =>
    clear hE
    obtain ⟨t, ht, rfl, hE⟩ := hrel
    by_cases hlt : t < 64
    · obtain ⟨S, hS⟩ : ∃ S, S = roundsS (Wt (words b)) s t := ⟨_, rfl⟩
      have HS := Lib.hid hS
      rw [← hS] at hE
      clear hS
      have hca := hE.cellS 0 (vW S.a) rfl
      have hce := hE.cellS 4 (vW S.e) rfl
      go_wp2
      go_quiet (fail)
      clear hca hce
      refine EnvR.go hE _ (fun w2 => Exit.then _ _ _ _ w2) ?_
      clear hE; intro wr hE
      have hcf := hE.cellS 5 (vW S.f) rfl
      have hcg := hE.cellS 6 (vW S.g) rfl
      have hch := hE.cellS 7 (vW S.h) rfl
      have hck := hE.cellK t hlt
      have hcw := hE.cellW t hlt
      have lt : 0 ≤ (t : Int) ∧ (t : Int) < 64 := by omega
      go_wp2
      go_quiet ((go_at_call 35; exact quiet_left (ror_any _ _ (by omega) (by omega) _)))
      clear hcf hcg hch hck hcw lt
      refine EnvR.go hE _ (fun w2 => Exit.then _ _ _ _ w2) ?_
      clear hE; intro wr hE
      have hcb := hE.cellS 1 (vW S.b) rfl
      have hcc := hE.cellS 2 (vW S.c) rfl
      go_wp2
      go_quiet ((go_at_call 35; exact quiet_left (ror_any _ _ (by omega) (by omega) _)))
      clear hcb hcc
      refine EnvR.go hE _ (fun w2 => Exit.then _ _ _ _ w2) ?_
      clear hE; intro wr hE
      go_wp2
      refine wp_region_still_tail 2 (by kernel_rfl) (by kernel_rfl) ?_
      simp only [List.take_succ_cons, List.take_zero, List.drop_succ_cons, List.drop_zero]
      repeat (refine wpStill_step (fun K hK => ?_); go_simp; (try go_bits); (try (rw [if_pos (by omega)]; go_simp)); refine hK _ ?_; clear hK K)
      refine wpStill_nil ?_
      change wpList _ _ _ _ _ (wr.drewN 1)
      refine EnvR.go hE _ (fun w2 => wpList _ _ _ _ _ w2) ?_
      clear hE; intro wr hE
      with_reducible refine wpList_copy_own rfl (.tmp 79) (.tmp 80) 71 71 rfl 51 Try.underlying71 Try.size51 (N + 1 + 1 + 1) 1 7 7 ⟨N + 1 + 1 + 1, 0, none⟩ 7 8 rfl rfl S.row 52 hE.bs [vW S.a, vW S.b, vW S.c, vW S.d, vW S.e, vW S.f, vW S.g] rfl (copy_src hE) (copy_fit S) (copy_one S) ?_
      have hE2 := hE.setS (S8.row ⟨S.a, S.a, S.b, S.c, S.d, S.e, S.f, S.g⟩)
      clear hE
      change wpList _ _ _ _ _ (wr.setRow (N + 1 + 1 + 1) (S8.row ⟨S.a, S.a, S.b, S.c, S.d, S.e, S.f, S.g⟩))
      generalize wr.setRow (N + 1 + 1 + 1) (S8.row ⟨S.a, S.a, S.b, S.c, S.d, S.e, S.f, S.g⟩) = w5 at hE2 ⊢
      have hc4 := hE2.cellS 4 (vW S.d) rfl
      have hc0 := hE2.cellS 0 (vW S.a) rfl
      have hf4 := hE2.freeS 4
      have hf0 := hE2.freeS 0
      go_wp2
      clear hc4 hc0 hf4 hf0
      go_roundw
      case rel =>
        have hE3 := ((hE2.setSc 4 (Value.int IntKind.u32 (((S.d.toNat : Int) + t1raw S (K t) (Wt (words b) t)) % 4294967296))).setSc 0 (Value.int IntKind.u32 ((t1raw S (K t) (Wt (words b) t) + t2raw S) % 4294967296)))
        refine ⟨t + 1, by omega, by go_num, ?_⟩
        rw [show roundsS (Wt (words b)) s (t + 1) = stepS S (K t) (Wt (words b) t) from by rw [HS.out]; rfl, ← step_row]
        exact hE3
      case measure => simp [intOf]; omega
    · have hE : EnvR w.heap.size N w s.row z8 (wRow (Wt (words b)) 64) wr (roundsS (Wt (words b)) s 64).row := by
        have ht64 : t = 64 := by omega
        rw [ht64] at hE; exact hE
      obtain ⟨S, hS⟩ : ∃ S, S = roundsS (Wt (words b)) s 64 := ⟨_, rfl⟩
      have HS := Lib.hid hS
      rw [← hS] at hE
      clear hS
      go_wp2
      go_loopw [92] (fun i wr => ∃ t : Nat, t ≤ 8 ∧ i = .int .i64 t ∧ EnvR w.heap.size N w (addRow s S t) z8 (wRow (Wt (words b)) 64) wr S.row) (fun i _ => 8 - (intOf i).toNat)
      case atStart => exact ⟨0, by omega, rfl, by rw [addRow_zero]; exact hE⟩
      case round =>
        clear hE
        obtain ⟨t, ht, rfl, hE⟩ := hrel
        by_cases hlt : t < 8
        · have hc0 := hE.cell0 t _ (addRow_get s S t hlt)
          have hc5 := hE.cellS t _ (row_get S t hlt)
          have lt : 0 ≤ (t : Int) ∧ (t : Int) < 8 := by omega
          go_wp2
          refine wp_region_still_tail 8 (by kernel_rfl) (by kernel_rfl) ?_
          simp only [List.take_succ_cons, List.take_zero, List.drop_succ_cons, List.drop_zero]
          repeat (refine wpStill_step (fun K hK => ?_); go_simp; (try go_bits); (try (rw [if_pos (by omega)]; go_simp)); refine hK _ ?_; clear hK K)
          refine wpStill_nil ?_
          change wpList _ _ _ _ _ (wr.drewN 1)
          refine EnvR.go hE _ (fun w2 => wpList _ _ _ _ _ w2) ?_
          clear hc0 hc5 hE; intro wr hE
          have hc0 := hE.cell0 t _ (addRow_get s S t hlt)
          have hf := hE.free0 t
          go_wp2
          clear hc0 hf
          go_roundw
          case rel => exact ⟨t + 1, by omega, by go_num, by rw [← addRow_set s S t hlt]; rw [w_add]; exact hE.set0 t _⟩
          case measure => simp [intOf]; omega
        · have hE : EnvR w.heap.size N w (addS s S).row z8 (wRow (Wt (words b)) 64) wr S.row := by
            have ht8 : t = 8 := by omega
            rw [ht8, addRow_full] at hE; exact hE
          go_wp2_with (first | (with_reducible refine wpList_load_row rfl 52 _ rfl w.heap.size rfl 52 (addS s S).row (0, 0) _ hE.b0 Try.underlying52 rfl (by rw [S8.row_size]; exact Try.size52) ?_) | (with_reducible refine wpList_store_row rfl 52 _ _ rfl (w.heap.size + 1) (addS s S).row rfl rfl 52 z8 hE.b1 (by rw [S8.row_size]; exact Try.size52) (by rw [S8.row_size, z8_size]) (S8.row_all _) ?_))
          exact bodyPost_row rfl (w.heap.size + 1) 52 (addS s S).row _ rfl (setRow_heap _ _ _ _ _ _ hE.b1) Try.underlying52 rfl (by rw [S8.row_size]; exact Try.size52) ⟨by rw [HS.out]; rfl, hE.bel.trans ⟨rfl, rfl, rfl, by simp, fun k hk => setRow_other _ _ _ _ (by omega)⟩⟩
end Go.Proofs.Ytmcpobmmogeiiaa
