/-
  Arguments of type []Entry, opened; and a run of the evaluator with such an argument becomes a call.
-/
import Derived.Test.YtopkigockpiggaaGreatEvSeatBulk
import Derived.Test.YtopkigockpiggaaGreatEvSeatVolRecords
import Derived.Test.YtopkigockpiggaaGreatEvSeatVolAll
import Derived.OpenShut
import Derived.WideShapes
import Derived.ChangeArms
import Derived.ChangeMaps5
import Derived.SizedLaws
set_option maxRecDepth 100000
set_option linter.unusedVariables false
set_option linter.unusedSimpArgs false
open Go Go.Ev
namespace Go.Proofs.YtopkigockpiggaaGreat
open Go.RowKit Go.WideShapes Go.ChangeShapes
theorem und33 : Tryz.prog.underlying 33 = some (.struct #[{ name := "Key", type := 9, offset := 0, embedded := false, tag := "", pkgPath := "", byteOffset := 0 }, { name := "Value", type := 9, offset := 1, embedded := false, tag := "", pkgPath := "", byteOffset := 16 }, { name := "Gone", type := 4, offset := 2, embedded := false, tag := "", pkgPath := "", byteOffset := 32 }]) := by kernel_rfl
theorem und27 : Tryz.prog.underlying 27 = some (.slice 33) := by kernel_rfl
theorem und9 : Tryz.prog.underlying 9 = some .string := by kernel_rfl
theorem und4 : Tryz.prog.underlying 4 = some .bool := by kernel_rfl
theorem cells33 : Tryz.prog.cellsOf 33 = 3 := by kernel_rfl
theorem cells9 : Tryz.prog.cellsOf 9 = 1 := by kernel_rfl
theorem cells4 : Tryz.prog.cellsOf 4 = 1 := by kernel_rfl
theorem open33 {H : Type} {enc : TypeId × Value → H} {w : World} {base : Nat} {fuel : Nat} {cs : List Value} {x : DataW H × List MemPlace}
    (h : DataW.trod enc Tryz.prog w base (fun _ => true) true fuel 33 cs = some x) : ∃ e : Entr, cs = [.string ⟨⟨e.1⟩⟩, .string ⟨⟨e.2.1⟩⟩, .bool e.2.2] ∧ e.1.length + e.2.1.length + 4 ≤ Rows.uptoBulk x.1 := by
  obtain ⟨xs, n, _, rfl, hl, hx, hf⟩ := DataW.trod_struct und33 h
  rw [cells33] at hl
  match cs, hl with
  | [c0, c1, c2], _ =>
    match xs, hx with
    | [x0, x1, x2], _ =>
      have h0 : DataW.trod enc Tryz.prog w base (fun _ => true) true n 9 (([c0, c1, c2].drop 0).take (Tryz.prog.cellsOf 9)) = some x0 := hf 0 _ rfl
      have h1 : DataW.trod enc Tryz.prog w base (fun _ => true) true n 9 (([c0, c1, c2].drop 1).take (Tryz.prog.cellsOf 9)) = some x1 := hf 1 _ rfl
      have h2 : DataW.trod enc Tryz.prog w base (fun _ => true) true n 4 (([c0, c1, c2].drop 2).take (Tryz.prog.cellsOf 4)) = some x2 := hf 2 _ rfl
      rw [cells9] at h0 h1
      rw [cells4] at h2
      have h0 : DataW.trod enc Tryz.prog w base (fun _ => true) true n 9 [c0] = some x0 := h0
      have h1 : DataW.trod enc Tryz.prog w base (fun _ => true) true n 9 [c1] = some x1 := h1
      have h2 : DataW.trod enc Tryz.prog w base (fun _ => true) true n 4 [c2] = some x2 := h2
      obtain ⟨s0, e0, f0, _⟩ := DataW.trod_string und9 h0
      obtain ⟨s1, e1, f1, _⟩ := DataW.trod_string und9 h1
      obtain ⟨b2, e2, f2⟩ := DataW.trod_bool und4 h2
      cases e0; cases e1; cases e2
      refine ⟨(s0.data.toList, s1.data.toList, b2), rfl, ?_⟩
      subst f0; subst f1; subst f2
      simp only [List.map_cons, List.map_nil, Rows.uptoBulk, Rows.uptoBulkAll]
      omega
theorem add_mid (b o j : Nat) : (⟨b, o, none⟩ : Addr).add j = ⟨b, o + j, none⟩ := by unfold Addr.add; split <;> simp_all
/-- where entries lie. -/
noncomputable def ESrc (w : World) (b : Option Addr) (cap : Nat) (l : List Entr) : Prop :=
  l ≠ [] → ∃ k off c el fr, b = some ⟨k, off, none⟩ ∧ w.heap[k]? = some (.cells c el fr) ∧ off + cap * 3 ≤ c.size ∧ l.length ≤ cap ∧ cap ≤ 9223372036854775807 ∧ ∀ i, i < l.length * 3 → c[off + i]? = (cellsE l)[i]?
theorem bulk_size {H : Type} : ∀ (es : List Entr) (ds : List (DataW H)), es.length = ds.length → (∀ (i : Nat) (e : Entr) (d : DataW H), es[i]? = some e → ds[i]? = some d → e.1.length + e.2.1.length + 4 ≤ Rows.uptoBulk d) → sizeE es ≤ 7 * Rows.uptoBulkAll ds
  | [], _, _, _ => Nat.zero_le _
  | e :: es, [], hl, _ => by simp at hl
  | e :: es, d :: ds, hl, h => by
    have h0 := h 0 e d rfl rfl
    have ih := bulk_size es ds (by simpa using hl) (fun i e d he hd => h (i + 1) e d he hd)
    show e.1.length + e.2.1.length + 21 + sizeE es ≤ 7 * (Rows.uptoBulk d + Rows.uptoBulkAll ds)
    omega
theorem mapM_some_get {α β : Type} {f : α → Option β} : ∀ {l : List α} {r : List β}, l.mapM f = some r → ∀ (i : Nat) (x : α), l[i]? = some x → f x = r[i]?
  | [], r, h, i, x, hx => by simp at hx
  | a :: l, r, h, i, x, hx => by
    rw [List.mapM_cons] at h
    cases hfa : f a with
    | none => simp [hfa] at h
    | some b =>
      cases hm : l.mapM f with
      | none => simp [hfa, hm] at h
      | some r' =>
        simp [hfa, hm] at h
        subst h
        cases i with
        | zero => simp at hx; subst hx; simpa using hfa
        | succ i => simp at hx ⊢; exact mapM_some_get hm i x hx
theorem three_at {w : World} {base : Nat} {a : Addr} {cs : List Value} (h : w.cells? base a 3 = some cs) : ∀ j, j < 3 → w.cell? (a.add j) = cs[j]? := by
  intro j hj
  unfold World.cells? at h
  split at h
  · have : j = 0 ∨ j = 1 ∨ j = 2 := by omega
    rcases this with rfl | rfl | rfl
    · have h0 := mapM_some_get h 0 0 rfl
      exact h0
    · exact mapM_some_get h 1 1 rfl
    · exact mapM_some_get h 2 2 rfl
  · cases h
theorem open27 {H : Type} {enc : TypeId × Value → H} {w : World} {base : Nat} {fuel : Nat} {cs : List Value} {x : DataW H × List MemPlace}
    (h : DataW.trod enc Tryz.prog w base (fun _ => true) true fuel 27 cs = some x) : ∃ (b : Option Addr) (cap : Nat) (l : List Entr), cs = [.slice b l.length cap] ∧ ESrc w b cap l ∧ sizeE l ≤ 7 * Rows.uptoBulk x.1 ∧ l.length ≤ Rows.uptoBulk x.1 := by
  rcases DataW.trod_slice und27 h with ⟨rfl, rfl⟩ | ⟨a, len, cap, elems, rest, n, _, rfl, rfl, _, hlc, hcm, hel, hf, hsp, _⟩
  · exact ⟨none, 0, [], rfl, fun h => absurd rfl h, Nat.zero_le _, Nat.zero_le _⟩
  · rw [cells33] at hf hsp
    obtain ⟨hrl, hsp⟩ := hsp rfl
    have each : ∀ i : Fin len, ∃ e : Entr, w.cells? base (a.add (i.val * 3)) 3 = some [.string ⟨⟨e.1⟩⟩, .string ⟨⟨e.2.1⟩⟩, .bool e.2.2] ∧ ∀ y, elems[i.val]? = some y → e.1.length + e.2.1.length + 4 ≤ Rows.uptoBulk y.1 := by
      intro i
      have h1 := hf i.val i.isLt
      obtain ⟨y, hy⟩ : ∃ y, elems[i.val]? = some y := ⟨elems[i.val]'(by omega), List.getElem?_eq_getElem _⟩
      rw [hy, Option.bind_eq_some_iff] at h1
      obtain ⟨cs', hc, ht⟩ := h1
      obtain ⟨e, rfl, hl⟩ := open33 ht
      exact ⟨e, hc, fun y' hy' => by rw [hy] at hy'; cases hy'; exact hl⟩
    have hps : ∀ i e, (List.ofFn fun i : Fin len => Classical.choose (each i))[i]? = some e → w.cells? base (a.add (i * 3)) 3 = some [.string ⟨⟨e.1⟩⟩, .string ⟨⟨e.2.1⟩⟩, .bool e.2.2] ∧ ∀ y, elems[i]? = some y → e.1.length + e.2.1.length + 4 ≤ Rows.uptoBulk y.1 := by
      intro i e he
      rw [List.getElem?_ofFn] at he
      split at he
      · rename_i hi
        rw [← Option.some.inj he]
        exact Classical.choose_spec (each ⟨i, hi⟩)
      · cases he
    have hplen : (List.ofFn fun i : Fin len => Classical.choose (each i)).length = len := List.length_ofFn
    generalize (List.ofFn fun i : Fin len => Classical.choose (each i)) = l at hps hplen
    clear each
    subst hplen
    refine ⟨some a, cap, l, rfl, fun hne => ?_, ?_, ?_⟩
    · have hp : 0 < l.length := by cases l <;> simp_all
      have hc0 := three_at (hps 0 _ (List.getElem?_eq_getElem hp)).1 0 (by decide)
      obtain ⟨b, off, spot⟩ := a
      have hspot : spot = none := by
        have := World.cell?_spot hc0
        simpa [Addr.add] using this
      subst hspot
      have hcell : ∀ i j, i < l.length → j < 3 → w.cell? ⟨b, off + (i * 3 + j), none⟩ = (cellsE l)[i * 3 + j]? := by
        intro i j hi hj
        have h3 := three_at (hps i _ (List.getElem?_eq_getElem hi)).1 j hj
        rw [add_mid, add_mid, Nat.add_assoc] at h3
        rw [h3]
        obtain ⟨k0, k1, k2⟩ := cellsE_at (List.getElem?_eq_getElem hi)
        have : j = 0 ∨ j = 1 ∨ j = 2 := by omega
        rcases this with rfl | rfl | rfl
        · exact k0.symm
        · exact k1.symm
        · exact k2.symm
      have h00 := hcell 0 0 hp (by decide)
      have hlast : ∃ v, w.cell? ⟨b, off + ((cap - 1) * 3 + 2), none⟩ = some v := by
        by_cases e : cap = l.length
        · have h1 := hcell (cap - 1) 2 (by omega) (by decide)
          rw [h1]
          obtain ⟨_, _, k2⟩ := cellsE_at (List.getElem?_eq_getElem (show cap - 1 < l.length by omega))
          exact ⟨_, k2⟩
        · have h1 := hsp (cap - l.length - 1) (by omega)
          obtain ⟨y, hy⟩ : ∃ y, rest[cap - l.length - 1]? = some y := ⟨rest[cap - l.length - 1]'(by omega), List.getElem?_eq_getElem _⟩
          rw [hy, Option.bind_eq_some_iff] at h1
          obtain ⟨cs', hc, ht⟩ := h1
          obtain ⟨e, rfl, _⟩ := open33 ht
          have h3 := three_at hc 2 (by decide)
          rw [add_mid, add_mid] at h3
          have ee : off + (l.length + (cap - l.length - 1)) * 3 + 2 = off + ((cap - 1) * 3 + 2) := by omega
          rw [ee] at h3
          exact ⟨_, h3⟩
      cases hk : w.heap[b]? with
      | none =>
        obtain ⟨v, hv⟩ := hlast
        simp [World.cell?, hk] at hv
      | some o =>
        cases o with
        | cells c el fr =>
          refine ⟨b, off, c, el, fr, rfl, hk, ?_, hlc, by unfold maxLen at hcm; omega, fun i hi => ?_⟩
          · obtain ⟨v, hv⟩ := hlast
            simp only [World.cell?, hk] at hv
            have := (Array.getElem?_eq_some_iff.1 hv).1
            omega
          · have h1 := hcell (i / 3) (i % 3) (by omega) (Nat.mod_lt _ (by decide))
            have e3 : i / 3 * 3 + i % 3 = i := by omega
            rw [e3] at h1
            simpa [World.cell?, hk] using h1
        | _ =>
          obtain ⟨v, hv⟩ := hlast
          simp [World.cell?, hk] at hv
    · have hs := bulk_size l (elems.map (·.1)) (by simp [hel]) (fun i e d he hd => by
        rw [List.getElem?_map, Option.map_eq_some_iff] at hd
        obtain ⟨y, hy, rfl⟩ := hd
        exact (hps i e he).2 y hy)
      have h2 := bulks.slice_elems (elems.map (·.1)) (rest.map (·.1))
      show _ ≤ 7 * Rows.uptoBulk (.slice (elems.map (·.1)) (rest.map (·.1)))
      omega
    · have := bulks.slice_le (elems.map (·.1)) (rest.map (·.1))
      simp only [List.length_map] at this
      show _ ≤ Rows.uptoBulk (.slice (elems.map (·.1)) (rest.map (·.1)))
      omega
theorem openEntries {H : Type} {enc : TypeId × Value → H} {w w' : World} {r : Reach} {base base' : Nat} {v : Value} {d : DataW H} {p : List MemPlace}
    (hv : Value.okWide Tryz.prog w' r base' 27 v) (h : DataW.Trod enc Tryz.prog w base (fun _ => true) true 27 v d p) :
    ∃ (b : Option Addr) (cap : Nat) (l : List Entr), v = .slice b l.length cap ∧ ESrc w b cap l ∧ sizeE l ≤ 7 * Rows.uptoBulk d ∧ l.length ≤ Rows.uptoBulk d := by
  obtain ⟨a0, len0, cap0, rfl⟩ := okWide_slice und27 hv
  obtain ⟨fuel, hf⟩ := h
  obtain ⟨b, cap, l, hc, h1, h2, h3⟩ := open27 hf
  have : [Value.slice a0 len0 cap0] = [Value.slice b l.length cap] := hc
  simp only [List.cons.injEq, and_true] at this
  exact ⟨b, cap, l, this, h1, h2, h3⟩
theorem cells_flat (l : List Entr) (v : Value) (h : v ∈ cellsE l) : isFlat v = true := by
  simp only [cellsE, List.mem_flatMap] at h
  obtain ⟨e, _, hm⟩ := h
  simp only [List.mem_cons, List.mem_nil_iff, or_false] at hm
  rcases hm with rfl | rfl | rfl <;> rfl
/-- a run of the evaluator, in a world. -/
theorem runs_calls {P : Program} {B : Tab} (A : AllOK P B) {f : FuncId} {l : List Value} {v : Value} {h h' : Hp} (r : Runs B f l h v h') (hv : plainV v = true) {G : Ctx} {E : Env} {w : World} {l' : List Value} (hw : WR G E h.t w) (hf : Fresh G E h.next) (hl : LR E l l') (hG : G.w0 = w)
    (hfr : ∀ b, b < w.heap.size → G.fr b) : Calls P f ⟨l'⟩ w fun e w' => e = .returned v ∧ Below w.heap.size w w' := by
  obtain ⟨N, r⟩ := r
  have hq : enterK B (ev B N Value sameJ) f l h (fun v _ => .ok v) = .ok v := r N (Nat.le_refl _) Value sameJ _
  have := (enter_ok A.tab (ev_sound A.mixed A.tab A.ins A.memo A.tell A.rule N) sameJ_ok (r := v) hq hw hf hl (m := 0) (ro := none) (Rr := fun e w' => e = .returned v ∧ Below w.heap.size w w') (by
    intro u h' E' v' w' hu hle hf hw' hv'
    cases hu
    exact ⟨congrArg Ending.returned (hv'.plain_inv hv), hw'.below hG hfr⟩)).2
  exact callsIn_wide.1 this
theorem records_any (s : ByteArray) (b : Option Addr) (cap : Nat) (l : List Entr) (w : World) (hs : s.data.toList.length < 1073741824) (hsrc : ESrc w b cap l) (hnb : l.length ≤ 1073741824) (hsz : sizeE l ≤ 1073741824) :
    Calls Tryz.prog 4 #[.string s, .slice b l.length cap] w fun e w' => e = .returned (.bool true) ∧ Below w.heap.size w w' := by
  obtain ⟨⟨s⟩⟩ := s
  by_cases hl : l = []
  · subst hl
    obtain ⟨h', r⟩ := records_does (s := s) (x := vague) (l := []) (h := ⟨.nil, 0⟩) hs ⟨_, _, rfl, fun h => absurd rfl h⟩ hnb hsz
    exact runs_calls ok2 r rfl (WR.begin w) ⟨fun _ _ => rfl, fun k hk => hk.elim⟩ (.cons (.flat rfl) (.cons .vague (LR.nil _))) rfl (fun b hb => hb)
  · obtain ⟨k, off, c, el, fr, rfl, hk, hcs, hlc, hcM, hc⟩ := hsrc hl
    have hp : 0 < l.length := by cases l <;> simp_all
    let en : Ent := ⟨k, off, cap, hcM⟩
    let E0 : Env := fun j => if j = 0 then some en else none
    let tr : T Value := putL (cellsE l) 0 .nil
    let blk : Blk := .cells (l.length * 3) el 3 false false undef tr
    let h0 : Hp := ⟨.node .nil (some blk) .nil, 1⟩
    let G : Ctx := ⟨w, fun b => b < w.heap.size, fun b => b = k, fun b hb => by subst hb; exact (Array.getElem?_eq_some_iff.1 hk).1, fun _ => False⟩
    have hfind : h0.t.find 0 = some blk := rfl
    have hrow := putL_row (cellsE_length l)
    have hsp : Span h0 (.slice (some ⟨0, 0, none⟩) l.length TOP) 3 l.length (cellsE l) :=
      ⟨cellsE_length l, .inr ⟨0, 0, TOP, l.length * 3, el, false, false, undef, tr, rfl, Nat.zero_lt_one, hfind, by omega, fun i hi => by rw [Nat.zero_add]; exact hrow i hi⟩⟩
    obtain ⟨h', r⟩ := records_does (s := s) (x := .slice (some ⟨0, 0, none⟩) l.length TOP) (l := l) (h := h0) hs ⟨_, _, rfl, fun _ => ⟨0, 0, rfl, Nat.zero_lt_one, hsp⟩⟩ hnb hsz
    have hE : E0 0 = some en := rfl
    have h0k : ∀ j C, h0.t.find j = some C → j = 0 ∧ C = blk := by
      intro j C hj
      have hj : (T.node .nil (some blk) .nil).find j = some C := hj
      cases j with
      | zero => rw [T.find_zero] at hj; cases hj; exact ⟨rfl, rfl⟩
      | succ j => rw [T.find_succ] at hj; split at hj <;> cases hj
    have hw : WR G E0 h0.t w := by
      refine ⟨fun j C hj => ?_, fun i j C D e f hi hj he hf hef => ?_, rfl, rfl, rfl, fun b hb => ⟨hb, rfl⟩, Nat.le_refl _⟩
      · obtain ⟨rfl, rfl⟩ := h0k j C hj
        refine ⟨en, rfl, ⟨c, fr, hk, fun i hi => ?_, hcs, fun x => (by cases x), fun x => (by cases x), fun i hi => ?_⟩, fun x => (by cases x), fun _ => rfl⟩
        · have hv := hrow i hi
          refine ⟨blkGet undef tr i, by show c[off + i]? = _; rw [hc i hi, hv], ?_⟩
          exact .flat (cells_flat l _ (List.mem_of_getElem? hv))
        · have hv := hrow i hi
          exact List.all_eq_true.1 (cellsE_ok l) _ (List.mem_of_getElem? hv)
      · obtain ⟨rfl, _⟩ := h0k i C hi
        obtain ⟨rfl, _⟩ := h0k j D hj
        rfl
    have hfresh : Fresh G E0 1 := ⟨fun j hj => by show (if j = 0 then some en else none) = none; rw [if_neg (by omega)], fun j hj => hj.elim⟩
    exact runs_calls ok2 r rfl hw hfresh (.cons (.flat rfl) (.cons (VR.sl (k := 0) (o := 0) hE (Or.inr ⟨by decide, rfl⟩) hlc) (LR.nil _))) rfl (fun b hb => hb)
end Go.Proofs.YtopkigockpiggaaGreat
