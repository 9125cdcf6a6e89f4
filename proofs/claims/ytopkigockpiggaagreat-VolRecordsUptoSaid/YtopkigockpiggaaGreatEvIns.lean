/-
  The rule for slices.Insert, at []string: by the kit's four contracts.
-/
import Derived.Test.YtopkigockpiggaaGreatEvEv
import Derived.Shelf.Spec.SlicesInsertGrow
set_option linter.unusedVariables false
set_option linter.unusedSimpArgs false
namespace Go.Ev
open Go.Proofs Go.Shelf
section
variable {R : Type} {P : Program} {B : Tab} {r : R}
theorem WR.congr {G : Ctx} {E : Env} {t : T Blk} {w w' : World} (h : WR G E t w) (h0 : w'.heap = w.heap) (h1 : w'.os = w.os) (h2 : w'.tape = w.tape) (h3 : w'.output = w.output) : WR G E t w' :=
  ⟨fun k B hk => by rw [h0]; exact h.blk k B hk, h.inj, h1.trans h.os, h2.trans h.tape, h3.trans h.output, fun b hb => by rw [h0]; exact h.keep b hb, by rw [h0]; exact h.size⟩
theorem push_of {α : Type} {a b : Array α} {x : α} (hs : b.size = a.size + 1) (h1 : ∀ j, j < a.size → b[j]? = a[j]?) (h2 : b[a.size]? = some x) : b = a.push x := by
  apply Array.ext
  · simp [hs]
  · intro i hi hi'
    rw [Array.getElem_push]
    split
    · rename_i hlt
      have := h1 i hlt
      rw [Array.getElem?_eq_getElem hi, Array.getElem?_eq_getElem hlt] at this
      exact Option.some.inj this
    · rename_i hge
      have : i = a.size := by omega
      subst this
      rw [Array.getElem?_eq_getElem hi] at h2
      exact Option.some.inj h2
/-- a new row, in whatever way it came to be. -/
theorem WR.newRow {G : Ctx} {E : Env} {t : T Blk} {w w' : World} (r : WR G E t w) {k : Nat} (hk : E k = none) {n elem esz : Nat} {pl : Bool} {tr : T Value} {row : Array Value} (en : Ent) (hen : en.b = w.heap.size) (heo : en.o = 0)
    (hs : w'.heap.size = w.heap.size + 1) (h1 : ∀ j, j < w.heap.size → w'.heap[j]? = w.heap[j]?) (h2 : w'.heap[w.heap.size]? = some (.cells row elem (0, 0)))
    (hc : ∀ i, i < n → ∃ v', row[i]? = some v' ∧ VR E (blkGet undef tr i) v') (hcap : en.cap * esz ≤ row.size) (hok : okB n undef tr) (g1 : w'.os = w.os) (g2 : w'.tape = w.tape) (g3 : w'.output = w.output) :
    WR G (E.set k en) (t.put k (some (.cells n elem esz true pl undef tr))) w' := by
  have hle := Env.le_set (e := en) hk
  refine (r.new k hk (.cells n elem esz true pl undef tr) rfl en (.cells row elem (0, 0)) hen ⟨row, (0, 0), rfl, fun i hi => ?_, by rw [heo]; omega, fun _ => Or.inl rfl, fun _ => rfl, hok⟩).congr (push_of hs h1 h2) g1 g2 g3
  obtain ⟨v', a, b⟩ := hc i hi
  exact ⟨v', by rw [heo, Nat.zero_add]; exact a, b.mono hle⟩
theorem row_cells {G : Ctx} {E : Env} {t : T Blk} {w : World} (hw : WR G E t w) {k off n m el ez cap : Nat} {mu pl : Bool} {d : Value} {tr : T Value} {l : List Value} {en : Ent} (hk : t.find k = some (.cells m el ez mu pl d tr)) (hen : E k = some en)
    (hm : off + n ≤ m) (hl : l.length = n) (hg : ∀ j : Nat, j < n → l[j]? = some (blkGet d tr (off + j))) :
    ∃ l' : List Value, LR E l l' ∧ l'.length = n ∧ ∀ (j : Nat) (v : Value), l'[j]? = some v → w.cell? ⟨en.b, en.o + off + j, none⟩ = some v := by
  obtain ⟨f, hf, hb, _⟩ := hw.blk k _ hk
  rw [hen] at hf; cases hf
  obtain ⟨l', h1, h2, h3⟩ := hb.cells_list n off hm
  refine ⟨l', ⟨by omega, fun j v v' x y => ?_⟩, h1, h2⟩
  have hj : j < n := by rw [← h1]; exact (List.getElem?_eq_some_iff.1 y).1
  rw [hg j hj] at x; cases x
  exact h3 j v' y
theorem ones {E : Env} {l l' : List Value} (h : LR E l l') (hc : ∀ v ∈ l, cellOk v = true) : ∀ v ∈ l', v.oneCell' = true := by
  intro v' hv'
  obtain ⟨i, hi⟩ := List.mem_iff_getElem?.1 hv'
  have hil : i < l.length := by rw [h.1]; exact (List.getElem?_eq_some_iff.1 hi).1
  exact cellOk_one (h.2 i _ _ (List.getElem?_eq_getElem hil) hi) (hc _ (List.getElem_mem hil))
theorem push_facts {w w' : World} {o : Obj} (h : w'.heap = w.heap.push o) : w'.heap.size = w.heap.size + 1 ∧ (∀ j, j < w.heap.size → w'.heap[j]? = w.heap[j]?) ∧ w'.heap[w.heap.size]? = some o := by
  rw [h]
  exact ⟨by simp, fun j hj => by rw [Array.getElem?_push, if_neg (Nat.ne_of_lt hj)], by simp⟩
/-- what has been put in. -/
noncomputable def insd (cs vs : List Value) (i : Nat) : List Value := cs.take i ++ (vs ++ cs.drop i)
theorem insd_get (cs vs : List Value) (i j : Nat) (hi : i ≤ cs.length) : (insd cs vs i)[j]? = if j < i then cs[j]? else if j < i + vs.length then vs[j - i]? else cs[j - vs.length]? := by
  unfold insd
  have h1 : (cs.take i).length = i := by rw [List.length_take]; omega
  split
  · rename_i h
    rw [List.getElem?_append_left (by omega), List.getElem?_take, if_pos h]
  · rename_i h
    rw [List.getElem?_append_right (by omega), h1]
    split
    · rename_i h2
      rw [List.getElem?_append_left (by omega)]
    · rename_i h2
      rw [List.getElem?_append_right (by omega), List.getElem?_drop]
      congr 1
      omega
theorem ins_string (hB : TabOK P B) {ρ : Ren} (L : Lays2.n22 P ρ) {s i v : Value} {h : Hp} {c : Value → Hp → An R} (hq : insertK B (ρ.t 24) s i v h c = .ok r) :
    ∃ u h', c u h' = .ok r ∧ ∀ G E w s' i' v', WR G E h.t w → Fresh G E h.next → VR E s s' → VR E i i' → VR E v v' →
      Calls P (ρ.f 22) #[s', i', v'] w fun e w' => ∃ E' u', e = .returned u' ∧ E.le E' ∧ Fresh G E' h'.next ∧ WR G E' h'.t w' ∧ VR E' u u' := by
  unfold insertK at hq
  replace hq := und_ok hB hq
  obtain ⟨ds, hu, hq⟩ := hq
  rw [L.t24] at hu
  injection hu with hu
  subst hu
  simp only at hq
  replace hq := info_ok hB hq
  obtain ⟨e, he, hq⟩ := hq
  split at hq
  case h_2 => exact absurd hq no_ok
  rename_i i
  split at hq
  case h_2 => exact absurd hq no_ok
  rename_i base len cap kv ov m cv
  split at hq
  case h_2 => exact absurd hq no_ok
  rename_i vn vel vez vmu vd vtr hkv
  split at hq
  case h_2 => exact absurd hq no_ok
  rename_i hm0 hchk
  have hm : 0 < m := by
    rcases Nat.eq_zero_or_pos m with x | x
    · subst x; cases hm0
    · exact x
  simp only [Bool.and_eq_true] at hchk
  obtain ⟨⟨hi1, hi2⟩, hi3⟩ := hchk
  have hil : i ≤ len := Nat.le_of_ble_eq_true hi1
  have hneed : len + m ≤ 1073741824 := Nat.le_of_ble_eq_true hi2
  have hsz : e.size = 1 := Nat.eq_of_beq_eq_true hi3
  obtain ⟨new, hq2, hnl, hncells, _⟩ := firstK_cells (P := P) hq
  clear hq
  have hq := hq2
  clear hq2
  rw [hsz, Nat.mul_one] at hnl hncells
  have hnb : ov + m ≤ vn ∧ ∀ j : Nat, j < m → new[j]? = some (blkGet vd vtr (ov + j)) := by
    rcases hncells with x | ⟨m2, el2, ez2, ti2, pl2, d2, tr2, hk2, hm2, hg2⟩
    · omega
    · rw [hkv] at hk2; cases hk2
      exact ⟨hm2, hg2⟩
  obtain ⟨hvn, hgv⟩ := hnb
  -- the argument that is put in
  have hv : ∀ {G E w v'}, WR G E h.t w → VR E (.slice (some ⟨kv, ov, none⟩) m cv) v' → ∃ (ev : Ent) (cv' : Nat) (vs : List Value) (vc : Array Value), E kv = some ev ∧ v' = .slice (some ⟨ev.b, ev.o + ov, none⟩) m cv' ∧ LR E new vs ∧ vs.length = m ∧
      (∀ (j : Nat) (x : Value), vs[j]? = some x → w.cell? ⟨ev.b, ev.o + ov + j, none⟩ = some x) ∧ w.heap[ev.b]? = some (.cells vc vel (0, 0)) := by
    intro G E w v' hw hx
    obtain ⟨ev, cv', hev, _, _, rfl⟩ := hx.inv_sl
    obtain ⟨vs, a1, a2, a3⟩ := row_cells (cap := 0) hw hkv hev hvn hnl hgv
    obtain ⟨f, hf, hb, _⟩ := hw.blk kv _ hkv
    rw [hev] at hf; cases hf
    obtain ⟨vc, fr, b1, _, _, _, b5⟩ := hb
    rw [b5.1 rfl] at b1
    exact ⟨ev, cv', vs, vc, hev, rfl, a1, a2, a3, b1⟩
  have hbig : (len + m) * 16 ≤ 140737488355328 := by omega
  have hbig2 : len + m ≤ maxLen := by unfold maxLen; omega
  -- a row that has grown
  have grew : ∀ {G E w w'} {rest : List Value} {tr : T Value} {pl : Bool} {old cs vs : List Value} {row : Array Value} {cap' : Nat}, WR G E h.t w → Fresh G E h.next → LR E old cs → cs.length = len → LR E new vs → vs.length = m →
      (∀ (d : Value) (i' : Nat), blkGet d tr i' = if 0 ≤ i' ∧ i' < 0 + (old.take i ++ (new ++ old.drop i)).length then (old.take i ++ (new ++ old.drop i)).getD (i' - 0) d else blkGet d .nil i') → (∀ v ∈ old.take i ++ (new ++ old.drop i), cellOk v = true) →
      w'.heap.size = w.heap.size + 1 → (∀ j, j < w.heap.size → w'.heap[j]? = w.heap[j]?) → w'.heap[w.heap.size]? = some (.cells row (ρ.t 9) (0, 0)) →
      (∀ j, j < len + m → row[j]? = (insd cs vs i)[j]?) → len + m ≤ cap' → cap' ≤ 9223372036854775807 → cap' ≤ row.size → w'.os = w.os → w'.tape = w.tape → w'.output = w.output →
      ∃ E', E.le E' ∧ Fresh G E' (h.next + 1) ∧ WR G E' (h.t.put h.next (some (.cells (old.take i ++ (new ++ old.drop i)).length (ρ.t 9) e.size true pl undef tr))) w' ∧
        VR E' (.slice (some ⟨h.next, 0, none⟩) (len + m) TOP) (.slice (some ⟨w.heap.size, 0, none⟩) (len + m) cap') := by
    intro G E w w' rest tr pl old cs vs row cap' hw hfr hlo hlc hln hlv htr hokk k1 k2 k3 k4 k5 k6 k7 k8 k9 k10
    have hEn : E h.next = none := hfr.at
    have hL : LR E (insd old new i) (insd cs vs i) := (hlo.take i).append (hln.append (hlo.drop i))
    have hlen : (insd old new i).length = len + m := by
      unfold insd
      rw [List.length_append, List.length_append, List.length_take, List.length_drop, hlo.1, hlc, hln.1, hlv]
      omega
    let en : Ent := ⟨w.heap.size, 0, cap', k6⟩
    refine ⟨E.set h.next en, Env.le_set hEn, hfr.next en, ?_, VR.sl (k := h.next) (o := 0) (Env.set_self _ _ _) (Or.inr ⟨by decide, rfl⟩) k5⟩
    refine hw.newRow hEn en rfl rfl k1 k2 k3 (fun j hj => ?_) (by rw [hsz, Nat.mul_one]; exact k7) (okB_new hokk (Nat.le_refl _) htr) k8 k9 k10
    have hj' : j < (insd old new i).length := hj
    have hj2 : j < (insd cs vs i).length := by rw [← hL.1]; exact hj'
    refine ⟨(insd cs vs i)[j], ?_, ?_⟩
    · rw [k4 j (by omega)]; exact List.getElem?_eq_getElem hj2
    · rw [htr, if_pos (by omega), Nat.sub_zero, List.getD_eq_getElem?_getD]
      show VR E (((insd old new i)[j]?).getD undef) _
      rw [List.getElem?_eq_getElem hj']
      exact hL.2 j _ _ (List.getElem?_eq_getElem hj') (List.getElem?_eq_getElem hj2)
  cases base with
  | none =>
    simp only [firstK] at hq
    split at hq
    case h_2 => exact absurd hq no_ok
    rename_i hl0
    have hl0 := Nat.eq_of_beq_eq_true hl0
    subst hl0
    rw [fL_eq, fL_eq, fN_eq, fL_eq] at hq
    split at hq
    case h_2 hx => cases hx
    case h_3 => exact absurd hq no_ok
    obtain ⟨tr, htr, hok, hq⟩ := grownK_ok hq
    refine ⟨_, _, hq, fun G E w s' i' v' hw hfr hs hi hx => ?_⟩
    have hi0 : i = 0 := by omega
    subst hi0
    obtain rfl := hs.inv_slnil
    obtain rfl := hi.inv_int
    obtain ⟨ev, cv', vs, vc, hev, rfl, hln, hlv, hvs, hvb⟩ := hv hw hx
    have h1v := ones hln (fun x hx => hok x (by simp [hx]))
    refine (Any2.slices_Insert_string_end_grow L none 0 0 ev.b (ev.o + ov) m cv' [] vs w hm (Nat.le_refl _) (by omega) hbig rfl hlv (fun _ => rfl) (fun a ha => by cases ha) hvs h1v).mono ?_
    rintro e1 w' ⟨rfl, rfl⟩
    have hG := grownCap_ge w (0 + m) 0 (ρ.t 9)
    obtain ⟨f1, f2, f3⟩ := push_facts (w := w) (w' := w.drew.alloc (.cells (([] ++ vs).toArray ++ Builtin.zeroCells (Value.string ⟨#[]⟩).cells (grownCap w (0 + m) 0 (ρ.t 9) - (0 + m))) (ρ.t 9))) rfl
    obtain ⟨E', b1, b2, b3, b4⟩ := grew (rest := []) (pl := true) (old := []) (cs := []) (cap' := grownCap w (0 + m) 0 (ρ.t 9)) hw hfr (LR.nil E) rfl hln hlv htr hok f1 f2 f3
      (fun j hj => by
        rw [insd_get _ _ _ _ (Nat.zero_le _), if_neg (by omega), if_pos (by omega), Array.getElem?_append_left (by simp; omega)]
        simp) hG (by have := grownCap_le_maxLen w (0 + m) 0 (ρ.t 9) hbig2; exact this) (by simp [Builtin.zeroCells, Value.cells]; omega) rfl rfl rfl
    exact ⟨E', _, rfl, b1, b2, b3, b4⟩
  | some a =>
    obtain ⟨k, off, sp⟩ := a
    cases sp with
    | some sp =>
      obtain ⟨old, hq2, _, _⟩ := firstK_ok (P := P) hq
      rw [fL_eq, fL_eq, fN_eq, fL_eq] at hq2
      exact absurd hq2 no_ok
    | none =>
      obtain ⟨old, hq2, hol, hocells, _⟩ := firstK_cells (P := P) hq
      clear hq
      have hq := hq2
      clear hq2
      rw [hsz, Nat.mul_one] at hol hocells
      rw [fL_eq, fL_eq, fN_eq, fL_eq] at hq
      simp only at hq
      split at hq
      case h_2 => exact absurd hq no_ok
      rename_i kn kel kez kpl kd ktr hk
      split at hq
      case h_2 => exact absurd hq no_ok
      rename_i hne hroom
      have hkne : kv ≠ k := fun x => by subst x; rw [Nat.beq_refl] at hne; cases hne
      rw [Bool.and_eq_true, Bool.and_eq_true] at hroom
      obtain ⟨⟨hr1, hr2⟩, hr3⟩ := hroom
      have hel := Nat.eq_of_beq_eq_true hr1
      have hez := Nat.eq_of_beq_eq_true hr2
      subst hel
      obtain ⟨tr, htr, hok, hq2⟩ := grownK_ok hq
      clear hq
      have hq := hq2
      clear hq2
      rw [T.putK_eq] at hq
      refine ⟨_, _, hq, fun G E w s' i' v' hw hfr hs hi hx => ?_⟩
      obtain ⟨en, c', hen, hcr, hlc, rfl⟩ := hs.inv_sl
      obtain rfl := hi.inv_int
      obtain ⟨ev, cv', vs, vc, hev, rfl, hln, hlv, hvs, hvb⟩ := hv hw hx
      obtain ⟨f, hf', hb, hnf⟩ := hw.blk k _ hk
      rw [hen] at hf'; cases hf'
      obtain ⟨kc, fr, g1, g2, g3, g4, g5⟩ := hb
      rw [hez, hsz, Nat.mul_one] at g3
      have h1v := ones hln (fun x hx => hok x (by simp [hx]))
      -- what stands there
      have hcs : ∃ cs : List Value, LR E old cs ∧ cs.length = len ∧ ∀ (j : Nat) (x : Value), cs[j]? = some x → w.cell? ⟨en.b, en.o + off + j, none⟩ = some x := by
        rcases hocells with h0 | ⟨m2, el2, ez2, ti2, pl2, d2, tr2, hk2, hm2, hg2⟩
        · subst h0
          have : old = [] := List.eq_nil_of_length_eq_zero hol
          subst this
          exact ⟨[], LR.nil E, rfl, fun j x hx => by simp at hx⟩
        · rw [hk] at hk2; cases hk2
          exact row_cells (cap := 0) hw hk hen hm2 hol hg2
      obtain ⟨cs, hlo, hlcs, hcs⟩ := hcs
      have h1c : ∀ v ∈ cs, v.oneCell' = true := ones hlo (fun x hx => hok x (by
        have h2 : x ∈ old.take i ∨ x ∈ old.drop i := by
          rw [← List.mem_append, List.take_append_drop]; exact hx
        rcases h2 with h2 | h2 <;> simp [h2]))
      have hbne : ev.b ≠ en.b := fun x => hkne (hw.inj kv k _ _ ev en hkv hk hev hen x)
      -- the capacity
      have hc63 : c' ≤ 9223372036854775807 := by
        have := en.hcap
        unfold insRoom at hr3
        split at hr3
        · rename_i hlt
          have hlt : cap < 4611686018427387904 := Nat.le_of_ble_eq_true hlt
          rcases hcr with ⟨_, h⟩ | ⟨h, _⟩ <;> omega
        · rename_i hlt
          rw [Bool.and_eq_true] at hr3
          have h1 : cap ≤ TOP := Nat.le_of_ble_eq_true hr3.1
          rcases hcr with ⟨h, h2⟩ | ⟨_, h⟩
          · omega
          · omega
      have hsp0 : len + m ≤ c' → en.o + off + c' ≤ kc.size := fun hge => by
        unfold insRoom at hr3
        split at hr3
        · rename_i hlt
          have hlt : cap < 4611686018427387904 := Nat.le_of_ble_eq_true hlt
          have hcc : c' = cap := by rcases hcr with ⟨_, h⟩ | ⟨h, _⟩ <;> omega
          rw [Bool.and_eq_true, Bool.or_eq_true] at hr3
          rcases hr3.2 with h | h
          · have : cap < len + m := Nat.le_of_ble_eq_true h
            omega
          · have h : off + cap * e.size ≤ kn := Nat.le_of_ble_eq_true h
            rw [hsz, Nat.mul_one] at h
            obtain ⟨x, hx, _⟩ := g2 (off + cap - 1) (by omega)
            have := (Array.getElem?_eq_some_iff.1 hx).1
            omega
        · rename_i hlt
          have hlt : ¬ (cap < 4611686018427387904) := fun x => by
            have : Nat.blt cap 4611686018427387904 = true := Nat.ble_eq_true_of_le x
            rw [this] at hlt; cases hlt
          rw [Bool.and_eq_true] at hr3
          have h1 : cap ≤ TOP := Nat.le_of_ble_eq_true hr3.1
          have h2 : off = (TOP - cap) * e.size := Nat.eq_of_beq_eq_true hr3.2
          rw [hsz, Nat.mul_one] at h2
          have h3 : c' + TOP = en.cap + cap := by rcases hcr with ⟨h, _⟩ | ⟨_, h⟩; omega; exact h
          omega
      have hsp : len + m ≤ c' → ∀ j, j < len + m → (w.cell? ⟨en.b, en.o + off + j, none⟩).isSome = true := fun hge j hj => by
        have := hsp0 hge
        have hlt : en.o + off + j < kc.size := by omega
        simp [World.cell?, g1, hlt]
      have hfz : len + m ≤ c' → ∀ j, j < len + m → w.frozen? ⟨en.b, en.o + off + j, none⟩ = false := fun hge j hj => by
        have := hsp0 hge
        have hlt : en.o + off + j < kc.size := by omega
        simp only [World.frozen?, g1]
        rcases g4 rfl with g4 | g4 <;> subst g4 <;> simp <;> omega
      have hiw : i ≤ cs.length := by omega
      -- in place
      have inPlace : ∀ {w'}, len + m ≤ c' → w'.heap.size = w.heap.size → (∀ j, j ≠ en.b → w'.heap[j]? = w.heap[j]?) → (∃ row, w'.heap[en.b]? = some (.cells row (ρ.t 9) fr) ∧ row.size = kc.size ∧ ∀ j, j < len + m → row[en.o + off + j]? = (insd cs vs i)[j]?) →
          w'.os = w.os → w'.tape = w.tape → w'.output = w.output →
          ∃ E', E.le E' ∧ Fresh G E' (h.next + 1) ∧ WR G E' ((h.t.put h.next (some (.cells (old.take i ++ (new ++ old.drop i)).length (ρ.t 9) e.size true false undef tr))).put k none) w' ∧
            VR E' (.slice (some ⟨h.next, 0, none⟩) (len + m) TOP) (.slice (some ⟨en.b, en.o + off, none⟩) (len + m) c') := by
        intro w' hge k1 k2 ⟨row, k3, k4, k5⟩ k6 k7 k8
        have hX : E h.next = none := hfr.at
        let en' : Ent := ⟨en.b, en.o + off, c', hc63⟩
        have hle := Env.le_set (e := en') hX
        have hL : LR E (insd old new i) (insd cs vs i) := (hlo.take i).append (hln.append (hlo.drop i))
        have hlen : (insd old new i).length = len + m := by
          unfold insd
          rw [List.length_append, List.length_append, List.length_take, List.length_drop, hlo.1, hlcs, hln.1, hlv]
          omega
        refine ⟨E.set h.next en', hle, hfr.next en', ?_, VR.sl (k := h.next) (o := 0) (Env.set_self _ _ _) (Or.inr ⟨by decide, rfl⟩) hge⟩
        refine hw.rename hk hen rfl hX _ rfl en' rfl k1 k2 ?_ k6 k7 k8
        refine ⟨row, fr, k3, fun j hj => ?_, by rw [k4, hsz, Nat.mul_one]; exact hsp0 hge, by rw [k4]; exact g4, fun x => (by cases x), okB_new hok (Nat.le_refl _) htr⟩
        have hj' : j < (insd old new i).length := hj
        have hj2 : j < (insd cs vs i).length := by rw [← hL.1]; exact hj'
        refine ⟨(insd cs vs i)[j], ?_, ?_⟩
        · show row[en.o + off + j]? = _
          rw [k5 j (by omega)]; exact List.getElem?_eq_getElem hj2
        · rw [htr, if_pos (by omega), Nat.sub_zero, List.getD_eq_getElem?_getD]
          show VR _ (((insd old new i)[j]?).getD undef) _
          rw [List.getElem?_eq_getElem hj']
          exact (hL.2 j _ _ (List.getElem?_eq_getElem hj') (List.getElem?_eq_getElem hj2)).mono hle
      have hshb : w.shape? en.b = some (ρ.t 9, kc.size) := by simp [World.shape?, g1]
      have hshv : w.shape? ev.b = some (vel, vc.size) := by simp [World.shape?, hvb]
      have hfa : ∀ o, w.frozen? ⟨ev.b, o, none⟩ = false := fun o => by simp [World.frozen?, hvb]
      have hcsx : ∀ (j : Nat), j < len → kc[en.o + off + j]? = cs[j]? := fun j hj => by
        have h2 := hcs j cs[j] (List.getElem?_eq_getElem (by omega))
        simp only [World.cell?, g1] at h2
        rw [List.getElem?_eq_getElem (by omega : j < cs.length)]
        exact h2
      rcases Nat.lt_or_ge c' (len + m) with hlt | hge
      · -- a new row
        rcases Nat.lt_or_ge i len with hil2 | hil2
        · refine (Any2.slices_Insert_string_grow L en.b (en.o + off) len c' i ev.b (ev.o + ov) m cv' cs vs w hil2 hm hlc hlt hbig hlcs hlv hcs hvs h1c h1v).mono ?_
          rintro e1 w' ⟨rfl, rfl⟩
          have hG := grownCap_ge w (len + m) c' (ρ.t 9)
          obtain ⟨ROW, hROW⟩ : ∃ ROW : Array Value, ROW = (cs.take i).toArray ++ Builtin.zeroCells (Value.string ⟨#[]⟩).cells (len + m - i) ++ Builtin.zeroCells (Value.string ⟨#[]⟩).cells (grownCap w (len + m) c' (ρ.t 9) - (len + m)) := ⟨_, rfl⟩
          rw [← hROW]
          have hRs : ROW.size = grownCap w (len + m) c' (ρ.t 9) := by
            rw [hROW]; simp [Builtin.zeroCells, Value.cells, List.length_take]; omega
          have hRg : ∀ j, j < i → ROW[j]? = cs[j]? := fun j hj => by
            rw [hROW, Array.getElem?_append_left (by simp [List.length_take, Builtin.zeroCells, Value.cells]; omega), Array.getElem?_append_left (by simp [List.length_take]; omega)]
            simp [List.getElem?_take, hj]
          obtain ⟨f1, f2, f3⟩ := push_facts (w := w) (w' := (w.alloc (.cells ROW (ρ.t 9))).drew) rfl
          obtain ⟨a1, a2, a3, a4, a5, a6⟩ := setCells_heap w.heap.size vs i (w.alloc (.cells ROW (ρ.t 9))).drew ROW _ (0, 0) f3
          obtain ⟨c1, c2, c3, c4, c5, c6⟩ := setCells_heap w.heap.size (cs.drop i) (i + m) ((w.alloc (.cells ROW (ρ.t 9))).drew.setCells w.heap.size i vs).drew _ _ (0, 0) a1
          obtain ⟨E', b1, b2, b3, b4⟩ := grew (rest := []) (pl := false) (cap' := grownCap w (len + m) c' (ρ.t 9)) hw hfr hlo hlcs hln hlv htr hok (c3.trans (a3.trans f1)) (fun j hj => (c2 j (Nat.ne_of_lt hj)).trans ((a2 j (Nat.ne_of_lt hj)).trans (f2 j hj))) c1
            (fun j hj => by
              rw [setRun_get _ _ _ _ (by rw [setRun_size, hRs, List.length_drop]; omega), setRun_get _ _ _ _ (by omega), insd_get _ _ _ _ hiw, List.length_drop]
              by_cases h1 : j < i
              · rw [if_neg (by omega), if_neg (by omega), if_pos h1, hRg j h1]
              · rw [if_neg h1]
                by_cases h2 : j < i + vs.length
                · rw [if_neg (by omega), if_pos (by omega), if_pos h2]
                · rw [if_pos (by omega), if_neg h2, List.getElem?_drop]
                  congr 1; omega)
            hG (by have := grownCap_le_maxLen w (len + m) c' (ρ.t 9) hbig2; exact this) (by rw [setRun_size, setRun_size, hRs]; exact Nat.le_refl _) (c4.trans a4) (c5.trans a5) (c6.trans a6)
          exact ⟨E', _, rfl, b1, b2, b3.kill k, b4⟩
        · have : i = len := by omega
          subst this
          refine (Any2.slices_Insert_string_end_grow L _ i c' ev.b (ev.o + ov) m cv' cs vs w hm hlc hlt hbig hlcs hlv (fun h => by cases h) (fun a ha => by cases ha; intro j x hx; rw [add_none]; exact hcs j x hx) hvs h1v).mono ?_
          rintro e1 w' ⟨rfl, rfl⟩
          have hG := grownCap_ge w (i + m) c' (ρ.t 9)
          obtain ⟨f1, f2, f3⟩ := push_facts (w := w) (w' := w.drew.alloc (.cells ((cs ++ vs).toArray ++ Builtin.zeroCells (Value.string ⟨#[]⟩).cells (grownCap w (i + m) c' (ρ.t 9) - (i + m))) (ρ.t 9))) rfl
          obtain ⟨E', b1, b2, b3, b4⟩ := grew (rest := []) (pl := false) (cap' := grownCap w (i + m) c' (ρ.t 9)) hw hfr hlo hlcs hln hlv htr hok f1 f2 f3
            (fun j hj => by
              rw [insd_get _ _ _ _ hiw, Array.getElem?_append_left (by simp; omega)]
              simp only [List.getElem?_toArray]
              split
              · rw [List.getElem?_append_left (by omega)]
              · rw [List.getElem?_append_right (by omega), if_pos (by omega), hlcs])
            hG (by have := grownCap_le_maxLen w (i + m) c' (ρ.t 9) hbig2; exact this) (by simp [Builtin.zeroCells, Value.cells]; omega) rfl rfl rfl
          exact ⟨E', _, rfl, b1, b2, b3.kill k, b4⟩
      · -- in place
        rcases Nat.lt_or_ge i len with hil2 | hil2
        · refine (Any2.slices_Insert_string_shift L en.b (en.o + off) len c' i ev.b (ev.o + ov) m cv' cs vs w hil2 hm hge hc63 hbne hlcs hlv hcs (hsp hge) (hfz hge) hvs h1c h1v vel (ρ.t 9) vc.size kc.size hshv hshb (by have := hsp0 hge; omega) (hfa _) (hfa _)).mono ?_
          rintro e1 w' ⟨rfl, rfl⟩
          obtain ⟨a1, a2, a3, a4, a5, a6⟩ := setCells_heap en.b (cs.drop i) (en.o + off + (i + m)) w.drew kc _ fr g1
          obtain ⟨c1, c2, c3, c4, c5, c6⟩ := setCells_heap en.b vs (en.o + off + i) (w.drew.setCells en.b (en.o + off + (i + m)) (cs.drop i)) _ _ fr a1
          obtain ⟨E', b1, b2, b3, b4⟩ := inPlace hge (c3.trans a3) (fun j hj => (c2 j hj).trans (a2 j hj)) ⟨_, c1, by rw [setRun_size, setRun_size], fun j hj => by
            have := hsp0 hge
            rw [setRun_get _ _ _ _ (by rw [setRun_size]; omega), setRun_get _ _ _ _ (by rw [List.length_drop]; omega), insd_get _ _ _ _ hiw, List.length_drop]
            by_cases h1 : j < i
            · rw [if_neg (by omega), if_neg (by omega), if_pos h1, hcsx j (by omega)]
            · rw [if_neg h1]
              by_cases h2 : j < i + vs.length
              · rw [if_pos (by omega), if_pos h2]
                congr 1; omega
              · rw [if_neg (by omega), if_pos (by omega), if_neg h2, List.getElem?_drop]
                congr 1; omega⟩ (c4.trans a4) (c5.trans a5) (c6.trans a6)
          exact ⟨E', _, rfl, b1, b2, b3, b4⟩
        · have : i = len := by omega
          subst this
          refine (Any2.slices_Insert_string_end_room L en.b (en.o + off) i c' ev.b (ev.o + ov) m cv' vs w hm hge hc63 hlv (fun j hj => by have := hsp hge (i + j) (by omega); rw [← Nat.add_assoc] at this; exact this) (fun j hj => by have := hfz hge (i + j) (by omega); rw [← Nat.add_assoc] at this; exact this) hvs h1v).mono ?_
          rintro e1 w' ⟨rfl, rfl⟩
          obtain ⟨a1, a2, a3, a4, a5, a6⟩ := setCells_heap en.b vs (en.o + off + i) w kc _ fr g1
          obtain ⟨E', b1, b2, b3, b4⟩ := inPlace hge a3 a2 ⟨_, a1, setRun_size _ _ _, fun j hj => by
            have := hsp0 hge
            rw [setRun_get _ _ _ _ (by omega), insd_get _ _ _ _ hiw]
            split
            · rename_i h1
              rw [if_neg (by omega), if_pos (by omega)]
              congr 1; omega
            · rw [if_pos (by omega), hcsx j (by omega)]⟩ a4 a5 a6
          exact ⟨E', _, rfl, b1, b2, b3, b4⟩
end
end Go.Ev
