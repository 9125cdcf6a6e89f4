/-
  'append(s, make([]T, n)...)' on a slice that the call itself made: n zero elements more.
-/
import Derived.WalkKit
namespace Go.Proofs.Ytmcpobmmogeiiaa
open Go.RowKit

theorem zeroCells_one (z0 : Value) (m : Nat) : Builtin.zeroCells #[z0] m = (List.replicate m z0).toArray := by
  unfold Builtin.zeroCells
  apply Array.ext'
  simp only [Array.toList_map, Array.toList_range, List.size_toArray, List.length_cons, List.length_nil]
  rw [List.eq_replicate_iff]
  refine ⟨by simp, fun b hb => ?_⟩
  simp only [List.mem_map, List.mem_range] at hb
  obtain ⟨k, _, rfl⟩ := hb
  simp [Nat.mod_one]

section
variable {P : Program} (w : World)
theorem run_append_make (base : Nat) (t tI ty e : TypeId) (i : TypeInfo) (z z0 : Value) (ht : P.underlying t = some (.slice e)) (hI : P.underlying tI = some (.int .i64)) (hi : P.info? e = some i) (hz : i.zero = some z)
    (hsize : i.size = 1) (hby : i.bytes = 1) (hzs : z.cells = #[z0]) (h1 : z0.oneCell' = true)
    (v : Value) (n : Nat) (xs : List Value) (hown : w.ownsRow base e 1 v n xs) (hv : v ≠ .slice none 0 0) (m : Nat)
    (hm : n + m ≤ 1099511627776) (hbase : base ≤ w.heap.size) :
    ∃ v' w', (Builtin.append_ #[t, tI] ty #[v, .int .i64 m]).run P w = .ok v' w' ∧ w'.ownsRow base e 1 v' (n + m) (xs ++ List.replicate m z0) ∧ w.grownBy w' v.ownBlock ∧ v' ≠ .slice none 0 0 := by
  rcases hown.2 with ⟨rfl, _⟩ | ⟨g, cap, cur, rfl, hbg, hg, hnc, hcm, hcs, htake⟩
  · exact absurd rfl hv
  have hxl : xs.length = n := by have := hown.1; omega
  have hwrap : IntKind.i64.wrap (m : Int) = m := IntWalk.i64_in _ (by omega)
  have hneg : ¬ ((m : Int) < 0) := by omega
  have hbig : ¬ (281474976710656 < (m : Int)) := by omega
  have hlen : (xs ++ List.replicate m z0).length = (n + m) * 1 := by simp [hxl]
  have hcs1 : cur.size = cap := by omega
  by_cases hroom : n + m ≤ cap
  · have hst := run_storeCells_at P g n e (List.replicate m z0) 0 cur w hg (by simp; omega) (by intro u hu; rw [List.eq_of_mem_replicate hu]; exact h1)
    simp only [Nat.add_zero] at hst
    refine ⟨.slice (some ⟨g, 0, none⟩) (n + m) cap, w.setRow g (cur.toList.take n ++ List.replicate m z0 ++ cur.toList.drop (n + (List.replicate m z0).length)).toArray, ?_, ⟨hlen, .inr ⟨g, cap, _, rfl, hbg, setRow_heap w g cur _ e _ hg, hroom, hcm, ?_, ?_⟩⟩,
      ⟨rfl, rfl, rfl, by simp, fun k _ hk => setRow_other w g k _ (fun e => hk (by simp [Value.ownBlock, e]))⟩, by simp⟩
    · have hsimp : (Builtin.append_ #[t, tI] ty #[.slice (some ⟨g, 0, none⟩) n cap, .int .i64 m]).run P w = ((storeCells (⟨g, n, none⟩ : Addr) (List.replicate m z0) 0).run P w).andThen fun _ w' => .ok (.slice (some ⟨g, 0, none⟩) (n + m) cap) w' := by
        by_cases hm0 : m = 0
        · subst hm0
          have w0 : IntKind.i64.wrap 0 = 0 := IntWalk.i64_in 0 (by omega)
          simp [Builtin.append_, run_underlying ht, run_underlying hI, sizeOf, typeInfo, hi, hsize, hby, asInt, asIntOf, w0, hnc, Addr.add_lit]
        · have hm1 : ¬ ((m : Int) ≤ 0) := by omega
          simp [Builtin.append_, run_underlying ht, run_underlying hI, sizeOf, typeInfo, zeroValue, hi, hz, hsize, hby, asInt, asIntOf, hwrap, hbig, hneg, hroom, hm0, hzs, zeroCells_one, Addr.add_lit]
      rw [hsimp, hst]; rfl
    · simp [hcs1]; omega
    · simp only [Nat.mul_one] at htake ⊢
      rw [htake, ← hxl, List.take_append_of_le_length (by simp [hxl])]
      rw [List.take_of_length_le (by simp)]
  · have holds : ∀ j u, xs[j]? = some u → w.cell? ((⟨g, 0, none⟩ : Addr).add j) = some u := hown.cells (g := g) rfl
    have hfo := run_firstCells_some (P := P) w.drew i.size n ⟨g, 0, none⟩ n cap xs (by rw [hsize]; exact hown.1) (by simpa using holds)
    have hge := grownCap_ge w (n + m) cap e
    have hcm2 : grownCap w (n + m) cap e ≤ maxLen := grownCap_le_maxLen w (n + m) cap e (by unfold maxLen; omega)
    have hm0 : m ≠ 0 := by omega
    have h63' : ¬ (9223372036854775807 < ((n : Int) + (m : Int))) := by omega
    have h48 : Builtin.nextslicecap (n + m) cap * 1 ≤ 281474976710656 := growslice_fits (by omega) (by omega)
    have h48' : ¬ (281474976710656 < Builtin.nextslicecap (n + m) cap) := by omega
    refine ⟨.slice (some ⟨w.heap.size, 0, none⟩) (n + m) (grownCap w (n + m) cap e), w.drew.alloc (.cells (xs.toArray ++ (List.replicate m z0).toArray ++ Builtin.zeroCells #[z0] (grownCap w (n + m) cap e - (n + m))) e), ?_,
      ⟨hlen, .inr ⟨w.heap.size, _, _, rfl, hbase, heap_alloc_new w.drew _, hge, hcm2, ?_, ?_⟩⟩, ⟨rfl, rfl, rfl, by simp, fun k hk _ => Below.heap_alloc w.drew _ k hk⟩, by simp⟩
    · rw [hsize] at hfo
      simp [Builtin.append_, run_underlying ht, run_underlying hI, sizeOf, typeInfo, zeroValue, hi, hz, hsize, hby, asInt, asIntOf, hwrap, hbig, hneg, hroom, hm0, hzs, zeroCells_one, Question.forced, hfo, newRow, grownCap, h63', h48']
    · simp [zeroCells_one, hxl]; omega
    · simp only [Nat.mul_one]
      rw [Array.toList_append, Array.toList_append]
      show List.take (n + m) ((xs ++ List.replicate m z0) ++ _) = _
      rw [List.take_append_of_le_length (by simp [hxl]), List.take_of_length_le (by simp [hxl])]

theorem wpList_append_make {ops : Array Oper} {rest : List Oper} {o : Oper} {a : Act} {Q : Exit → Act → World → Prop} (hgd : o.guard = none) (s x : Operand) (t tI : TypeId)
    (ho : o.op = .call { callee := .builtin .append, args := #[s, x], argTypes := #[t, tI] })
    (base : Nat) (e : TypeId) (i : TypeInfo) (z z0 : Value) (ht : P.underlying t = some (.slice e)) (hI : P.underlying tI = some (.int .i64)) (hi : P.info? e = some i) (hz : i.zero = some z)
    (hsize : i.size = 1) (hby : i.bytes = 1) (hzs : z.cells = #[z0]) (h1 : z0.oneCell' = true)
    (v : Value) (n : Nat) (xs : List Value) (hs : a.eval s = v) (hown : w.ownsRow base e 1 v n xs) (hv : v ≠ .slice none 0 0) (m : Nat) (hx : a.eval x = .int .i64 m)
    (hm : n + m ≤ 1099511627776) (hbase : base ≤ w.heap.size)
    (h : ∀ v' w', w'.ownsRow base e 1 v' (n + m) (xs ++ List.replicate m z0) → w.grownBy w' v.ownBlock → v' ≠ .slice none 0 0 → wpList P ops Q rest (a.put o.dst v') w') : wpList P ops Q (o :: rest) a w := by
  refine wpList_plain hgd fun K hK => ?_
  obtain ⟨v', w', hr, h2, h3, h4⟩ := run_append_make (P := P) w base t tI o.type e i z z0 ht hI hi hz hsize hby hzs h1 v n xs hown hv m hm hbase
  unfold Oper.wp execOp
  simp only [ho, resolve, invoke, builtin, Sem.run_bind, Sem.run_pure, Result.andThen_ok, List.map_toArray, List.map_cons, List.map_nil, hs, hx, hr]
  exact hK _ _ (h v' w' h2 h3 h4)
end
end Go.Proofs.Ytmcpobmmogeiiaa
