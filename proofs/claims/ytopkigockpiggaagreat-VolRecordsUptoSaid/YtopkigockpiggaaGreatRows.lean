/-
  No cell of these rows narrows 'for every input' (looked for: loops, veiled, ifaces, maps, wideKeys, modest, calm, conditions, laid).
  DERIVED. THE GIVEN ROWS OF THIS SEAT. 3 by the template 'for every input the law returns true; each argument reads behind the call as it read before'; 0 by the template 'total and deterministic' (their statements: YtopkigockpiggaaGreatTotals.lean).
  GIVEN WITH THE SEED: the statements are not yours to turn. If you find one false, say at which input.
  Laid BY PROGRAM, IN A SANDBOX (cutbox-rows.mjs): the forced cells as the released guide's own fill.sh prints them over the translation ea196bae011cbc86… (all of the seat's roots in one cut). By AI agents, Wed Nov 11 2026. No macro, syntax, notation, axiom, sorry.
-/
import Derived.Test.YtopkigockpiggaaGreatChecked
import GoSem.Claim
import GoSem.ClaimJoined
import GoSem.ClaimMapViews
import Derived.JoinedTies
import Derived.KernelRfl
namespace Go.Proofs.YtopkigockpiggaaGreat
/- THE CELL 'sum', in the pinned program and in every row, IS THE sha256 OF THE DUMP (.gsa) THAT YtopkigockpiggaaGreatProg.lean LOADS. Nothing in Lean hashes anything: it is a label: what it is worth is what the hold of that sum in a sandbox is worth. -/
noncomputable def Tryz.pinned : Pinned := { name := "ytopkigockpiggaagreat", sum := "ea196bae011cbc8686ca1f035e002c7497f9b286edfbc6c8d2c678a39420bd54", checked := Tryz.checked }
namespace Rows
def none {H : Type} : Left H := { results := [], args := [] }

/-- 'deduplaw25.VolDiffs': WHATEVER THE INPUT: true; the input reads as it did. -/
def volDiffsSpec : ChangeSpec := { name := "volDiffs", fn := fun _ => fun
  | [d1, d2] => { results := [.lit (.bool true)], args := [d1, d2] }
  | _ => none }
def volDiffsRow : OpenClaim := { program := "ytopkigockpiggaagreat", sum := "ea196bae011cbc8686ca1f035e002c7497f9b286edfbc6c8d2c678a39420bd54", func := "dedup/deduplaw25.VolDiffs", spec := "volDiffs", inPlace := ["slices.overlaps[string]", "slices.overlaps[*dedup/tree.knot]", "slices.overlaps[dedup/seq.Item[string, dedup/api.Entry]]", "maps.clone", "internal/bytealg.abigen_runtime_cmpstring", "slices.overlaps[*dedup/run.Run]"], unfollowed := true, recurses := true, apart := false }
def VolDiffsSaid : Prop := volDiffsRow.holds Tryz.pinned (OpenSpec.ofChange volDiffsSpec)

/-- ITS FALSE NEIGHBOUR: 'it returns false'. Refute it at one input. -/
def volDiffsWrong : ChangeSpec := { name := "volDiffs", fn := fun _ => fun
  | [d1, d2] => { results := [.lit (.bool false)], args := [d1, d2] }
  | _ => none }
def VolDiffsWrongFalsely : Prop := volDiffsRow.holds Tryz.pinned (OpenSpec.ofChange volDiffsWrong)

/-- 'deduplaw25.VolRecords': WHATEVER THE INPUT: true; the input reads as it did. -/
def volRecordsSpec : ChangeSpec := { name := "volRecords", fn := fun _ => fun
  | [d1, d2] => { results := [.lit (.bool true)], args := [d1, d2] }
  | _ => none }
def volRecordsRow : OpenClaim := { program := "ytopkigockpiggaagreat", sum := "ea196bae011cbc8686ca1f035e002c7497f9b286edfbc6c8d2c678a39420bd54", func := "dedup/deduplaw25.VolRecords", spec := "volRecords", inPlace := ["slices.overlaps[string]", "slices.overlaps[*dedup/tree.knot]", "slices.overlaps[dedup/seq.Item[string, dedup/api.Entry]]", "maps.clone", "internal/bytealg.abigen_runtime_cmpstring", "slices.overlaps[*dedup/run.Run]"], unfollowed := true, recurses := true, apart := false }
def VolRecordsSaid : Prop := volRecordsRow.holds Tryz.pinned (OpenSpec.ofChange volRecordsSpec)

/-- ITS FALSE NEIGHBOUR: 'it returns false'. Refute it at one input. -/
def volRecordsWrong : ChangeSpec := { name := "volRecords", fn := fun _ => fun
  | [d1, d2] => { results := [.lit (.bool false)], args := [d1, d2] }
  | _ => none }
def VolRecordsWrongFalsely : Prop := volRecordsRow.holds Tryz.pinned (OpenSpec.ofChange volRecordsWrong)

/-- 'deduplaw25.VolNobody': WHATEVER THE INPUT: true; the input reads as it did. -/
def volNobodySpec : ChangeSpec := { name := "volNobody", fn := fun _ => fun
  | [d] => { results := [.lit (.bool true)], args := [d] }
  | _ => none }
def volNobodyRow : OpenClaim := { program := "ytopkigockpiggaagreat", sum := "ea196bae011cbc8686ca1f035e002c7497f9b286edfbc6c8d2c678a39420bd54", func := "dedup/deduplaw25.VolNobody", spec := "volNobody", inPlace := ["maps.clone", "slices.overlaps[string]", "slices.overlaps[*dedup/tree.knot]", "slices.overlaps[dedup/seq.Item[string, dedup/api.Entry]]", "internal/bytealg.abigen_runtime_cmpstring", "slices.overlaps[*dedup/run.Run]"], unfollowed := true, recurses := true, apart := false }
def VolNobodySaid : Prop := volNobodyRow.holds Tryz.pinned (OpenSpec.ofChange volNobodySpec)

/-- ITS FALSE NEIGHBOUR: 'it returns false'. Refute it at one input. -/
def volNobodyWrong : ChangeSpec := { name := "volNobody", fn := fun _ => fun
  | [d] => { results := [.lit (.bool false)], args := [d] }
  | _ => none }
def VolNobodyWrongFalsely : Prop := volNobodyRow.holds Tryz.pinned (OpenSpec.ofChange volNobodyWrong)

/- THE SECOND FORM. 'bulk': how many values and letters a reading holds, each counted each time it is reached (what is shared counts as often as it is met; a slice's spare places count too). A statement '..UptoSaid' is the law's where the arguments, and the package variables that the reading takes, are together of bulk at most 1048576: NARROWER than '..Said'. Prove '..Said' where nothing that the law and all that it calls make is longer than what came in: it says more and counts as full. Else prove '..UptoSaid'. A law counts once. -/
mutual
def uptoBulk {H : Type} : DataW H → Nat
  | .lit (.string bytes) => bytes.length + 1
  | .lit _ => 1
  | .nil => 1
  | .ptr d => uptoBulk d + 1
  | .slice elems spare => uptoBulkAll elems + uptoBulkAll spare + 1
  | .agg parts => uptoBulkAll parts + 1
  | .iface _ d => uptoBulk d + 1
  | .map entries => uptoBulkEntries entries + 1
  | .held _ => 1
def uptoBulkAll {H : Type} : List (DataW H) → Nat
  | [] => 0
  | d :: r => uptoBulk d + uptoBulkAll r
def uptoBulkEntries {H : Type} : List (Lit × DataW H) → Nat
  | [] => 0
  | x :: r => uptoBulkEntry x + uptoBulkEntries r
def uptoBulkEntry {H : Type} : Lit × DataW H → Nat
  | (.string bytes, d) => bytes.length + uptoBulk d + 1
  | (_, d) => uptoBulk d + 1
 end
def uptoSmall : (H : Type) → List (DataW H) → Bool := fun _ ds => decide (uptoBulkAll ds ≤ 1048576)
def OpenSpec.upto (s : _root_.Go.ChangeSpec) : _root_.Go.OpenSpec := { _root_.Go.OpenSpec.ofChange s with cond := some uptoSmall }

/-- 'deduplaw25.VolDiffs', WHERE WHAT IT READS IS OF BULK AT MOST 1048576: true; the input reads as it did. -/
def volDiffsUptoRow : OpenClaim := { program := "ytopkigockpiggaagreat", sum := "ea196bae011cbc8686ca1f035e002c7497f9b286edfbc6c8d2c678a39420bd54", func := "dedup/deduplaw25.VolDiffs", spec := "volDiffs", inPlace := ["slices.overlaps[string]", "slices.overlaps[*dedup/tree.knot]", "slices.overlaps[dedup/seq.Item[string, dedup/api.Entry]]", "maps.clone", "internal/bytealg.abigen_runtime_cmpstring", "slices.overlaps[*dedup/run.Run]"], unfollowed := true, recurses := true, apart := false, narrowed := true }
def VolDiffsUptoSaid : Prop := volDiffsUptoRow.holds Tryz.pinned (OpenSpec.upto volDiffsSpec)

/-- 'deduplaw25.VolRecords', WHERE WHAT IT READS IS OF BULK AT MOST 1048576: true; the input reads as it did. -/
def volRecordsUptoRow : OpenClaim := { program := "ytopkigockpiggaagreat", sum := "ea196bae011cbc8686ca1f035e002c7497f9b286edfbc6c8d2c678a39420bd54", func := "dedup/deduplaw25.VolRecords", spec := "volRecords", inPlace := ["slices.overlaps[string]", "slices.overlaps[*dedup/tree.knot]", "slices.overlaps[dedup/seq.Item[string, dedup/api.Entry]]", "maps.clone", "internal/bytealg.abigen_runtime_cmpstring", "slices.overlaps[*dedup/run.Run]"], unfollowed := true, recurses := true, apart := false, narrowed := true }
def VolRecordsUptoSaid : Prop := volRecordsUptoRow.holds Tryz.pinned (OpenSpec.upto volRecordsSpec)

/-- 'deduplaw25.VolNobody', WHERE WHAT IT READS IS OF BULK AT MOST 1048576: true; the input reads as it did. -/
def volNobodyUptoRow : OpenClaim := { program := "ytopkigockpiggaagreat", sum := "ea196bae011cbc8686ca1f035e002c7497f9b286edfbc6c8d2c678a39420bd54", func := "dedup/deduplaw25.VolNobody", spec := "volNobody", inPlace := ["maps.clone", "slices.overlaps[string]", "slices.overlaps[*dedup/tree.knot]", "slices.overlaps[dedup/seq.Item[string, dedup/api.Entry]]", "internal/bytealg.abigen_runtime_cmpstring", "slices.overlaps[*dedup/run.Run]"], unfollowed := true, recurses := true, apart := false, narrowed := true }
def VolNobodyUptoSaid : Prop := volNobodyUptoRow.holds Tryz.pinned (OpenSpec.upto volNobodySpec)

end Rows
end Go.Proofs.YtopkigockpiggaaGreat
