/-
  No cell of these rows narrows 'for every input' (looked for: loops, veiled, ifaces, maps, wideKeys, modest, calm, conditions, laid).
  DERIVED. THE GIVEN ROWS OF THIS SEAT. 7 by the template 'for every input the law returns true; each argument reads behind the call as it read before'; 0 by the template 'total and deterministic' (their statements: YtmcpobmmogeiiaaTotals.lean).
  GIVEN WITH THE SEED: the statements are not yours to turn. If you find one false, say at which input.
  Laid BY PROGRAM, IN A SANDBOX (cutbox-rows.mjs): the forced cells as the released guide's own fill.sh prints them over the translation fa08a58162696803… (all of the seat's roots in one cut). By AI agents, Wed Nov 11 2026. No macro, syntax, notation, axiom, sorry.
-/
import Derived.Test.YtmcpobmmogeiiaaChecked
import GoSem.Claim
import GoSem.ClaimJoined
import GoSem.ClaimMapViews
import Derived.JoinedTies
import Derived.KernelRfl
namespace Go.Proofs.Ytmcpobmmogeiiaa
/- THE CELL 'sum', in the pinned program and in every row, IS THE sha256 OF THE DUMP (.gsa) THAT YtmcpobmmogeiiaaProg.lean LOADS. Nothing in Lean hashes anything: it is a label: what it is worth is what the hold of that sum in a sandbox is worth. -/
noncomputable def Try.pinned : Pinned := { name := "ytmcpobmmogeiiaa", sum := "fa08a58162696803ffc7b6bebfa5f46943f2fcd6376c04c1939951703cc3213f", checked := Try.checked }
namespace Rows
def none {H : Type} : Left H := { results := [], args := [] }

/-- 'deduplaw01.ShaSums': WHATEVER THE INPUT: true; the input reads as it did. -/
def shaSumsSpec : ChangeSpec := { name := "shaSums", fn := fun _ => fun
  | [d] => { results := [.lit (.bool true)], args := [d] }
  | _ => none }
def shaSumsRow : OpenClaim := { program := "ytmcpobmmogeiiaa", sum := "fa08a58162696803ffc7b6bebfa5f46943f2fcd6376c04c1939951703cc3213f", func := "dedup/deduplaw01.ShaSums", spec := "shaSums", apart := false }
def ShaSumsSaid : Prop := shaSumsRow.holds Try.pinned (OpenSpec.ofChange shaSumsSpec)

/-- ITS FALSE NEIGHBOUR: 'it returns false'. Refute it at one input. -/
def shaSumsWrong : ChangeSpec := { name := "shaSums", fn := fun _ => fun
  | [d] => { results := [.lit (.bool false)], args := [d] }
  | _ => none }
def ShaSumsWrongFalsely : Prop := shaSumsRow.holds Try.pinned (OpenSpec.ofChange shaSumsWrong)

/-- 'deduplaw01.ShaBits': WHATEVER THE INPUT: true; the input reads as it did. -/
def shaBitsSpec : ChangeSpec := { name := "shaBits", fn := fun _ => fun
  | [d1, d2, d3] => { results := [.lit (.bool true)], args := [d1, d2, d3] }
  | _ => none }
def shaBitsRow : OpenClaim := { program := "ytmcpobmmogeiiaa", sum := "fa08a58162696803ffc7b6bebfa5f46943f2fcd6376c04c1939951703cc3213f", func := "dedup/deduplaw01.ShaBits", spec := "shaBits", apart := false }
def ShaBitsSaid : Prop := shaBitsRow.holds Try.pinned (OpenSpec.ofChange shaBitsSpec)

/-- ITS FALSE NEIGHBOUR: 'it returns false'. Refute it at one input. -/
def shaBitsWrong : ChangeSpec := { name := "shaBits", fn := fun _ => fun
  | [d1, d2, d3] => { results := [.lit (.bool false)], args := [d1, d2, d3] }
  | _ => none }
def ShaBitsWrongFalsely : Prop := shaBitsRow.holds Try.pinned (OpenSpec.ofChange shaBitsWrong)

/-- 'deduplaw01.ShaPieces': WHATEVER THE INPUT: true; the input reads as it did. -/
def shaPiecesSpec : ChangeSpec := { name := "shaPieces", fn := fun _ => fun
  | [d] => { results := [.lit (.bool true)], args := [d] }
  | _ => none }
def shaPiecesRow : OpenClaim := { program := "ytmcpobmmogeiiaa", sum := "fa08a58162696803ffc7b6bebfa5f46943f2fcd6376c04c1939951703cc3213f", func := "dedup/deduplaw01.ShaPieces", spec := "shaPieces", apart := false }
def ShaPiecesSaid : Prop := shaPiecesRow.holds Try.pinned (OpenSpec.ofChange shaPiecesSpec)

/-- ITS FALSE NEIGHBOUR: 'it returns false'. Refute it at one input. -/
def shaPiecesWrong : ChangeSpec := { name := "shaPieces", fn := fun _ => fun
  | [d] => { results := [.lit (.bool false)], args := [d] }
  | _ => none }
def ShaPiecesWrongFalsely : Prop := shaPiecesRow.holds Try.pinned (OpenSpec.ofChange shaPiecesWrong)

/-- 'deduplaw01.ShaNobody': WHATEVER THE INPUT: true; the input reads as it did. -/
def shaNobodySpec : ChangeSpec := { name := "shaNobody", fn := fun _ => fun
  | [d] => { results := [.lit (.bool true)], args := [d] }
  | _ => none }
def shaNobodyRow : OpenClaim := { program := "ytmcpobmmogeiiaa", sum := "fa08a58162696803ffc7b6bebfa5f46943f2fcd6376c04c1939951703cc3213f", func := "dedup/deduplaw01.ShaNobody", spec := "shaNobody", apart := false }
def ShaNobodySaid : Prop := shaNobodyRow.holds Try.pinned (OpenSpec.ofChange shaNobodySpec)

/-- ITS FALSE NEIGHBOUR: 'it returns false'. Refute it at one input. -/
def shaNobodyWrong : ChangeSpec := { name := "shaNobody", fn := fun _ => fun
  | [d] => { results := [.lit (.bool false)], args := [d] }
  | _ => none }
def ShaNobodyWrongFalsely : Prop := shaNobodyRow.holds Try.pinned (OpenSpec.ofChange shaNobodyWrong)

/-- 'deduplaw01.ShaTexts': WHATEVER THE INPUT: true; the input reads as it did. -/
def shaTextsSpec : ChangeSpec := { name := "shaTexts", fn := fun _ => fun
  | [d] => { results := [.lit (.bool true)], args := [d] }
  | _ => none }
def shaTextsRow : OpenClaim := { program := "ytmcpobmmogeiiaa", sum := "fa08a58162696803ffc7b6bebfa5f46943f2fcd6376c04c1939951703cc3213f", func := "dedup/deduplaw01.ShaTexts", spec := "shaTexts", inPlace := ["internal/bytealg.IndexByteString"], apart := false }
def ShaTextsSaid : Prop := shaTextsRow.holds Try.pinned (OpenSpec.ofChange shaTextsSpec)

/-- ITS FALSE NEIGHBOUR: 'it returns false'. Refute it at one input. -/
def shaTextsWrong : ChangeSpec := { name := "shaTexts", fn := fun _ => fun
  | [d] => { results := [.lit (.bool false)], args := [d] }
  | _ => none }
def ShaTextsWrongFalsely : Prop := shaTextsRow.holds Try.pinned (OpenSpec.ofChange shaTextsWrong)

/-- 'deduplaw01.ShaParses': WHATEVER THE INPUT: true; the input reads as it did. -/
def shaParsesSpec : ChangeSpec := { name := "shaParses", fn := fun _ => fun
  | [d] => { results := [.lit (.bool true)], args := [d] }
  | _ => none }
def shaParsesRow : OpenClaim := { program := "ytmcpobmmogeiiaa", sum := "fa08a58162696803ffc7b6bebfa5f46943f2fcd6376c04c1939951703cc3213f", func := "dedup/deduplaw01.ShaParses", spec := "shaParses", inPlace := ["internal/bytealg.IndexByteString"], apart := false }
def ShaParsesSaid : Prop := shaParsesRow.holds Try.pinned (OpenSpec.ofChange shaParsesSpec)

/-- ITS FALSE NEIGHBOUR: 'it returns false'. Refute it at one input. -/
def shaParsesWrong : ChangeSpec := { name := "shaParses", fn := fun _ => fun
  | [d] => { results := [.lit (.bool false)], args := [d] }
  | _ => none }
def ShaParsesWrongFalsely : Prop := shaParsesRow.holds Try.pinned (OpenSpec.ofChange shaParsesWrong)

/-- 'deduplaw01.ShaMany': WHATEVER THE INPUT: true; the input reads as it did. -/
def shaManySpec : ChangeSpec := { name := "shaMany", fn := fun _ => fun
  | [d1, d2] => { results := [.lit (.bool true)], args := [d1, d2] }
  | _ => none }
def shaManyRow : OpenClaim := { program := "ytmcpobmmogeiiaa", sum := "fa08a58162696803ffc7b6bebfa5f46943f2fcd6376c04c1939951703cc3213f", func := "dedup/deduplaw01.ShaMany", spec := "shaMany", leaving := true, apart := false }
def ShaManySaid : Prop := shaManyRow.holds Try.pinned (OpenSpec.ofChange shaManySpec)

/-- ITS FALSE NEIGHBOUR: 'it returns false'. Refute it at one input. -/
def shaManyWrong : ChangeSpec := { name := "shaMany", fn := fun _ => fun
  | [d1, d2] => { results := [.lit (.bool false)], args := [d1, d2] }
  | _ => none }
def ShaManyWrongFalsely : Prop := shaManyRow.holds Try.pinned (OpenSpec.ofChange shaManyWrong)

/- THE SECOND FORM. 'bulk': how many values and letters a reading holds, each counted each time it is reached (what is shared counts as often as it is met; a slice's spare places count too). A statement '..UptoSaid' is the law's where the arguments, and the package variables that the reading takes, are together of bulk at most 1048576: NARROWER than '..Said'. Prove '..Said' where nothing that the law and all that it calls make is longer than what came in: it says more and counts as full. Else prove '..UptoSaid'. A law counts once. -/
mutual
def uptoBulk {H : Type} : DataW H → Nat
  | .lit (.string bytes) => bytes.length + 1
  | .lit _ => 1
  | .nil => 1
  | .ptr d => uptoBulk d + 1
  | .slice elems spare => uptoBulkAll elems + uptoBulkAll spare + 1
  | .agg parts => uptoBulkAll parts + 1
  | .iface _ d => uptoBulk d + 1
  | .map entries => uptoBulkEntries entries + 1
  | .held _ => 1
def uptoBulkAll {H : Type} : List (DataW H) → Nat
  | [] => 0
  | d :: r => uptoBulk d + uptoBulkAll r
def uptoBulkEntries {H : Type} : List (Lit × DataW H) → Nat
  | [] => 0
  | x :: r => uptoBulkEntry x + uptoBulkEntries r
def uptoBulkEntry {H : Type} : Lit × DataW H → Nat
  | (.string bytes, d) => bytes.length + uptoBulk d + 1
  | (_, d) => uptoBulk d + 1
 end
def uptoSmall : (H : Type) → List (DataW H) → Bool := fun _ ds => decide (uptoBulkAll ds ≤ 1048576)
def OpenSpec.upto (s : _root_.Go.ChangeSpec) : _root_.Go.OpenSpec := { _root_.Go.OpenSpec.ofChange s with cond := some uptoSmall }

/-- 'deduplaw01.ShaSums', WHERE WHAT IT READS IS OF BULK AT MOST 1048576: true; the input reads as it did. -/
def shaSumsUptoRow : OpenClaim := { program := "ytmcpobmmogeiiaa", sum := "fa08a58162696803ffc7b6bebfa5f46943f2fcd6376c04c1939951703cc3213f", func := "dedup/deduplaw01.ShaSums", spec := "shaSums", apart := false, narrowed := true }
def ShaSumsUptoSaid : Prop := shaSumsUptoRow.holds Try.pinned (OpenSpec.upto shaSumsSpec)

/-- 'deduplaw01.ShaBits', WHERE WHAT IT READS IS OF BULK AT MOST 1048576: true; the input reads as it did. -/
def shaBitsUptoRow : OpenClaim := { program := "ytmcpobmmogeiiaa", sum := "fa08a58162696803ffc7b6bebfa5f46943f2fcd6376c04c1939951703cc3213f", func := "dedup/deduplaw01.ShaBits", spec := "shaBits", apart := false, narrowed := true }
def ShaBitsUptoSaid : Prop := shaBitsUptoRow.holds Try.pinned (OpenSpec.upto shaBitsSpec)

/-- 'deduplaw01.ShaPieces', WHERE WHAT IT READS IS OF BULK AT MOST 1048576: true; the input reads as it did. -/
def shaPiecesUptoRow : OpenClaim := { program := "ytmcpobmmogeiiaa", sum := "fa08a58162696803ffc7b6bebfa5f46943f2fcd6376c04c1939951703cc3213f", func := "dedup/deduplaw01.ShaPieces", spec := "shaPieces", apart := false, narrowed := true }
def ShaPiecesUptoSaid : Prop := shaPiecesUptoRow.holds Try.pinned (OpenSpec.upto shaPiecesSpec)

/-- 'deduplaw01.ShaNobody', WHERE WHAT IT READS IS OF BULK AT MOST 1048576: true; the input reads as it did. -/
def shaNobodyUptoRow : OpenClaim := { program := "ytmcpobmmogeiiaa", sum := "fa08a58162696803ffc7b6bebfa5f46943f2fcd6376c04c1939951703cc3213f", func := "dedup/deduplaw01.ShaNobody", spec := "shaNobody", apart := false, narrowed := true }
def ShaNobodyUptoSaid : Prop := shaNobodyUptoRow.holds Try.pinned (OpenSpec.upto shaNobodySpec)

/-- 'deduplaw01.ShaTexts', WHERE WHAT IT READS IS OF BULK AT MOST 1048576: true; the input reads as it did. -/
def shaTextsUptoRow : OpenClaim := { program := "ytmcpobmmogeiiaa", sum := "fa08a58162696803ffc7b6bebfa5f46943f2fcd6376c04c1939951703cc3213f", func := "dedup/deduplaw01.ShaTexts", spec := "shaTexts", inPlace := ["internal/bytealg.IndexByteString"], apart := false, narrowed := true }
def ShaTextsUptoSaid : Prop := shaTextsUptoRow.holds Try.pinned (OpenSpec.upto shaTextsSpec)

/-- 'deduplaw01.ShaParses', WHERE WHAT IT READS IS OF BULK AT MOST 1048576: true; the input reads as it did. -/
def shaParsesUptoRow : OpenClaim := { program := "ytmcpobmmogeiiaa", sum := "fa08a58162696803ffc7b6bebfa5f46943f2fcd6376c04c1939951703cc3213f", func := "dedup/deduplaw01.ShaParses", spec := "shaParses", inPlace := ["internal/bytealg.IndexByteString"], apart := false, narrowed := true }
def ShaParsesUptoSaid : Prop := shaParsesUptoRow.holds Try.pinned (OpenSpec.upto shaParsesSpec)

/-- 'deduplaw01.ShaMany', WHERE WHAT IT READS IS OF BULK AT MOST 1048576: true; the input reads as it did. -/
def shaManyUptoRow : OpenClaim := { program := "ytmcpobmmogeiiaa", sum := "fa08a58162696803ffc7b6bebfa5f46943f2fcd6376c04c1939951703cc3213f", func := "dedup/deduplaw01.ShaMany", spec := "shaMany", leaving := true, apart := false, narrowed := true }
def ShaManyUptoSaid : Prop := shaManyUptoRow.holds Try.pinned (OpenSpec.upto shaManySpec)

end Rows
end Go.Proofs.Ytmcpobmmogeiiaa
