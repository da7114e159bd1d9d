/-
  No cell of these rows narrows 'for every input' (looked for: loops, veiled, ifaces, maps, wideKeys, modest, calm, conditions, laid).
  DERIVED. THE GIVEN ROWS OF THIS SEAT. 6 by the template 'for every input the law returns true; each argument reads behind the call as it read before'; 0 by the template 'total and deterministic' (their statements: YtdcaecklafppkaaTotals.lean).
  GIVEN WITH THE SEED: the statements are not yours to turn. If you find one false, say at which input.
  Laid BY PROGRAM, IN A SANDBOX (cutbox-rows.mjs): the forced cells as the released guide's own fill.sh prints them over the translation 04d147cbc17c0485… (all of the seat's roots in one cut). By AI agents, Wed Nov 11 2026. No macro, syntax, notation, axiom, sorry.
-/
import Derived.Test.YtdcaecklafppkaaChecked
import GoSem.Claim
import GoSem.ClaimJoined
import GoSem.ClaimMapViews
import Derived.JoinedTies
import Derived.KernelRfl
namespace Go.Proofs.Ytdcaecklafppkaa
/- THE CELL 'sum', in the pinned program and in every row, IS THE sha256 OF THE DUMP (.gsa) THAT YtdcaecklafppkaaProg.lean LOADS. Nothing in Lean hashes anything: it is a label: what it is worth is what the hold of that sum in a sandbox is worth. -/
noncomputable def Try.pinned : Pinned := { name := "ytdcaecklafppkaa", sum := "04d147cbc17c0485a4619b8897c523362a2e4dd33fddf4311c02b28fca42b8c9", checked := Try.checked }
namespace Rows
def none {H : Type} : Left H := { results := [], args := [] }

/-- 'laws.FnExactConstants': WHATEVER THE INPUT: true; the input reads as it did. -/
def fnExactConstantsSpec : ChangeSpec := { name := "fnExactConstants", fn := fun _ => fun
  | [] => { results := [.lit (.bool true)], args := [] }
  | _ => none }
def fnExactConstantsRow : OpenClaim := { program := "ytdcaecklafppkaa", sum := "04d147cbc17c0485a4619b8897c523362a2e4dd33fddf4311c02b28fca42b8c9", func := "loop.example/g03100/laws.FnExactConstants", spec := "fnExactConstants", apart := false }
def FnExactConstantsSaid : Prop := fnExactConstantsRow.holds Try.pinned (OpenSpec.ofChange fnExactConstantsSpec)

/-- ITS FALSE NEIGHBOUR: 'it returns false'. Refute it at one input. -/
def fnExactConstantsWrong : ChangeSpec := { name := "fnExactConstants", fn := fun _ => fun
  | [] => { results := [.lit (.bool false)], args := [] }
  | _ => none }
def FnExactConstantsWrongFalsely : Prop := fnExactConstantsRow.holds Try.pinned (OpenSpec.ofChange fnExactConstantsWrong)

/-- 'laws.FnExactIsSet': WHATEVER THE INPUT: true; the input reads as it did. -/
def fnExactIsSetSpec : ChangeSpec := { name := "fnExactIsSet", fn := fun _ => fun
  | [d1, d2] => { results := [.lit (.bool true)], args := [d1, d2] }
  | _ => none }
def fnExactIsSetRow : OpenClaim := { program := "ytdcaecklafppkaa", sum := "04d147cbc17c0485a4619b8897c523362a2e4dd33fddf4311c02b28fca42b8c9", func := "loop.example/g03100/laws.FnExactIsSet", spec := "fnExactIsSet", apart := false }
def FnExactIsSetSaid : Prop := fnExactIsSetRow.holds Try.pinned (OpenSpec.ofChange fnExactIsSetSpec)

/-- ITS FALSE NEIGHBOUR: 'it returns false'. Refute it at one input. -/
def fnExactIsSetWrong : ChangeSpec := { name := "fnExactIsSet", fn := fun _ => fun
  | [d1, d2] => { results := [.lit (.bool false)], args := [d1, d2] }
  | _ => none }
def FnExactIsSetWrongFalsely : Prop := fnExactIsSetRow.holds Try.pinned (OpenSpec.ofChange fnExactIsSetWrong)

/-- 'laws.FnExactParseSet': WHATEVER THE INPUT: true; the input reads as it did. -/
def fnExactParseSetSpec : ChangeSpec := { name := "fnExactParseSet", fn := fun _ => fun
  | [d] => { results := [.lit (.bool true)], args := [d] }
  | _ => none }
def fnExactParseSetRow : OpenClaim := { program := "ytdcaecklafppkaa", sum := "04d147cbc17c0485a4619b8897c523362a2e4dd33fddf4311c02b28fca42b8c9", func := "loop.example/g03100/laws.FnExactParseSet", spec := "fnExactParseSet", apart := false }
def FnExactParseSetSaid : Prop := fnExactParseSetRow.holds Try.pinned (OpenSpec.ofChange fnExactParseSetSpec)

/-- ITS FALSE NEIGHBOUR: 'it returns false'. Refute it at one input. -/
def fnExactParseSetWrong : ChangeSpec := { name := "fnExactParseSet", fn := fun _ => fun
  | [d] => { results := [.lit (.bool false)], args := [d] }
  | _ => none }
def FnExactParseSetWrongFalsely : Prop := fnExactParseSetRow.holds Try.pinned (OpenSpec.ofChange fnExactParseSetWrong)

/-- 'laws.FnExactSetText': WHATEVER THE INPUT: true; the input reads as it did. -/
def fnExactSetTextSpec : ChangeSpec := { name := "fnExactSetText", fn := fun _ => fun
  | [d] => { results := [.lit (.bool true)], args := [d] }
  | _ => none }
def fnExactSetTextRow : OpenClaim := { program := "ytdcaecklafppkaa", sum := "04d147cbc17c0485a4619b8897c523362a2e4dd33fddf4311c02b28fca42b8c9", func := "loop.example/g03100/laws.FnExactSetText", spec := "fnExactSetText", apart := false }
def FnExactSetTextSaid : Prop := fnExactSetTextRow.holds Try.pinned (OpenSpec.ofChange fnExactSetTextSpec)

/-- ITS FALSE NEIGHBOUR: 'it returns false'. Refute it at one input. -/
def fnExactSetTextWrong : ChangeSpec := { name := "fnExactSetText", fn := fun _ => fun
  | [d] => { results := [.lit (.bool false)], args := [d] }
  | _ => none }
def FnExactSetTextWrongFalsely : Prop := fnExactSetTextRow.holds Try.pinned (OpenSpec.ofChange fnExactSetTextWrong)

/-- 'laws.FnExactPointsOf': WHATEVER THE INPUT: true; the input reads as it did. -/
def fnExactPointsOfSpec : ChangeSpec := { name := "fnExactPointsOf", fn := fun _ => fun
  | [d] => { results := [.lit (.bool true)], args := [d] }
  | _ => none }
def fnExactPointsOfRow : OpenClaim := { program := "ytdcaecklafppkaa", sum := "04d147cbc17c0485a4619b8897c523362a2e4dd33fddf4311c02b28fca42b8c9", func := "loop.example/g03100/laws.FnExactPointsOf", spec := "fnExactPointsOf", apart := false }
def FnExactPointsOfSaid : Prop := fnExactPointsOfRow.holds Try.pinned (OpenSpec.ofChange fnExactPointsOfSpec)

/-- ITS FALSE NEIGHBOUR: 'it returns false'. Refute it at one input. -/
def fnExactPointsOfWrong : ChangeSpec := { name := "fnExactPointsOf", fn := fun _ => fun
  | [d] => { results := [.lit (.bool false)], args := [d] }
  | _ => none }
def FnExactPointsOfWrongFalsely : Prop := fnExactPointsOfRow.holds Try.pinned (OpenSpec.ofChange fnExactPointsOfWrong)

/-- 'laws.FnExactSplitByte': WHATEVER THE INPUT: true; the input reads as it did. -/
def fnExactSplitByteSpec : ChangeSpec := { name := "fnExactSplitByte", fn := fun _ => fun
  | [d1, d2] => { results := [.lit (.bool true)], args := [d1, d2] }
  | _ => none }
def fnExactSplitByteRow : OpenClaim := { program := "ytdcaecklafppkaa", sum := "04d147cbc17c0485a4619b8897c523362a2e4dd33fddf4311c02b28fca42b8c9", func := "loop.example/g03100/laws.FnExactSplitByte", spec := "fnExactSplitByte", apart := false }
def FnExactSplitByteSaid : Prop := fnExactSplitByteRow.holds Try.pinned (OpenSpec.ofChange fnExactSplitByteSpec)

/-- ITS FALSE NEIGHBOUR: 'it returns false'. Refute it at one input. -/
def fnExactSplitByteWrong : ChangeSpec := { name := "fnExactSplitByte", fn := fun _ => fun
  | [d1, d2] => { results := [.lit (.bool false)], args := [d1, d2] }
  | _ => none }
def FnExactSplitByteWrongFalsely : Prop := fnExactSplitByteRow.holds Try.pinned (OpenSpec.ofChange fnExactSplitByteWrong)

/- THE SECOND FORM. 'bulk': how many values and letters a reading holds, each counted each time it is reached (what is shared counts as often as it is met; a slice's spare places count too). A statement '..UptoSaid' is the law's where the arguments, and the package variables that the reading takes, are together of bulk at most 1048576: NARROWER than '..Said'. Prove '..Said' where nothing that the law and all that it calls make is longer than what came in: it says more and counts as full. Else prove '..UptoSaid'. A law counts once. -/
mutual
def uptoBulk {H : Type} : DataW H → Nat
  | .lit (.string bytes) => bytes.length + 1
  | .lit _ => 1
  | .nil => 1
  | .ptr d => uptoBulk d + 1
  | .slice elems spare => uptoBulkAll elems + uptoBulkAll spare + 1
  | .agg parts => uptoBulkAll parts + 1
  | .iface _ d => uptoBulk d + 1
  | .map entries => uptoBulkEntries entries + 1
  | .held _ => 1
def uptoBulkAll {H : Type} : List (DataW H) → Nat
  | [] => 0
  | d :: r => uptoBulk d + uptoBulkAll r
def uptoBulkEntries {H : Type} : List (Lit × DataW H) → Nat
  | [] => 0
  | x :: r => uptoBulkEntry x + uptoBulkEntries r
def uptoBulkEntry {H : Type} : Lit × DataW H → Nat
  | (.string bytes, d) => bytes.length + uptoBulk d + 1
  | (_, d) => uptoBulk d + 1
 end
def uptoSmall : (H : Type) → List (DataW H) → Bool := fun _ ds => decide (uptoBulkAll ds ≤ 1048576)
def OpenSpec.upto (s : _root_.Go.ChangeSpec) : _root_.Go.OpenSpec := { _root_.Go.OpenSpec.ofChange s with cond := some uptoSmall }

/-- 'laws.FnExactConstants', WHERE WHAT IT READS IS OF BULK AT MOST 1048576: true; the input reads as it did. -/
def fnExactConstantsUptoRow : OpenClaim := { program := "ytdcaecklafppkaa", sum := "04d147cbc17c0485a4619b8897c523362a2e4dd33fddf4311c02b28fca42b8c9", func := "loop.example/g03100/laws.FnExactConstants", spec := "fnExactConstants", apart := false, narrowed := true }
def FnExactConstantsUptoSaid : Prop := fnExactConstantsUptoRow.holds Try.pinned (OpenSpec.upto fnExactConstantsSpec)

/-- 'laws.FnExactIsSet', WHERE WHAT IT READS IS OF BULK AT MOST 1048576: true; the input reads as it did. -/
def fnExactIsSetUptoRow : OpenClaim := { program := "ytdcaecklafppkaa", sum := "04d147cbc17c0485a4619b8897c523362a2e4dd33fddf4311c02b28fca42b8c9", func := "loop.example/g03100/laws.FnExactIsSet", spec := "fnExactIsSet", apart := false, narrowed := true }
def FnExactIsSetUptoSaid : Prop := fnExactIsSetUptoRow.holds Try.pinned (OpenSpec.upto fnExactIsSetSpec)

/-- 'laws.FnExactParseSet', WHERE WHAT IT READS IS OF BULK AT MOST 1048576: true; the input reads as it did. -/
def fnExactParseSetUptoRow : OpenClaim := { program := "ytdcaecklafppkaa", sum := "04d147cbc17c0485a4619b8897c523362a2e4dd33fddf4311c02b28fca42b8c9", func := "loop.example/g03100/laws.FnExactParseSet", spec := "fnExactParseSet", apart := false, narrowed := true }
def FnExactParseSetUptoSaid : Prop := fnExactParseSetUptoRow.holds Try.pinned (OpenSpec.upto fnExactParseSetSpec)

/-- 'laws.FnExactSetText', WHERE WHAT IT READS IS OF BULK AT MOST 1048576: true; the input reads as it did. -/
def fnExactSetTextUptoRow : OpenClaim := { program := "ytdcaecklafppkaa", sum := "04d147cbc17c0485a4619b8897c523362a2e4dd33fddf4311c02b28fca42b8c9", func := "loop.example/g03100/laws.FnExactSetText", spec := "fnExactSetText", apart := false, narrowed := true }
def FnExactSetTextUptoSaid : Prop := fnExactSetTextUptoRow.holds Try.pinned (OpenSpec.upto fnExactSetTextSpec)

/-- 'laws.FnExactPointsOf', WHERE WHAT IT READS IS OF BULK AT MOST 1048576: true; the input reads as it did. -/
def fnExactPointsOfUptoRow : OpenClaim := { program := "ytdcaecklafppkaa", sum := "04d147cbc17c0485a4619b8897c523362a2e4dd33fddf4311c02b28fca42b8c9", func := "loop.example/g03100/laws.FnExactPointsOf", spec := "fnExactPointsOf", apart := false, narrowed := true }
def FnExactPointsOfUptoSaid : Prop := fnExactPointsOfUptoRow.holds Try.pinned (OpenSpec.upto fnExactPointsOfSpec)

/-- 'laws.FnExactSplitByte', WHERE WHAT IT READS IS OF BULK AT MOST 1048576: true; the input reads as it did. -/
def fnExactSplitByteUptoRow : OpenClaim := { program := "ytdcaecklafppkaa", sum := "04d147cbc17c0485a4619b8897c523362a2e4dd33fddf4311c02b28fca42b8c9", func := "loop.example/g03100/laws.FnExactSplitByte", spec := "fnExactSplitByte", apart := false, narrowed := true }
def FnExactSplitByteUptoSaid : Prop := fnExactSplitByteUptoRow.holds Try.pinned (OpenSpec.upto fnExactSplitByteSpec)

end Rows
end Go.Proofs.Ytdcaecklafppkaa
