/-
  No cell of these rows narrows 'for every input' (looked for: loops, veiled, ifaces, maps, wideKeys, modest, calm, conditions, laid).
  DERIVED. THE GIVEN ROWS OF THIS SEAT. 12 by the template 'for every input the law returns true; each argument reads behind the call as it read before'; 0 by the template 'total and deterministic' (their statements: YtjbojjjajnoidaaTotals.lean).
  GIVEN WITH THE SEED: the statements are not yours to turn. If you find one false, say at which input.
  Laid BY PROGRAM, IN A SANDBOX (cutbox-rows.mjs): the forced cells as the released guide's own fill.sh prints them over the translation d4d611dc458e2e98… (all of the seat's roots in one cut). By AI agents, Wed Nov 11 2026. No macro, syntax, notation, axiom, sorry.
-/
import Derived.Test.YtjbojjjajnoidaaChecked
import GoSem.Claim
import GoSem.ClaimJoined
import GoSem.ClaimMapViews
import Derived.JoinedTies
import Derived.KernelRfl
namespace Go.Proofs.Ytjbojjjajnoidaa
/- THE CELL 'sum', in the pinned program and in every row, IS THE sha256 OF THE DUMP (.gsa) THAT YtjbojjjajnoidaaProg.lean LOADS. Nothing in Lean hashes anything: it is a label: what it is worth is what the hold of that sum in a sandbox is worth. -/
noncomputable def Try.pinned : Pinned := { name := "ytjbojjjajnoidaa", sum := "d4d611dc458e2e982020440f23ccc4f3b2e7652169e4d0d4aa138bacfd3c0a2a", checked := Try.checked }
namespace Rows
def none {H : Type} : Left H := { results := [], args := [] }

/-- 'laws.FnExactSizeOf': WHATEVER THE INPUT: true; the input reads as it did. -/
def fnExactSizeOfSpec : ChangeSpec := { name := "fnExactSizeOf", fn := fun _ => fun
  | [d] => { results := [.lit (.bool true)], args := [d] }
  | _ => none }
def fnExactSizeOfRow : OpenClaim := { program := "ytjbojjjajnoidaa", sum := "d4d611dc458e2e982020440f23ccc4f3b2e7652169e4d0d4aa138bacfd3c0a2a", func := "loop.example/g03100/laws.FnExactSizeOf", spec := "fnExactSizeOf", apart := false }
def FnExactSizeOfSaid : Prop := fnExactSizeOfRow.holds Try.pinned (OpenSpec.ofChange fnExactSizeOfSpec)

/-- ITS FALSE NEIGHBOUR: 'it returns false'. Refute it at one input. -/
def fnExactSizeOfWrong : ChangeSpec := { name := "fnExactSizeOf", fn := fun _ => fun
  | [d] => { results := [.lit (.bool false)], args := [d] }
  | _ => none }
def FnExactSizeOfWrongFalsely : Prop := fnExactSizeOfRow.holds Try.pinned (OpenSpec.ofChange fnExactSizeOfWrong)

/-- 'laws.FnExactBeforeSet': WHATEVER THE INPUT: true; the input reads as it did. -/
def fnExactBeforeSetSpec : ChangeSpec := { name := "fnExactBeforeSet", fn := fun _ => fun
  | [d1, d2] => { results := [.lit (.bool true)], args := [d1, d2] }
  | _ => none }
def fnExactBeforeSetRow : OpenClaim := { program := "ytjbojjjajnoidaa", sum := "d4d611dc458e2e982020440f23ccc4f3b2e7652169e4d0d4aa138bacfd3c0a2a", func := "loop.example/g03100/laws.FnExactBeforeSet", spec := "fnExactBeforeSet", apart := false }
def FnExactBeforeSetSaid : Prop := fnExactBeforeSetRow.holds Try.pinned (OpenSpec.ofChange fnExactBeforeSetSpec)

/-- ITS FALSE NEIGHBOUR: 'it returns false'. Refute it at one input. -/
def fnExactBeforeSetWrong : ChangeSpec := { name := "fnExactBeforeSet", fn := fun _ => fun
  | [d1, d2] => { results := [.lit (.bool false)], args := [d1, d2] }
  | _ => none }
def FnExactBeforeSetWrongFalsely : Prop := fnExactBeforeSetRow.holds Try.pinned (OpenSpec.ofChange fnExactBeforeSetWrong)

/-- 'laws.FnExactParseNumber': WHATEVER THE INPUT: true; the input reads as it did. -/
def fnExactParseNumberSpec : ChangeSpec := { name := "fnExactParseNumber", fn := fun _ => fun
  | [d] => { results := [.lit (.bool true)], args := [d] }
  | _ => none }
def fnExactParseNumberRow : OpenClaim := { program := "ytjbojjjajnoidaa", sum := "d4d611dc458e2e982020440f23ccc4f3b2e7652169e4d0d4aa138bacfd3c0a2a", func := "loop.example/g03100/laws.FnExactParseNumber", spec := "fnExactParseNumber", apart := false }
def FnExactParseNumberSaid : Prop := fnExactParseNumberRow.holds Try.pinned (OpenSpec.ofChange fnExactParseNumberSpec)

/-- ITS FALSE NEIGHBOUR: 'it returns false'. Refute it at one input. -/
def fnExactParseNumberWrong : ChangeSpec := { name := "fnExactParseNumber", fn := fun _ => fun
  | [d] => { results := [.lit (.bool false)], args := [d] }
  | _ => none }
def FnExactParseNumberWrongFalsely : Prop := fnExactParseNumberRow.holds Try.pinned (OpenSpec.ofChange fnExactParseNumberWrong)

/-- 'laws.FnExactParseInt': WHATEVER THE INPUT: true; the input reads as it did. -/
def fnExactParseIntSpec : ChangeSpec := { name := "fnExactParseInt", fn := fun _ => fun
  | [d] => { results := [.lit (.bool true)], args := [d] }
  | _ => none }
def fnExactParseIntRow : OpenClaim := { program := "ytjbojjjajnoidaa", sum := "d4d611dc458e2e982020440f23ccc4f3b2e7652169e4d0d4aa138bacfd3c0a2a", func := "loop.example/g03100/laws.FnExactParseInt", spec := "fnExactParseInt", apart := false }
def FnExactParseIntSaid : Prop := fnExactParseIntRow.holds Try.pinned (OpenSpec.ofChange fnExactParseIntSpec)

/-- ITS FALSE NEIGHBOUR: 'it returns false'. Refute it at one input. -/
def fnExactParseIntWrong : ChangeSpec := { name := "fnExactParseInt", fn := fun _ => fun
  | [d] => { results := [.lit (.bool false)], args := [d] }
  | _ => none }
def FnExactParseIntWrongFalsely : Prop := fnExactParseIntRow.holds Try.pinned (OpenSpec.ofChange fnExactParseIntWrong)

/-- 'laws.FnExactFullComplex': WHATEVER THE INPUT: true; the input reads as it did. -/
def fnExactFullComplexSpec : ChangeSpec := { name := "fnExactFullComplex", fn := fun _ => fun
  | [d] => { results := [.lit (.bool true)], args := [d] }
  | _ => none }
def fnExactFullComplexRow : OpenClaim := { program := "ytjbojjjajnoidaa", sum := "d4d611dc458e2e982020440f23ccc4f3b2e7652169e4d0d4aa138bacfd3c0a2a", func := "loop.example/g03100/laws.FnExactFullComplex", spec := "fnExactFullComplex", apart := false }
def FnExactFullComplexSaid : Prop := fnExactFullComplexRow.holds Try.pinned (OpenSpec.ofChange fnExactFullComplexSpec)

/-- ITS FALSE NEIGHBOUR: 'it returns false'. Refute it at one input. -/
def fnExactFullComplexWrong : ChangeSpec := { name := "fnExactFullComplex", fn := fun _ => fun
  | [d] => { results := [.lit (.bool false)], args := [d] }
  | _ => none }
def FnExactFullComplexWrongFalsely : Prop := fnExactFullComplexRow.holds Try.pinned (OpenSpec.ofChange fnExactFullComplexWrong)

/-- 'laws.FnExactJoin': WHATEVER THE INPUT: true; the input reads as it did. -/
def fnExactJoinSpec : ChangeSpec := { name := "fnExactJoin", fn := fun _ => fun
  | [d1, d2] => { results := [.lit (.bool true)], args := [d1, d2] }
  | _ => none }
def fnExactJoinRow : OpenClaim := { program := "ytjbojjjajnoidaa", sum := "d4d611dc458e2e982020440f23ccc4f3b2e7652169e4d0d4aa138bacfd3c0a2a", func := "loop.example/g03100/laws.FnExactJoin", spec := "fnExactJoin", inPlace := ["internal/abi.NoEscape", "internal/bytealg.MakeNoZero"], apart := false }
def FnExactJoinSaid : Prop := fnExactJoinRow.holds Try.pinned (OpenSpec.ofChange fnExactJoinSpec)

/-- ITS FALSE NEIGHBOUR: 'it returns false'. Refute it at one input. -/
def fnExactJoinWrong : ChangeSpec := { name := "fnExactJoin", fn := fun _ => fun
  | [d1, d2] => { results := [.lit (.bool false)], args := [d1, d2] }
  | _ => none }
def FnExactJoinWrongFalsely : Prop := fnExactJoinRow.holds Try.pinned (OpenSpec.ofChange fnExactJoinWrong)

/-- 'laws.FnSplit': WHATEVER THE INPUT: true; the input reads as it did. -/
def fnSplitSpec : ChangeSpec := { name := "fnSplit", fn := fun _ => fun
  | [d] => { results := [.lit (.bool true)], args := [d] }
  | _ => none }
def fnSplitRow : OpenClaim := { program := "ytjbojjjajnoidaa", sum := "d4d611dc458e2e982020440f23ccc4f3b2e7652169e4d0d4aa138bacfd3c0a2a", func := "loop.example/g03100/laws.FnSplit", spec := "fnSplit", inPlace := ["internal/abi.NoEscape", "internal/bytealg.MakeNoZero"], apart := false }
def FnSplitSaid : Prop := fnSplitRow.holds Try.pinned (OpenSpec.ofChange fnSplitSpec)

/-- ITS FALSE NEIGHBOUR: 'it returns false'. Refute it at one input. -/
def fnSplitWrong : ChangeSpec := { name := "fnSplit", fn := fun _ => fun
  | [d] => { results := [.lit (.bool false)], args := [d] }
  | _ => none }
def FnSplitWrongFalsely : Prop := fnSplitRow.holds Try.pinned (OpenSpec.ofChange fnSplitWrong)

/-- 'laws.FnExactSubsetsOf': WHATEVER THE INPUT: true; the input reads as it did. -/
def fnExactSubsetsOfSpec : ChangeSpec := { name := "fnExactSubsetsOf", fn := fun _ => fun
  | [d] => { results := [.lit (.bool true)], args := [d] }
  | _ => none }
def fnExactSubsetsOfRow : OpenClaim := { program := "ytjbojjjajnoidaa", sum := "d4d611dc458e2e982020440f23ccc4f3b2e7652169e4d0d4aa138bacfd3c0a2a", func := "loop.example/g03100/laws.FnExactSubsetsOf", spec := "fnExactSubsetsOf", apart := false }
def FnExactSubsetsOfSaid : Prop := fnExactSubsetsOfRow.holds Try.pinned (OpenSpec.ofChange fnExactSubsetsOfSpec)

/-- ITS FALSE NEIGHBOUR: 'it returns false'. Refute it at one input. -/
def fnExactSubsetsOfWrong : ChangeSpec := { name := "fnExactSubsetsOf", fn := fun _ => fun
  | [d] => { results := [.lit (.bool false)], args := [d] }
  | _ => none }
def FnExactSubsetsOfWrongFalsely : Prop := fnExactSubsetsOfRow.holds Try.pinned (OpenSpec.ofChange fnExactSubsetsOfWrong)

/-- 'laws.FnExactOrderSets': WHATEVER THE INPUT: true; the input reads as it did. -/
def fnExactOrderSetsSpec : ChangeSpec := { name := "fnExactOrderSets", fn := fun _ => fun
  | [d] => { results := [.lit (.bool true)], args := [d] }
  | _ => none }
def fnExactOrderSetsRow : OpenClaim := { program := "ytjbojjjajnoidaa", sum := "d4d611dc458e2e982020440f23ccc4f3b2e7652169e4d0d4aa138bacfd3c0a2a", func := "loop.example/g03100/laws.FnExactOrderSets", spec := "fnExactOrderSets", apart := false }
def FnExactOrderSetsSaid : Prop := fnExactOrderSetsRow.holds Try.pinned (OpenSpec.ofChange fnExactOrderSetsSpec)

/-- ITS FALSE NEIGHBOUR: 'it returns false'. Refute it at one input. -/
def fnExactOrderSetsWrong : ChangeSpec := { name := "fnExactOrderSets", fn := fun _ => fun
  | [d] => { results := [.lit (.bool false)], args := [d] }
  | _ => none }
def FnExactOrderSetsWrongFalsely : Prop := fnExactOrderSetsRow.holds Try.pinned (OpenSpec.ofChange fnExactOrderSetsWrong)

/-- 'laws.FnExactSetsText': WHATEVER THE INPUT: true; the input reads as it did. -/
def fnExactSetsTextSpec : ChangeSpec := { name := "fnExactSetsText", fn := fun _ => fun
  | [d] => { results := [.lit (.bool true)], args := [d] }
  | _ => none }
def fnExactSetsTextRow : OpenClaim := { program := "ytjbojjjajnoidaa", sum := "d4d611dc458e2e982020440f23ccc4f3b2e7652169e4d0d4aa138bacfd3c0a2a", func := "loop.example/g03100/laws.FnExactSetsText", spec := "fnExactSetsText", inPlace := ["internal/abi.NoEscape", "internal/bytealg.MakeNoZero"], apart := false }
def FnExactSetsTextSaid : Prop := fnExactSetsTextRow.holds Try.pinned (OpenSpec.ofChange fnExactSetsTextSpec)

/-- ITS FALSE NEIGHBOUR: 'it returns false'. Refute it at one input. -/
def fnExactSetsTextWrong : ChangeSpec := { name := "fnExactSetsText", fn := fun _ => fun
  | [d] => { results := [.lit (.bool false)], args := [d] }
  | _ => none }
def FnExactSetsTextWrongFalsely : Prop := fnExactSetsTextRow.holds Try.pinned (OpenSpec.ofChange fnExactSetsTextWrong)

/-- 'laws.FnExactMinimalSets': WHATEVER THE INPUT: true; the input reads as it did. -/
def fnExactMinimalSetsSpec : ChangeSpec := { name := "fnExactMinimalSets", fn := fun _ => fun
  | [d] => { results := [.lit (.bool true)], args := [d] }
  | _ => none }
def fnExactMinimalSetsRow : OpenClaim := { program := "ytjbojjjajnoidaa", sum := "d4d611dc458e2e982020440f23ccc4f3b2e7652169e4d0d4aa138bacfd3c0a2a", func := "loop.example/g03100/laws.FnExactMinimalSets", spec := "fnExactMinimalSets", apart := false }
def FnExactMinimalSetsSaid : Prop := fnExactMinimalSetsRow.holds Try.pinned (OpenSpec.ofChange fnExactMinimalSetsSpec)

/-- ITS FALSE NEIGHBOUR: 'it returns false'. Refute it at one input. -/
def fnExactMinimalSetsWrong : ChangeSpec := { name := "fnExactMinimalSets", fn := fun _ => fun
  | [d] => { results := [.lit (.bool false)], args := [d] }
  | _ => none }
def FnExactMinimalSetsWrongFalsely : Prop := fnExactMinimalSetsRow.holds Try.pinned (OpenSpec.ofChange fnExactMinimalSetsWrong)

/-- 'laws.FnExactMaximalSets': WHATEVER THE INPUT: true; the input reads as it did. -/
def fnExactMaximalSetsSpec : ChangeSpec := { name := "fnExactMaximalSets", fn := fun _ => fun
  | [d] => { results := [.lit (.bool true)], args := [d] }
  | _ => none }
def fnExactMaximalSetsRow : OpenClaim := { program := "ytjbojjjajnoidaa", sum := "d4d611dc458e2e982020440f23ccc4f3b2e7652169e4d0d4aa138bacfd3c0a2a", func := "loop.example/g03100/laws.FnExactMaximalSets", spec := "fnExactMaximalSets", apart := false }
def FnExactMaximalSetsSaid : Prop := fnExactMaximalSetsRow.holds Try.pinned (OpenSpec.ofChange fnExactMaximalSetsSpec)

/-- ITS FALSE NEIGHBOUR: 'it returns false'. Refute it at one input. -/
def fnExactMaximalSetsWrong : ChangeSpec := { name := "fnExactMaximalSets", fn := fun _ => fun
  | [d] => { results := [.lit (.bool false)], args := [d] }
  | _ => none }
def FnExactMaximalSetsWrongFalsely : Prop := fnExactMaximalSetsRow.holds Try.pinned (OpenSpec.ofChange fnExactMaximalSetsWrong)

/- THE SECOND FORM. 'bulk': how many values and letters a reading holds, each counted each time it is reached (what is shared counts as often as it is met; a slice's spare places count too). A statement '..UptoSaid' is the law's where the arguments, and the package variables that the reading takes, are together of bulk at most 1048576: NARROWER than '..Said'. Prove '..Said' where nothing that the law and all that it calls make is longer than what came in: it says more and counts as full. Else prove '..UptoSaid'. A law counts once. -/
mutual
def uptoBulk {H : Type} : DataW H → Nat
  | .lit (.string bytes) => bytes.length + 1
  | .lit _ => 1
  | .nil => 1
  | .ptr d => uptoBulk d + 1
  | .slice elems spare => uptoBulkAll elems + uptoBulkAll spare + 1
  | .agg parts => uptoBulkAll parts + 1
  | .iface _ d => uptoBulk d + 1
  | .map entries => uptoBulkEntries entries + 1
  | .held _ => 1
def uptoBulkAll {H : Type} : List (DataW H) → Nat
  | [] => 0
  | d :: r => uptoBulk d + uptoBulkAll r
def uptoBulkEntries {H : Type} : List (Lit × DataW H) → Nat
  | [] => 0
  | x :: r => uptoBulkEntry x + uptoBulkEntries r
def uptoBulkEntry {H : Type} : Lit × DataW H → Nat
  | (.string bytes, d) => bytes.length + uptoBulk d + 1
  | (_, d) => uptoBulk d + 1
 end
def uptoSmall : (H : Type) → List (DataW H) → Bool := fun _ ds => decide (uptoBulkAll ds ≤ 1048576)
def OpenSpec.upto (s : _root_.Go.ChangeSpec) : _root_.Go.OpenSpec := { _root_.Go.OpenSpec.ofChange s with cond := some uptoSmall }

/-- 'laws.FnExactSizeOf', WHERE WHAT IT READS IS OF BULK AT MOST 1048576: true; the input reads as it did. -/
def fnExactSizeOfUptoRow : OpenClaim := { program := "ytjbojjjajnoidaa", sum := "d4d611dc458e2e982020440f23ccc4f3b2e7652169e4d0d4aa138bacfd3c0a2a", func := "loop.example/g03100/laws.FnExactSizeOf", spec := "fnExactSizeOf", apart := false, narrowed := true }
def FnExactSizeOfUptoSaid : Prop := fnExactSizeOfUptoRow.holds Try.pinned (OpenSpec.upto fnExactSizeOfSpec)

/-- 'laws.FnExactBeforeSet', WHERE WHAT IT READS IS OF BULK AT MOST 1048576: true; the input reads as it did. -/
def fnExactBeforeSetUptoRow : OpenClaim := { program := "ytjbojjjajnoidaa", sum := "d4d611dc458e2e982020440f23ccc4f3b2e7652169e4d0d4aa138bacfd3c0a2a", func := "loop.example/g03100/laws.FnExactBeforeSet", spec := "fnExactBeforeSet", apart := false, narrowed := true }
def FnExactBeforeSetUptoSaid : Prop := fnExactBeforeSetUptoRow.holds Try.pinned (OpenSpec.upto fnExactBeforeSetSpec)

/-- 'laws.FnExactParseNumber', WHERE WHAT IT READS IS OF BULK AT MOST 1048576: true; the input reads as it did. -/
def fnExactParseNumberUptoRow : OpenClaim := { program := "ytjbojjjajnoidaa", sum := "d4d611dc458e2e982020440f23ccc4f3b2e7652169e4d0d4aa138bacfd3c0a2a", func := "loop.example/g03100/laws.FnExactParseNumber", spec := "fnExactParseNumber", apart := false, narrowed := true }
def FnExactParseNumberUptoSaid : Prop := fnExactParseNumberUptoRow.holds Try.pinned (OpenSpec.upto fnExactParseNumberSpec)

/-- 'laws.FnExactParseInt', WHERE WHAT IT READS IS OF BULK AT MOST 1048576: true; the input reads as it did. -/
def fnExactParseIntUptoRow : OpenClaim := { program := "ytjbojjjajnoidaa", sum := "d4d611dc458e2e982020440f23ccc4f3b2e7652169e4d0d4aa138bacfd3c0a2a", func := "loop.example/g03100/laws.FnExactParseInt", spec := "fnExactParseInt", apart := false, narrowed := true }
def FnExactParseIntUptoSaid : Prop := fnExactParseIntUptoRow.holds Try.pinned (OpenSpec.upto fnExactParseIntSpec)

/-- 'laws.FnExactFullComplex', WHERE WHAT IT READS IS OF BULK AT MOST 1048576: true; the input reads as it did. -/
def fnExactFullComplexUptoRow : OpenClaim := { program := "ytjbojjjajnoidaa", sum := "d4d611dc458e2e982020440f23ccc4f3b2e7652169e4d0d4aa138bacfd3c0a2a", func := "loop.example/g03100/laws.FnExactFullComplex", spec := "fnExactFullComplex", apart := false, narrowed := true }
def FnExactFullComplexUptoSaid : Prop := fnExactFullComplexUptoRow.holds Try.pinned (OpenSpec.upto fnExactFullComplexSpec)

/-- 'laws.FnExactJoin', WHERE WHAT IT READS IS OF BULK AT MOST 1048576: true; the input reads as it did. -/
def fnExactJoinUptoRow : OpenClaim := { program := "ytjbojjjajnoidaa", sum := "d4d611dc458e2e982020440f23ccc4f3b2e7652169e4d0d4aa138bacfd3c0a2a", func := "loop.example/g03100/laws.FnExactJoin", spec := "fnExactJoin", inPlace := ["internal/abi.NoEscape", "internal/bytealg.MakeNoZero"], apart := false, narrowed := true }
def FnExactJoinUptoSaid : Prop := fnExactJoinUptoRow.holds Try.pinned (OpenSpec.upto fnExactJoinSpec)

/-- 'laws.FnSplit', WHERE WHAT IT READS IS OF BULK AT MOST 1048576: true; the input reads as it did. -/
def fnSplitUptoRow : OpenClaim := { program := "ytjbojjjajnoidaa", sum := "d4d611dc458e2e982020440f23ccc4f3b2e7652169e4d0d4aa138bacfd3c0a2a", func := "loop.example/g03100/laws.FnSplit", spec := "fnSplit", inPlace := ["internal/abi.NoEscape", "internal/bytealg.MakeNoZero"], apart := false, narrowed := true }
def FnSplitUptoSaid : Prop := fnSplitUptoRow.holds Try.pinned (OpenSpec.upto fnSplitSpec)

/-- 'laws.FnExactSubsetsOf', WHERE WHAT IT READS IS OF BULK AT MOST 1048576: true; the input reads as it did. -/
def fnExactSubsetsOfUptoRow : OpenClaim := { program := "ytjbojjjajnoidaa", sum := "d4d611dc458e2e982020440f23ccc4f3b2e7652169e4d0d4aa138bacfd3c0a2a", func := "loop.example/g03100/laws.FnExactSubsetsOf", spec := "fnExactSubsetsOf", apart := false, narrowed := true }
def FnExactSubsetsOfUptoSaid : Prop := fnExactSubsetsOfUptoRow.holds Try.pinned (OpenSpec.upto fnExactSubsetsOfSpec)

/-- 'laws.FnExactOrderSets', WHERE WHAT IT READS IS OF BULK AT MOST 1048576: true; the input reads as it did. -/
def fnExactOrderSetsUptoRow : OpenClaim := { program := "ytjbojjjajnoidaa", sum := "d4d611dc458e2e982020440f23ccc4f3b2e7652169e4d0d4aa138bacfd3c0a2a", func := "loop.example/g03100/laws.FnExactOrderSets", spec := "fnExactOrderSets", apart := false, narrowed := true }
def FnExactOrderSetsUptoSaid : Prop := fnExactOrderSetsUptoRow.holds Try.pinned (OpenSpec.upto fnExactOrderSetsSpec)

/-- 'laws.FnExactSetsText', WHERE WHAT IT READS IS OF BULK AT MOST 1048576: true; the input reads as it did. -/
def fnExactSetsTextUptoRow : OpenClaim := { program := "ytjbojjjajnoidaa", sum := "d4d611dc458e2e982020440f23ccc4f3b2e7652169e4d0d4aa138bacfd3c0a2a", func := "loop.example/g03100/laws.FnExactSetsText", spec := "fnExactSetsText", inPlace := ["internal/abi.NoEscape", "internal/bytealg.MakeNoZero"], apart := false, narrowed := true }
def FnExactSetsTextUptoSaid : Prop := fnExactSetsTextUptoRow.holds Try.pinned (OpenSpec.upto fnExactSetsTextSpec)

/-- 'laws.FnExactMinimalSets', WHERE WHAT IT READS IS OF BULK AT MOST 1048576: true; the input reads as it did. -/
def fnExactMinimalSetsUptoRow : OpenClaim := { program := "ytjbojjjajnoidaa", sum := "d4d611dc458e2e982020440f23ccc4f3b2e7652169e4d0d4aa138bacfd3c0a2a", func := "loop.example/g03100/laws.FnExactMinimalSets", spec := "fnExactMinimalSets", apart := false, narrowed := true }
def FnExactMinimalSetsUptoSaid : Prop := fnExactMinimalSetsUptoRow.holds Try.pinned (OpenSpec.upto fnExactMinimalSetsSpec)

/-- 'laws.FnExactMaximalSets', WHERE WHAT IT READS IS OF BULK AT MOST 1048576: true; the input reads as it did. -/
def fnExactMaximalSetsUptoRow : OpenClaim := { program := "ytjbojjjajnoidaa", sum := "d4d611dc458e2e982020440f23ccc4f3b2e7652169e4d0d4aa138bacfd3c0a2a", func := "loop.example/g03100/laws.FnExactMaximalSets", spec := "fnExactMaximalSets", apart := false, narrowed := true }
def FnExactMaximalSetsUptoSaid : Prop := fnExactMaximalSetsUptoRow.holds Try.pinned (OpenSpec.upto fnExactMaximalSetsSpec)

end Rows
end Go.Proofs.Ytjbojjjajnoidaa
