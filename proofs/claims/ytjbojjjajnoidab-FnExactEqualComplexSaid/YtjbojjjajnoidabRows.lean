/-
  No cell of these rows narrows 'for every input' (looked for: loops, veiled, ifaces, maps, wideKeys, modest, calm, conditions, laid).
  DERIVED. THE GIVEN ROWS OF THIS SEAT. 12 by the template 'for every input the law returns true; each argument reads behind the call as it read before'; 0 by the template 'total and deterministic' (their statements: YtjbojjjajnoidabTotals.lean).
  GIVEN WITH THE SEED: the statements are not yours to turn. If you find one false, say at which input.
  Laid BY PROGRAM, IN A SANDBOX (cutbox-rows.mjs): the forced cells as the released guide's own fill.sh prints them over the translation c7a8ab97865c78d2… (all of the seat's roots in one cut). By AI agents, Wed Nov 11 2026. No macro, syntax, notation, axiom, sorry.
-/
import Derived.Test.YtjbojjjajnoidabChecked
import GoSem.Claim
import GoSem.ClaimJoined
import GoSem.ClaimMapViews
import Derived.JoinedTies
import Derived.KernelRfl
namespace Go.Proofs.Ytjbojjjajnoidab
/- THE CELL 'sum', in the pinned program and in every row, IS THE sha256 OF THE DUMP (.gsa) THAT YtjbojjjajnoidabProg.lean LOADS. Nothing in Lean hashes anything: it is a label: what it is worth is what the hold of that sum in a sandbox is worth. -/
noncomputable def Try.pinned : Pinned := { name := "ytjbojjjajnoidab", sum := "c7a8ab97865c78d2535cf3979065ad706d93c506caa5d49c745deaa281f31dc5", checked := Try.checked }
namespace Rows
def none {H : Type} : Left H := { results := [], args := [] }

/-- 'laws.FnExactEqualComplex': WHATEVER THE INPUT: true; the input reads as it did. -/
def fnExactEqualComplexSpec : ChangeSpec := { name := "fnExactEqualComplex", fn := fun _ => fun
  | [d1, d2] => { results := [.lit (.bool true)], args := [d1, d2] }
  | _ => none }
def fnExactEqualComplexRow : OpenClaim := { program := "ytjbojjjajnoidab", sum := "c7a8ab97865c78d2535cf3979065ad706d93c506caa5d49c745deaa281f31dc5", func := "loop.example/g03100/laws.FnExactEqualComplex", spec := "fnExactEqualComplex", apart := false }
def FnExactEqualComplexSaid : Prop := fnExactEqualComplexRow.holds Try.pinned (OpenSpec.ofChange fnExactEqualComplexSpec)

/-- ITS FALSE NEIGHBOUR: 'it returns false'. Refute it at one input. -/
def fnExactEqualComplexWrong : ChangeSpec := { name := "fnExactEqualComplex", fn := fun _ => fun
  | [d1, d2] => { results := [.lit (.bool false)], args := [d1, d2] }
  | _ => none }
def FnExactEqualComplexWrongFalsely : Prop := fnExactEqualComplexRow.holds Try.pinned (OpenSpec.ofChange fnExactEqualComplexWrong)

/-- 'laws.FnExactIsComplex': WHATEVER THE INPUT: true; the input reads as it did. -/
def fnExactIsComplexSpec : ChangeSpec := { name := "fnExactIsComplex", fn := fun _ => fun
  | [d] => { results := [.lit (.bool true)], args := [d] }
  | _ => none }
def fnExactIsComplexRow : OpenClaim := { program := "ytjbojjjajnoidab", sum := "c7a8ab97865c78d2535cf3979065ad706d93c506caa5d49c745deaa281f31dc5", func := "loop.example/g03100/laws.FnExactIsComplex", spec := "fnExactIsComplex", apart := false }
def FnExactIsComplexSaid : Prop := fnExactIsComplexRow.holds Try.pinned (OpenSpec.ofChange fnExactIsComplexSpec)

/-- ITS FALSE NEIGHBOUR: 'it returns false'. Refute it at one input. -/
def fnExactIsComplexWrong : ChangeSpec := { name := "fnExactIsComplex", fn := fun _ => fun
  | [d] => { results := [.lit (.bool false)], args := [d] }
  | _ => none }
def FnExactIsComplexWrongFalsely : Prop := fnExactIsComplexRow.holds Try.pinned (OpenSpec.ofChange fnExactIsComplexWrong)

/-- 'laws.FnExactIsSimplex': WHATEVER THE INPUT: true; the input reads as it did. -/
def fnExactIsSimplexSpec : ChangeSpec := { name := "fnExactIsSimplex", fn := fun _ => fun
  | [d] => { results := [.lit (.bool true)], args := [d] }
  | _ => none }
def fnExactIsSimplexRow : OpenClaim := { program := "ytjbojjjajnoidab", sum := "c7a8ab97865c78d2535cf3979065ad706d93c506caa5d49c745deaa281f31dc5", func := "loop.example/g03100/laws.FnExactIsSimplex", spec := "fnExactIsSimplex", apart := false }
def FnExactIsSimplexSaid : Prop := fnExactIsSimplexRow.holds Try.pinned (OpenSpec.ofChange fnExactIsSimplexSpec)

/-- ITS FALSE NEIGHBOUR: 'it returns false'. Refute it at one input. -/
def fnExactIsSimplexWrong : ChangeSpec := { name := "fnExactIsSimplex", fn := fun _ => fun
  | [d] => { results := [.lit (.bool false)], args := [d] }
  | _ => none }
def FnExactIsSimplexWrongFalsely : Prop := fnExactIsSimplexRow.holds Try.pinned (OpenSpec.ofChange fnExactIsSimplexWrong)

/-- 'laws.FnExactUsedPoints': WHATEVER THE INPUT: true; the input reads as it did. -/
def fnExactUsedPointsSpec : ChangeSpec := { name := "fnExactUsedPoints", fn := fun _ => fun
  | [d] => { results := [.lit (.bool true)], args := [d] }
  | _ => none }
def fnExactUsedPointsRow : OpenClaim := { program := "ytjbojjjajnoidab", sum := "c7a8ab97865c78d2535cf3979065ad706d93c506caa5d49c745deaa281f31dc5", func := "loop.example/g03100/laws.FnExactUsedPoints", spec := "fnExactUsedPoints", apart := false }
def FnExactUsedPointsSaid : Prop := fnExactUsedPointsRow.holds Try.pinned (OpenSpec.ofChange fnExactUsedPointsSpec)

/-- ITS FALSE NEIGHBOUR: 'it returns false'. Refute it at one input. -/
def fnExactUsedPointsWrong : ChangeSpec := { name := "fnExactUsedPoints", fn := fun _ => fun
  | [d] => { results := [.lit (.bool false)], args := [d] }
  | _ => none }
def FnExactUsedPointsWrongFalsely : Prop := fnExactUsedPointsRow.holds Try.pinned (OpenSpec.ofChange fnExactUsedPointsWrong)

/-- 'laws.FnExactIsPure': WHATEVER THE INPUT: true; the input reads as it did. -/
def fnExactIsPureSpec : ChangeSpec := { name := "fnExactIsPure", fn := fun _ => fun
  | [d] => { results := [.lit (.bool true)], args := [d] }
  | _ => none }
def fnExactIsPureRow : OpenClaim := { program := "ytjbojjjajnoidab", sum := "c7a8ab97865c78d2535cf3979065ad706d93c506caa5d49c745deaa281f31dc5", func := "loop.example/g03100/laws.FnExactIsPure", spec := "fnExactIsPure", apart := false }
def FnExactIsPureSaid : Prop := fnExactIsPureRow.holds Try.pinned (OpenSpec.ofChange fnExactIsPureSpec)

/-- ITS FALSE NEIGHBOUR: 'it returns false'. Refute it at one input. -/
def fnExactIsPureWrong : ChangeSpec := { name := "fnExactIsPure", fn := fun _ => fun
  | [d] => { results := [.lit (.bool false)], args := [d] }
  | _ => none }
def FnExactIsPureWrongFalsely : Prop := fnExactIsPureRow.holds Try.pinned (OpenSpec.ofChange fnExactIsPureWrong)

/-- 'laws.FnExactConePoints': WHATEVER THE INPUT: true; the input reads as it did. -/
def fnExactConePointsSpec : ChangeSpec := { name := "fnExactConePoints", fn := fun _ => fun
  | [d] => { results := [.lit (.bool true)], args := [d] }
  | _ => none }
def fnExactConePointsRow : OpenClaim := { program := "ytjbojjjajnoidab", sum := "c7a8ab97865c78d2535cf3979065ad706d93c506caa5d49c745deaa281f31dc5", func := "loop.example/g03100/laws.FnExactConePoints", spec := "fnExactConePoints", apart := false }
def FnExactConePointsSaid : Prop := fnExactConePointsRow.holds Try.pinned (OpenSpec.ofChange fnExactConePointsSpec)

/-- ITS FALSE NEIGHBOUR: 'it returns false'. Refute it at one input. -/
def fnExactConePointsWrong : ChangeSpec := { name := "fnExactConePoints", fn := fun _ => fun
  | [d] => { results := [.lit (.bool false)], args := [d] }
  | _ => none }
def FnExactConePointsWrongFalsely : Prop := fnExactConePointsRow.holds Try.pinned (OpenSpec.ofChange fnExactConePointsWrong)

/-- 'laws.FnExactDegreeOf': WHATEVER THE INPUT: true; the input reads as it did. -/
def fnExactDegreeOfSpec : ChangeSpec := { name := "fnExactDegreeOf", fn := fun _ => fun
  | [d1, d2] => { results := [.lit (.bool true)], args := [d1, d2] }
  | _ => none }
def fnExactDegreeOfRow : OpenClaim := { program := "ytjbojjjajnoidab", sum := "c7a8ab97865c78d2535cf3979065ad706d93c506caa5d49c745deaa281f31dc5", func := "loop.example/g03100/laws.FnExactDegreeOf", spec := "fnExactDegreeOf", apart := false }
def FnExactDegreeOfSaid : Prop := fnExactDegreeOfRow.holds Try.pinned (OpenSpec.ofChange fnExactDegreeOfSpec)

/-- ITS FALSE NEIGHBOUR: 'it returns false'. Refute it at one input. -/
def fnExactDegreeOfWrong : ChangeSpec := { name := "fnExactDegreeOf", fn := fun _ => fun
  | [d1, d2] => { results := [.lit (.bool false)], args := [d1, d2] }
  | _ => none }
def FnExactDegreeOfWrongFalsely : Prop := fnExactDegreeOfRow.holds Try.pinned (OpenSpec.ofChange fnExactDegreeOfWrong)

/-- 'laws.FnExactHasFace': WHATEVER THE INPUT: true; the input reads as it did. -/
def fnExactHasFaceSpec : ChangeSpec := { name := "fnExactHasFace", fn := fun _ => fun
  | [d1, d2] => { results := [.lit (.bool true)], args := [d1, d2] }
  | _ => none }
def fnExactHasFaceRow : OpenClaim := { program := "ytjbojjjajnoidab", sum := "c7a8ab97865c78d2535cf3979065ad706d93c506caa5d49c745deaa281f31dc5", func := "loop.example/g03100/laws.FnExactHasFace", spec := "fnExactHasFace", apart := false }
def FnExactHasFaceSaid : Prop := fnExactHasFaceRow.holds Try.pinned (OpenSpec.ofChange fnExactHasFaceSpec)

/-- ITS FALSE NEIGHBOUR: 'it returns false'. Refute it at one input. -/
def fnExactHasFaceWrong : ChangeSpec := { name := "fnExactHasFace", fn := fun _ => fun
  | [d1, d2] => { results := [.lit (.bool false)], args := [d1, d2] }
  | _ => none }
def FnExactHasFaceWrongFalsely : Prop := fnExactHasFaceRow.holds Try.pinned (OpenSpec.ofChange fnExactHasFaceWrong)

/-- 'laws.FnExactDimOf': WHATEVER THE INPUT: true; the input reads as it did. -/
def fnExactDimOfSpec : ChangeSpec := { name := "fnExactDimOf", fn := fun _ => fun
  | [d] => { results := [.lit (.bool true)], args := [d] }
  | _ => none }
def fnExactDimOfRow : OpenClaim := { program := "ytjbojjjajnoidab", sum := "c7a8ab97865c78d2535cf3979065ad706d93c506caa5d49c745deaa281f31dc5", func := "loop.example/g03100/laws.FnExactDimOf", spec := "fnExactDimOf", apart := false }
def FnExactDimOfSaid : Prop := fnExactDimOfRow.holds Try.pinned (OpenSpec.ofChange fnExactDimOfSpec)

/-- ITS FALSE NEIGHBOUR: 'it returns false'. Refute it at one input. -/
def fnExactDimOfWrong : ChangeSpec := { name := "fnExactDimOf", fn := fun _ => fun
  | [d] => { results := [.lit (.bool false)], args := [d] }
  | _ => none }
def FnExactDimOfWrongFalsely : Prop := fnExactDimOfRow.holds Try.pinned (OpenSpec.ofChange fnExactDimOfWrong)

/-- 'laws.FnExactBorderComplex': WHATEVER THE INPUT: true; the input reads as it did. -/
def fnExactBorderComplexSpec : ChangeSpec := { name := "fnExactBorderComplex", fn := fun _ => fun
  | [d] => { results := [.lit (.bool true)], args := [d] }
  | _ => none }
def fnExactBorderComplexRow : OpenClaim := { program := "ytjbojjjajnoidab", sum := "c7a8ab97865c78d2535cf3979065ad706d93c506caa5d49c745deaa281f31dc5", func := "loop.example/g03100/laws.FnExactBorderComplex", spec := "fnExactBorderComplex", apart := false }
def FnExactBorderComplexSaid : Prop := fnExactBorderComplexRow.holds Try.pinned (OpenSpec.ofChange fnExactBorderComplexSpec)

/-- ITS FALSE NEIGHBOUR: 'it returns false'. Refute it at one input. -/
def fnExactBorderComplexWrong : ChangeSpec := { name := "fnExactBorderComplex", fn := fun _ => fun
  | [d] => { results := [.lit (.bool false)], args := [d] }
  | _ => none }
def FnExactBorderComplexWrongFalsely : Prop := fnExactBorderComplexRow.holds Try.pinned (OpenSpec.ofChange fnExactBorderComplexWrong)

/-- 'laws.FnExactCrossComplex': WHATEVER THE INPUT: true; the input reads as it did. -/
def fnExactCrossComplexSpec : ChangeSpec := { name := "fnExactCrossComplex", fn := fun _ => fun
  | [d] => { results := [.lit (.bool true)], args := [d] }
  | _ => none }
def fnExactCrossComplexRow : OpenClaim := { program := "ytjbojjjajnoidab", sum := "c7a8ab97865c78d2535cf3979065ad706d93c506caa5d49c745deaa281f31dc5", func := "loop.example/g03100/laws.FnExactCrossComplex", spec := "fnExactCrossComplex", unfollowed := true, recurses := true, apart := false }
def FnExactCrossComplexSaid : Prop := fnExactCrossComplexRow.holds Try.pinned (OpenSpec.ofChange fnExactCrossComplexSpec)

/-- ITS FALSE NEIGHBOUR: 'it returns false'. Refute it at one input. -/
def fnExactCrossComplexWrong : ChangeSpec := { name := "fnExactCrossComplex", fn := fun _ => fun
  | [d] => { results := [.lit (.bool false)], args := [d] }
  | _ => none }
def FnExactCrossComplexWrongFalsely : Prop := fnExactCrossComplexRow.holds Try.pinned (OpenSpec.ofChange fnExactCrossComplexWrong)

/-- 'laws.FnExactMakeComplex': WHATEVER THE INPUT: true; the input reads as it did. -/
def fnExactMakeComplexSpec : ChangeSpec := { name := "fnExactMakeComplex", fn := fun _ => fun
  | [d1, d2] => { results := [.lit (.bool true)], args := [d1, d2] }
  | _ => none }
def fnExactMakeComplexRow : OpenClaim := { program := "ytjbojjjajnoidab", sum := "c7a8ab97865c78d2535cf3979065ad706d93c506caa5d49c745deaa281f31dc5", func := "loop.example/g03100/laws.FnExactMakeComplex", spec := "fnExactMakeComplex", apart := false }
def FnExactMakeComplexSaid : Prop := fnExactMakeComplexRow.holds Try.pinned (OpenSpec.ofChange fnExactMakeComplexSpec)

/-- ITS FALSE NEIGHBOUR: 'it returns false'. Refute it at one input. -/
def fnExactMakeComplexWrong : ChangeSpec := { name := "fnExactMakeComplex", fn := fun _ => fun
  | [d1, d2] => { results := [.lit (.bool false)], args := [d1, d2] }
  | _ => none }
def FnExactMakeComplexWrongFalsely : Prop := fnExactMakeComplexRow.holds Try.pinned (OpenSpec.ofChange fnExactMakeComplexWrong)

/- THE SECOND FORM. 'bulk': how many values and letters a reading holds, each counted each time it is reached (what is shared counts as often as it is met; a slice's spare places count too). A statement '..UptoSaid' is the law's where the arguments, and the package variables that the reading takes, are together of bulk at most 1048576: NARROWER than '..Said'. Prove '..Said' where nothing that the law and all that it calls make is longer than what came in: it says more and counts as full. Else prove '..UptoSaid'. A law counts once. -/
mutual
def uptoBulk {H : Type} : DataW H → Nat
  | .lit (.string bytes) => bytes.length + 1
  | .lit _ => 1
  | .nil => 1
  | .ptr d => uptoBulk d + 1
  | .slice elems spare => uptoBulkAll elems + uptoBulkAll spare + 1
  | .agg parts => uptoBulkAll parts + 1
  | .iface _ d => uptoBulk d + 1
  | .map entries => uptoBulkEntries entries + 1
  | .held _ => 1
def uptoBulkAll {H : Type} : List (DataW H) → Nat
  | [] => 0
  | d :: r => uptoBulk d + uptoBulkAll r
def uptoBulkEntries {H : Type} : List (Lit × DataW H) → Nat
  | [] => 0
  | x :: r => uptoBulkEntry x + uptoBulkEntries r
def uptoBulkEntry {H : Type} : Lit × DataW H → Nat
  | (.string bytes, d) => bytes.length + uptoBulk d + 1
  | (_, d) => uptoBulk d + 1
 end
def uptoSmall : (H : Type) → List (DataW H) → Bool := fun _ ds => decide (uptoBulkAll ds ≤ 1048576)
def OpenSpec.upto (s : _root_.Go.ChangeSpec) : _root_.Go.OpenSpec := { _root_.Go.OpenSpec.ofChange s with cond := some uptoSmall }

/-- 'laws.FnExactEqualComplex', WHERE WHAT IT READS IS OF BULK AT MOST 1048576: true; the input reads as it did. -/
def fnExactEqualComplexUptoRow : OpenClaim := { program := "ytjbojjjajnoidab", sum := "c7a8ab97865c78d2535cf3979065ad706d93c506caa5d49c745deaa281f31dc5", func := "loop.example/g03100/laws.FnExactEqualComplex", spec := "fnExactEqualComplex", apart := false, narrowed := true }
def FnExactEqualComplexUptoSaid : Prop := fnExactEqualComplexUptoRow.holds Try.pinned (OpenSpec.upto fnExactEqualComplexSpec)

/-- 'laws.FnExactIsComplex', WHERE WHAT IT READS IS OF BULK AT MOST 1048576: true; the input reads as it did. -/
def fnExactIsComplexUptoRow : OpenClaim := { program := "ytjbojjjajnoidab", sum := "c7a8ab97865c78d2535cf3979065ad706d93c506caa5d49c745deaa281f31dc5", func := "loop.example/g03100/laws.FnExactIsComplex", spec := "fnExactIsComplex", apart := false, narrowed := true }
def FnExactIsComplexUptoSaid : Prop := fnExactIsComplexUptoRow.holds Try.pinned (OpenSpec.upto fnExactIsComplexSpec)

/-- 'laws.FnExactIsSimplex', WHERE WHAT IT READS IS OF BULK AT MOST 1048576: true; the input reads as it did. -/
def fnExactIsSimplexUptoRow : OpenClaim := { program := "ytjbojjjajnoidab", sum := "c7a8ab97865c78d2535cf3979065ad706d93c506caa5d49c745deaa281f31dc5", func := "loop.example/g03100/laws.FnExactIsSimplex", spec := "fnExactIsSimplex", apart := false, narrowed := true }
def FnExactIsSimplexUptoSaid : Prop := fnExactIsSimplexUptoRow.holds Try.pinned (OpenSpec.upto fnExactIsSimplexSpec)

/-- 'laws.FnExactUsedPoints', WHERE WHAT IT READS IS OF BULK AT MOST 1048576: true; the input reads as it did. -/
def fnExactUsedPointsUptoRow : OpenClaim := { program := "ytjbojjjajnoidab", sum := "c7a8ab97865c78d2535cf3979065ad706d93c506caa5d49c745deaa281f31dc5", func := "loop.example/g03100/laws.FnExactUsedPoints", spec := "fnExactUsedPoints", apart := false, narrowed := true }
def FnExactUsedPointsUptoSaid : Prop := fnExactUsedPointsUptoRow.holds Try.pinned (OpenSpec.upto fnExactUsedPointsSpec)

/-- 'laws.FnExactIsPure', WHERE WHAT IT READS IS OF BULK AT MOST 1048576: true; the input reads as it did. -/
def fnExactIsPureUptoRow : OpenClaim := { program := "ytjbojjjajnoidab", sum := "c7a8ab97865c78d2535cf3979065ad706d93c506caa5d49c745deaa281f31dc5", func := "loop.example/g03100/laws.FnExactIsPure", spec := "fnExactIsPure", apart := false, narrowed := true }
def FnExactIsPureUptoSaid : Prop := fnExactIsPureUptoRow.holds Try.pinned (OpenSpec.upto fnExactIsPureSpec)

/-- 'laws.FnExactConePoints', WHERE WHAT IT READS IS OF BULK AT MOST 1048576: true; the input reads as it did. -/
def fnExactConePointsUptoRow : OpenClaim := { program := "ytjbojjjajnoidab", sum := "c7a8ab97865c78d2535cf3979065ad706d93c506caa5d49c745deaa281f31dc5", func := "loop.example/g03100/laws.FnExactConePoints", spec := "fnExactConePoints", apart := false, narrowed := true }
def FnExactConePointsUptoSaid : Prop := fnExactConePointsUptoRow.holds Try.pinned (OpenSpec.upto fnExactConePointsSpec)

/-- 'laws.FnExactDegreeOf', WHERE WHAT IT READS IS OF BULK AT MOST 1048576: true; the input reads as it did. -/
def fnExactDegreeOfUptoRow : OpenClaim := { program := "ytjbojjjajnoidab", sum := "c7a8ab97865c78d2535cf3979065ad706d93c506caa5d49c745deaa281f31dc5", func := "loop.example/g03100/laws.FnExactDegreeOf", spec := "fnExactDegreeOf", apart := false, narrowed := true }
def FnExactDegreeOfUptoSaid : Prop := fnExactDegreeOfUptoRow.holds Try.pinned (OpenSpec.upto fnExactDegreeOfSpec)

/-- 'laws.FnExactHasFace', WHERE WHAT IT READS IS OF BULK AT MOST 1048576: true; the input reads as it did. -/
def fnExactHasFaceUptoRow : OpenClaim := { program := "ytjbojjjajnoidab", sum := "c7a8ab97865c78d2535cf3979065ad706d93c506caa5d49c745deaa281f31dc5", func := "loop.example/g03100/laws.FnExactHasFace", spec := "fnExactHasFace", apart := false, narrowed := true }
def FnExactHasFaceUptoSaid : Prop := fnExactHasFaceUptoRow.holds Try.pinned (OpenSpec.upto fnExactHasFaceSpec)

/-- 'laws.FnExactDimOf', WHERE WHAT IT READS IS OF BULK AT MOST 1048576: true; the input reads as it did. -/
def fnExactDimOfUptoRow : OpenClaim := { program := "ytjbojjjajnoidab", sum := "c7a8ab97865c78d2535cf3979065ad706d93c506caa5d49c745deaa281f31dc5", func := "loop.example/g03100/laws.FnExactDimOf", spec := "fnExactDimOf", apart := false, narrowed := true }
def FnExactDimOfUptoSaid : Prop := fnExactDimOfUptoRow.holds Try.pinned (OpenSpec.upto fnExactDimOfSpec)

/-- 'laws.FnExactBorderComplex', WHERE WHAT IT READS IS OF BULK AT MOST 1048576: true; the input reads as it did. -/
def fnExactBorderComplexUptoRow : OpenClaim := { program := "ytjbojjjajnoidab", sum := "c7a8ab97865c78d2535cf3979065ad706d93c506caa5d49c745deaa281f31dc5", func := "loop.example/g03100/laws.FnExactBorderComplex", spec := "fnExactBorderComplex", apart := false, narrowed := true }
def FnExactBorderComplexUptoSaid : Prop := fnExactBorderComplexUptoRow.holds Try.pinned (OpenSpec.upto fnExactBorderComplexSpec)

/-- 'laws.FnExactCrossComplex', WHERE WHAT IT READS IS OF BULK AT MOST 1048576: true; the input reads as it did. -/
def fnExactCrossComplexUptoRow : OpenClaim := { program := "ytjbojjjajnoidab", sum := "c7a8ab97865c78d2535cf3979065ad706d93c506caa5d49c745deaa281f31dc5", func := "loop.example/g03100/laws.FnExactCrossComplex", spec := "fnExactCrossComplex", unfollowed := true, recurses := true, apart := false, narrowed := true }
def FnExactCrossComplexUptoSaid : Prop := fnExactCrossComplexUptoRow.holds Try.pinned (OpenSpec.upto fnExactCrossComplexSpec)

/-- 'laws.FnExactMakeComplex', WHERE WHAT IT READS IS OF BULK AT MOST 1048576: true; the input reads as it did. -/
def fnExactMakeComplexUptoRow : OpenClaim := { program := "ytjbojjjajnoidab", sum := "c7a8ab97865c78d2535cf3979065ad706d93c506caa5d49c745deaa281f31dc5", func := "loop.example/g03100/laws.FnExactMakeComplex", spec := "fnExactMakeComplex", apart := false, narrowed := true }
def FnExactMakeComplexUptoSaid : Prop := fnExactMakeComplexUptoRow.holds Try.pinned (OpenSpec.upto fnExactMakeComplexSpec)

end Rows
end Go.Proofs.Ytjbojjjajnoidab
