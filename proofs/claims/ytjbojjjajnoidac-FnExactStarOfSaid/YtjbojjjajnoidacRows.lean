/-
  No cell of these rows narrows 'for every input' (looked for: loops, veiled, ifaces, maps, wideKeys, modest, calm, conditions, laid).
  DERIVED. THE GIVEN ROWS OF THIS SEAT. 12 by the template 'for every input the law returns true; each argument reads behind the call as it read before'; 0 by the template 'total and deterministic' (their statements: YtjbojjjajnoidacTotals.lean).
  GIVEN WITH THE SEED: the statements are not yours to turn. If you find one false, say at which input.
  Laid BY PROGRAM, IN A SANDBOX (cutbox-rows.mjs): the forced cells as the released guide's own fill.sh prints them over the translation fbb567c07893dd21… (all of the seat's roots in one cut). By AI agents, Wed Nov 11 2026. No macro, syntax, notation, axiom, sorry.
-/
import Derived.Test.YtjbojjjajnoidacChecked
import GoSem.Claim
import GoSem.ClaimJoined
import GoSem.ClaimMapViews
import Derived.JoinedTies
import Derived.KernelRfl
namespace Go.Proofs.Ytjbojjjajnoidac
/- THE CELL 'sum', in the pinned program and in every row, IS THE sha256 OF THE DUMP (.gsa) THAT YtjbojjjajnoidacProg.lean LOADS. Nothing in Lean hashes anything: it is a label: what it is worth is what the hold of that sum in a sandbox is worth. -/
noncomputable def Try.pinned : Pinned := { name := "ytjbojjjajnoidac", sum := "fbb567c07893dd21103d0e4b7796fafaa439144120369b854ed3a42c5ca34e97", checked := Try.checked }
namespace Rows
def none {H : Type} : Left H := { results := [], args := [] }

/-- 'laws.FnExactFacesOf': WHATEVER THE INPUT: true; the input reads as it did. -/
def fnExactFacesOfSpec : ChangeSpec := { name := "fnExactFacesOf", fn := fun _ => fun
  | [d] => { results := [.lit (.bool true)], args := [d] }
  | _ => none }
def fnExactFacesOfRow : OpenClaim := { program := "ytjbojjjajnoidac", sum := "fbb567c07893dd21103d0e4b7796fafaa439144120369b854ed3a42c5ca34e97", func := "loop.example/g03100/laws.FnExactFacesOf", spec := "fnExactFacesOf", apart := false }
def FnExactFacesOfSaid : Prop := fnExactFacesOfRow.holds Try.pinned (OpenSpec.ofChange fnExactFacesOfSpec)

/-- ITS FALSE NEIGHBOUR: 'it returns false'. Refute it at one input. -/
def fnExactFacesOfWrong : ChangeSpec := { name := "fnExactFacesOf", fn := fun _ => fun
  | [d] => { results := [.lit (.bool false)], args := [d] }
  | _ => none }
def FnExactFacesOfWrongFalsely : Prop := fnExactFacesOfRow.holds Try.pinned (OpenSpec.ofChange fnExactFacesOfWrong)

/-- 'laws.FnExactEulerOf': WHATEVER THE INPUT: true; the input reads as it did. -/
def fnExactEulerOfSpec : ChangeSpec := { name := "fnExactEulerOf", fn := fun _ => fun
  | [d] => { results := [.lit (.bool true)], args := [d] }
  | _ => none }
def fnExactEulerOfRow : OpenClaim := { program := "ytjbojjjajnoidac", sum := "fbb567c07893dd21103d0e4b7796fafaa439144120369b854ed3a42c5ca34e97", func := "loop.example/g03100/laws.FnExactEulerOf", spec := "fnExactEulerOf", apart := false }
def FnExactEulerOfSaid : Prop := fnExactEulerOfRow.holds Try.pinned (OpenSpec.ofChange fnExactEulerOfSpec)

/-- ITS FALSE NEIGHBOUR: 'it returns false'. Refute it at one input. -/
def fnExactEulerOfWrong : ChangeSpec := { name := "fnExactEulerOf", fn := fun _ => fun
  | [d] => { results := [.lit (.bool false)], args := [d] }
  | _ => none }
def FnExactEulerOfWrongFalsely : Prop := fnExactEulerOfRow.holds Try.pinned (OpenSpec.ofChange fnExactEulerOfWrong)

/-- 'laws.FnExactFacesOfSize': WHATEVER THE INPUT: true; the input reads as it did. -/
def fnExactFacesOfSizeSpec : ChangeSpec := { name := "fnExactFacesOfSize", fn := fun _ => fun
  | [d1, d2] => { results := [.lit (.bool true)], args := [d1, d2] }
  | _ => none }
def fnExactFacesOfSizeRow : OpenClaim := { program := "ytjbojjjajnoidac", sum := "fbb567c07893dd21103d0e4b7796fafaa439144120369b854ed3a42c5ca34e97", func := "loop.example/g03100/laws.FnExactFacesOfSize", spec := "fnExactFacesOfSize", apart := false }
def FnExactFacesOfSizeSaid : Prop := fnExactFacesOfSizeRow.holds Try.pinned (OpenSpec.ofChange fnExactFacesOfSizeSpec)

/-- ITS FALSE NEIGHBOUR: 'it returns false'. Refute it at one input. -/
def fnExactFacesOfSizeWrong : ChangeSpec := { name := "fnExactFacesOfSize", fn := fun _ => fun
  | [d1, d2] => { results := [.lit (.bool false)], args := [d1, d2] }
  | _ => none }
def FnExactFacesOfSizeWrongFalsely : Prop := fnExactFacesOfSizeRow.holds Try.pinned (OpenSpec.ofChange fnExactFacesOfSizeWrong)

/-- 'laws.FnExactFaceCounts': WHATEVER THE INPUT: true; the input reads as it did. -/
def fnExactFaceCountsSpec : ChangeSpec := { name := "fnExactFaceCounts", fn := fun _ => fun
  | [d] => { results := [.lit (.bool true)], args := [d] }
  | _ => none }
def fnExactFaceCountsRow : OpenClaim := { program := "ytjbojjjajnoidac", sum := "fbb567c07893dd21103d0e4b7796fafaa439144120369b854ed3a42c5ca34e97", func := "loop.example/g03100/laws.FnExactFaceCounts", spec := "fnExactFaceCounts", apart := false }
def FnExactFaceCountsSaid : Prop := fnExactFaceCountsRow.holds Try.pinned (OpenSpec.ofChange fnExactFaceCountsSpec)

/-- ITS FALSE NEIGHBOUR: 'it returns false'. Refute it at one input. -/
def fnExactFaceCountsWrong : ChangeSpec := { name := "fnExactFaceCounts", fn := fun _ => fun
  | [d] => { results := [.lit (.bool false)], args := [d] }
  | _ => none }
def FnExactFaceCountsWrongFalsely : Prop := fnExactFaceCountsRow.holds Try.pinned (OpenSpec.ofChange fnExactFaceCountsWrong)

/-- 'laws.FnExactUnionOf': WHATEVER THE INPUT: true; the input reads as it did. -/
def fnExactUnionOfSpec : ChangeSpec := { name := "fnExactUnionOf", fn := fun _ => fun
  | [d1, d2] => { results := [.lit (.bool true)], args := [d1, d2] }
  | _ => none }
def fnExactUnionOfRow : OpenClaim := { program := "ytjbojjjajnoidac", sum := "fbb567c07893dd21103d0e4b7796fafaa439144120369b854ed3a42c5ca34e97", func := "loop.example/g03100/laws.FnExactUnionOf", spec := "fnExactUnionOf", apart := false }
def FnExactUnionOfSaid : Prop := fnExactUnionOfRow.holds Try.pinned (OpenSpec.ofChange fnExactUnionOfSpec)

/-- ITS FALSE NEIGHBOUR: 'it returns false'. Refute it at one input. -/
def fnExactUnionOfWrong : ChangeSpec := { name := "fnExactUnionOf", fn := fun _ => fun
  | [d1, d2] => { results := [.lit (.bool false)], args := [d1, d2] }
  | _ => none }
def FnExactUnionOfWrongFalsely : Prop := fnExactUnionOfRow.holds Try.pinned (OpenSpec.ofChange fnExactUnionOfWrong)

/-- 'laws.FnExactMeetOf': WHATEVER THE INPUT: true; the input reads as it did. -/
def fnExactMeetOfSpec : ChangeSpec := { name := "fnExactMeetOf", fn := fun _ => fun
  | [d1, d2] => { results := [.lit (.bool true)], args := [d1, d2] }
  | _ => none }
def fnExactMeetOfRow : OpenClaim := { program := "ytjbojjjajnoidac", sum := "fbb567c07893dd21103d0e4b7796fafaa439144120369b854ed3a42c5ca34e97", func := "loop.example/g03100/laws.FnExactMeetOf", spec := "fnExactMeetOf", apart := false }
def FnExactMeetOfSaid : Prop := fnExactMeetOfRow.holds Try.pinned (OpenSpec.ofChange fnExactMeetOfSpec)

/-- ITS FALSE NEIGHBOUR: 'it returns false'. Refute it at one input. -/
def fnExactMeetOfWrong : ChangeSpec := { name := "fnExactMeetOf", fn := fun _ => fun
  | [d1, d2] => { results := [.lit (.bool false)], args := [d1, d2] }
  | _ => none }
def FnExactMeetOfWrongFalsely : Prop := fnExactMeetOfRow.holds Try.pinned (OpenSpec.ofChange fnExactMeetOfWrong)

/-- 'laws.FnExactJoinOf': WHATEVER THE INPUT: true; the input reads as it did. -/
def fnExactJoinOfSpec : ChangeSpec := { name := "fnExactJoinOf", fn := fun _ => fun
  | [d1, d2] => { results := [.lit (.bool true)], args := [d1, d2] }
  | _ => none }
def fnExactJoinOfRow : OpenClaim := { program := "ytjbojjjajnoidac", sum := "fbb567c07893dd21103d0e4b7796fafaa439144120369b854ed3a42c5ca34e97", func := "loop.example/g03100/laws.FnExactJoinOf", spec := "fnExactJoinOf", apart := false }
def FnExactJoinOfSaid : Prop := fnExactJoinOfRow.holds Try.pinned (OpenSpec.ofChange fnExactJoinOfSpec)

/-- ITS FALSE NEIGHBOUR: 'it returns false'. Refute it at one input. -/
def fnExactJoinOfWrong : ChangeSpec := { name := "fnExactJoinOf", fn := fun _ => fun
  | [d1, d2] => { results := [.lit (.bool false)], args := [d1, d2] }
  | _ => none }
def FnExactJoinOfWrongFalsely : Prop := fnExactJoinOfRow.holds Try.pinned (OpenSpec.ofChange fnExactJoinOfWrong)

/-- 'laws.FnExactDisjointOf': WHATEVER THE INPUT: true; the input reads as it did. -/
def fnExactDisjointOfSpec : ChangeSpec := { name := "fnExactDisjointOf", fn := fun _ => fun
  | [d1, d2] => { results := [.lit (.bool true)], args := [d1, d2] }
  | _ => none }
def fnExactDisjointOfRow : OpenClaim := { program := "ytjbojjjajnoidac", sum := "fbb567c07893dd21103d0e4b7796fafaa439144120369b854ed3a42c5ca34e97", func := "loop.example/g03100/laws.FnExactDisjointOf", spec := "fnExactDisjointOf", apart := false }
def FnExactDisjointOfSaid : Prop := fnExactDisjointOfRow.holds Try.pinned (OpenSpec.ofChange fnExactDisjointOfSpec)

/-- ITS FALSE NEIGHBOUR: 'it returns false'. Refute it at one input. -/
def fnExactDisjointOfWrong : ChangeSpec := { name := "fnExactDisjointOf", fn := fun _ => fun
  | [d1, d2] => { results := [.lit (.bool false)], args := [d1, d2] }
  | _ => none }
def FnExactDisjointOfWrongFalsely : Prop := fnExactDisjointOfRow.holds Try.pinned (OpenSpec.ofChange fnExactDisjointOfWrong)

/-- 'laws.FnExactInducedOf': WHATEVER THE INPUT: true; the input reads as it did. -/
def fnExactInducedOfSpec : ChangeSpec := { name := "fnExactInducedOf", fn := fun _ => fun
  | [d1, d2] => { results := [.lit (.bool true)], args := [d1, d2] }
  | _ => none }
def fnExactInducedOfRow : OpenClaim := { program := "ytjbojjjajnoidac", sum := "fbb567c07893dd21103d0e4b7796fafaa439144120369b854ed3a42c5ca34e97", func := "loop.example/g03100/laws.FnExactInducedOf", spec := "fnExactInducedOf", apart := false }
def FnExactInducedOfSaid : Prop := fnExactInducedOfRow.holds Try.pinned (OpenSpec.ofChange fnExactInducedOfSpec)

/-- ITS FALSE NEIGHBOUR: 'it returns false'. Refute it at one input. -/
def fnExactInducedOfWrong : ChangeSpec := { name := "fnExactInducedOf", fn := fun _ => fun
  | [d1, d2] => { results := [.lit (.bool false)], args := [d1, d2] }
  | _ => none }
def FnExactInducedOfWrongFalsely : Prop := fnExactInducedOfRow.holds Try.pinned (OpenSpec.ofChange fnExactInducedOfWrong)

/-- 'laws.FnExactConeOf': WHATEVER THE INPUT: true; the input reads as it did. -/
def fnExactConeOfSpec : ChangeSpec := { name := "fnExactConeOf", fn := fun _ => fun
  | [d] => { results := [.lit (.bool true)], args := [d] }
  | _ => none }
def fnExactConeOfRow : OpenClaim := { program := "ytjbojjjajnoidac", sum := "fbb567c07893dd21103d0e4b7796fafaa439144120369b854ed3a42c5ca34e97", func := "loop.example/g03100/laws.FnExactConeOf", spec := "fnExactConeOf", apart := false }
def FnExactConeOfSaid : Prop := fnExactConeOfRow.holds Try.pinned (OpenSpec.ofChange fnExactConeOfSpec)

/-- ITS FALSE NEIGHBOUR: 'it returns false'. Refute it at one input. -/
def fnExactConeOfWrong : ChangeSpec := { name := "fnExactConeOf", fn := fun _ => fun
  | [d] => { results := [.lit (.bool false)], args := [d] }
  | _ => none }
def FnExactConeOfWrongFalsely : Prop := fnExactConeOfRow.holds Try.pinned (OpenSpec.ofChange fnExactConeOfWrong)

/-- 'laws.FnExactParseComplex': WHATEVER THE INPUT: true; the input reads as it did. -/
def fnExactParseComplexSpec : ChangeSpec := { name := "fnExactParseComplex", fn := fun _ => fun
  | [d] => { results := [.lit (.bool true)], args := [d] }
  | _ => none }
def fnExactParseComplexRow : OpenClaim := { program := "ytjbojjjajnoidac", sum := "fbb567c07893dd21103d0e4b7796fafaa439144120369b854ed3a42c5ca34e97", func := "loop.example/g03100/laws.FnExactParseComplex", spec := "fnExactParseComplex", apart := false }
def FnExactParseComplexSaid : Prop := fnExactParseComplexRow.holds Try.pinned (OpenSpec.ofChange fnExactParseComplexSpec)

/-- ITS FALSE NEIGHBOUR: 'it returns false'. Refute it at one input. -/
def fnExactParseComplexWrong : ChangeSpec := { name := "fnExactParseComplex", fn := fun _ => fun
  | [d] => { results := [.lit (.bool false)], args := [d] }
  | _ => none }
def FnExactParseComplexWrongFalsely : Prop := fnExactParseComplexRow.holds Try.pinned (OpenSpec.ofChange fnExactParseComplexWrong)

/-- 'laws.FnExactStarOf': WHATEVER THE INPUT: true; the input reads as it did. -/
def fnExactStarOfSpec : ChangeSpec := { name := "fnExactStarOf", fn := fun _ => fun
  | [d1, d2] => { results := [.lit (.bool true)], args := [d1, d2] }
  | _ => none }
def fnExactStarOfRow : OpenClaim := { program := "ytjbojjjajnoidac", sum := "fbb567c07893dd21103d0e4b7796fafaa439144120369b854ed3a42c5ca34e97", func := "loop.example/g03100/laws.FnExactStarOf", spec := "fnExactStarOf", unfollowed := true, recurses := true, apart := false }
def FnExactStarOfSaid : Prop := fnExactStarOfRow.holds Try.pinned (OpenSpec.ofChange fnExactStarOfSpec)

/-- ITS FALSE NEIGHBOUR: 'it returns false'. Refute it at one input. -/
def fnExactStarOfWrong : ChangeSpec := { name := "fnExactStarOf", fn := fun _ => fun
  | [d1, d2] => { results := [.lit (.bool false)], args := [d1, d2] }
  | _ => none }
def FnExactStarOfWrongFalsely : Prop := fnExactStarOfRow.holds Try.pinned (OpenSpec.ofChange fnExactStarOfWrong)

/- THE SECOND FORM. 'bulk': how many values and letters a reading holds, each counted each time it is reached (what is shared counts as often as it is met; a slice's spare places count too). A statement '..UptoSaid' is the law's where the arguments, and the package variables that the reading takes, are together of bulk at most 1048576: NARROWER than '..Said'. Prove '..Said' where nothing that the law and all that it calls make is longer than what came in: it says more and counts as full. Else prove '..UptoSaid'. A law counts once. -/
mutual
def uptoBulk {H : Type} : DataW H → Nat
  | .lit (.string bytes) => bytes.length + 1
  | .lit _ => 1
  | .nil => 1
  | .ptr d => uptoBulk d + 1
  | .slice elems spare => uptoBulkAll elems + uptoBulkAll spare + 1
  | .agg parts => uptoBulkAll parts + 1
  | .iface _ d => uptoBulk d + 1
  | .map entries => uptoBulkEntries entries + 1
  | .held _ => 1
def uptoBulkAll {H : Type} : List (DataW H) → Nat
  | [] => 0
  | d :: r => uptoBulk d + uptoBulkAll r
def uptoBulkEntries {H : Type} : List (Lit × DataW H) → Nat
  | [] => 0
  | x :: r => uptoBulkEntry x + uptoBulkEntries r
def uptoBulkEntry {H : Type} : Lit × DataW H → Nat
  | (.string bytes, d) => bytes.length + uptoBulk d + 1
  | (_, d) => uptoBulk d + 1
 end
def uptoSmall : (H : Type) → List (DataW H) → Bool := fun _ ds => decide (uptoBulkAll ds ≤ 1048576)
def OpenSpec.upto (s : _root_.Go.ChangeSpec) : _root_.Go.OpenSpec := { _root_.Go.OpenSpec.ofChange s with cond := some uptoSmall }

/-- 'laws.FnExactFacesOf', WHERE WHAT IT READS IS OF BULK AT MOST 1048576: true; the input reads as it did. -/
def fnExactFacesOfUptoRow : OpenClaim := { program := "ytjbojjjajnoidac", sum := "fbb567c07893dd21103d0e4b7796fafaa439144120369b854ed3a42c5ca34e97", func := "loop.example/g03100/laws.FnExactFacesOf", spec := "fnExactFacesOf", apart := false, narrowed := true }
def FnExactFacesOfUptoSaid : Prop := fnExactFacesOfUptoRow.holds Try.pinned (OpenSpec.upto fnExactFacesOfSpec)

/-- 'laws.FnExactEulerOf', WHERE WHAT IT READS IS OF BULK AT MOST 1048576: true; the input reads as it did. -/
def fnExactEulerOfUptoRow : OpenClaim := { program := "ytjbojjjajnoidac", sum := "fbb567c07893dd21103d0e4b7796fafaa439144120369b854ed3a42c5ca34e97", func := "loop.example/g03100/laws.FnExactEulerOf", spec := "fnExactEulerOf", apart := false, narrowed := true }
def FnExactEulerOfUptoSaid : Prop := fnExactEulerOfUptoRow.holds Try.pinned (OpenSpec.upto fnExactEulerOfSpec)

/-- 'laws.FnExactFacesOfSize', WHERE WHAT IT READS IS OF BULK AT MOST 1048576: true; the input reads as it did. -/
def fnExactFacesOfSizeUptoRow : OpenClaim := { program := "ytjbojjjajnoidac", sum := "fbb567c07893dd21103d0e4b7796fafaa439144120369b854ed3a42c5ca34e97", func := "loop.example/g03100/laws.FnExactFacesOfSize", spec := "fnExactFacesOfSize", apart := false, narrowed := true }
def FnExactFacesOfSizeUptoSaid : Prop := fnExactFacesOfSizeUptoRow.holds Try.pinned (OpenSpec.upto fnExactFacesOfSizeSpec)

/-- 'laws.FnExactFaceCounts', WHERE WHAT IT READS IS OF BULK AT MOST 1048576: true; the input reads as it did. -/
def fnExactFaceCountsUptoRow : OpenClaim := { program := "ytjbojjjajnoidac", sum := "fbb567c07893dd21103d0e4b7796fafaa439144120369b854ed3a42c5ca34e97", func := "loop.example/g03100/laws.FnExactFaceCounts", spec := "fnExactFaceCounts", apart := false, narrowed := true }
def FnExactFaceCountsUptoSaid : Prop := fnExactFaceCountsUptoRow.holds Try.pinned (OpenSpec.upto fnExactFaceCountsSpec)

/-- 'laws.FnExactUnionOf', WHERE WHAT IT READS IS OF BULK AT MOST 1048576: true; the input reads as it did. -/
def fnExactUnionOfUptoRow : OpenClaim := { program := "ytjbojjjajnoidac", sum := "fbb567c07893dd21103d0e4b7796fafaa439144120369b854ed3a42c5ca34e97", func := "loop.example/g03100/laws.FnExactUnionOf", spec := "fnExactUnionOf", apart := false, narrowed := true }
def FnExactUnionOfUptoSaid : Prop := fnExactUnionOfUptoRow.holds Try.pinned (OpenSpec.upto fnExactUnionOfSpec)

/-- 'laws.FnExactMeetOf', WHERE WHAT IT READS IS OF BULK AT MOST 1048576: true; the input reads as it did. -/
def fnExactMeetOfUptoRow : OpenClaim := { program := "ytjbojjjajnoidac", sum := "fbb567c07893dd21103d0e4b7796fafaa439144120369b854ed3a42c5ca34e97", func := "loop.example/g03100/laws.FnExactMeetOf", spec := "fnExactMeetOf", apart := false, narrowed := true }
def FnExactMeetOfUptoSaid : Prop := fnExactMeetOfUptoRow.holds Try.pinned (OpenSpec.upto fnExactMeetOfSpec)

/-- 'laws.FnExactJoinOf', WHERE WHAT IT READS IS OF BULK AT MOST 1048576: true; the input reads as it did. -/
def fnExactJoinOfUptoRow : OpenClaim := { program := "ytjbojjjajnoidac", sum := "fbb567c07893dd21103d0e4b7796fafaa439144120369b854ed3a42c5ca34e97", func := "loop.example/g03100/laws.FnExactJoinOf", spec := "fnExactJoinOf", apart := false, narrowed := true }
def FnExactJoinOfUptoSaid : Prop := fnExactJoinOfUptoRow.holds Try.pinned (OpenSpec.upto fnExactJoinOfSpec)

/-- 'laws.FnExactDisjointOf', WHERE WHAT IT READS IS OF BULK AT MOST 1048576: true; the input reads as it did. -/
def fnExactDisjointOfUptoRow : OpenClaim := { program := "ytjbojjjajnoidac", sum := "fbb567c07893dd21103d0e4b7796fafaa439144120369b854ed3a42c5ca34e97", func := "loop.example/g03100/laws.FnExactDisjointOf", spec := "fnExactDisjointOf", apart := false, narrowed := true }
def FnExactDisjointOfUptoSaid : Prop := fnExactDisjointOfUptoRow.holds Try.pinned (OpenSpec.upto fnExactDisjointOfSpec)

/-- 'laws.FnExactInducedOf', WHERE WHAT IT READS IS OF BULK AT MOST 1048576: true; the input reads as it did. -/
def fnExactInducedOfUptoRow : OpenClaim := { program := "ytjbojjjajnoidac", sum := "fbb567c07893dd21103d0e4b7796fafaa439144120369b854ed3a42c5ca34e97", func := "loop.example/g03100/laws.FnExactInducedOf", spec := "fnExactInducedOf", apart := false, narrowed := true }
def FnExactInducedOfUptoSaid : Prop := fnExactInducedOfUptoRow.holds Try.pinned (OpenSpec.upto fnExactInducedOfSpec)

/-- 'laws.FnExactConeOf', WHERE WHAT IT READS IS OF BULK AT MOST 1048576: true; the input reads as it did. -/
def fnExactConeOfUptoRow : OpenClaim := { program := "ytjbojjjajnoidac", sum := "fbb567c07893dd21103d0e4b7796fafaa439144120369b854ed3a42c5ca34e97", func := "loop.example/g03100/laws.FnExactConeOf", spec := "fnExactConeOf", apart := false, narrowed := true }
def FnExactConeOfUptoSaid : Prop := fnExactConeOfUptoRow.holds Try.pinned (OpenSpec.upto fnExactConeOfSpec)

/-- 'laws.FnExactParseComplex', WHERE WHAT IT READS IS OF BULK AT MOST 1048576: true; the input reads as it did. -/
def fnExactParseComplexUptoRow : OpenClaim := { program := "ytjbojjjajnoidac", sum := "fbb567c07893dd21103d0e4b7796fafaa439144120369b854ed3a42c5ca34e97", func := "loop.example/g03100/laws.FnExactParseComplex", spec := "fnExactParseComplex", apart := false, narrowed := true }
def FnExactParseComplexUptoSaid : Prop := fnExactParseComplexUptoRow.holds Try.pinned (OpenSpec.upto fnExactParseComplexSpec)

/-- 'laws.FnExactStarOf', WHERE WHAT IT READS IS OF BULK AT MOST 1048576: true; the input reads as it did. -/
def fnExactStarOfUptoRow : OpenClaim := { program := "ytjbojjjajnoidac", sum := "fbb567c07893dd21103d0e4b7796fafaa439144120369b854ed3a42c5ca34e97", func := "loop.example/g03100/laws.FnExactStarOf", spec := "fnExactStarOf", unfollowed := true, recurses := true, apart := false, narrowed := true }
def FnExactStarOfUptoSaid : Prop := fnExactStarOfUptoRow.holds Try.pinned (OpenSpec.upto fnExactStarOfSpec)

end Rows
end Go.Proofs.Ytjbojjjajnoidac
