/-
  No cell of these rows narrows 'for every input' (looked for: loops, veiled, ifaces, maps, wideKeys, modest, calm, conditions, laid).
  DERIVED. THE GIVEN ROWS OF THIS SEAT. 8 by the template 'for every input the law returns true; each argument reads behind the call as it read before'; 0 by the template 'total and deterministic' (their statements: YtmkacjpjcfffmabTotals.lean).
  GIVEN WITH THE SEED: the statements are not yours to turn. If you find one false, say at which input.
  Laid BY PROGRAM, IN A SANDBOX (cutbox-rows.mjs): the forced cells as the released guide's own fill.sh prints them over the translation e3e54197e70aad35… (all of the seat's roots in one cut). By AI agents, Wed Nov 11 2026. No macro, syntax, notation, axiom, sorry.
-/
import Derived.Test.YtmkacjpjcfffmabChecked
import GoSem.Claim
import GoSem.ClaimJoined
import GoSem.ClaimMapViews
import Derived.JoinedTies
import Derived.KernelRfl
namespace Go.Proofs.Ytmkacjpjcfffmab
/- THE CELL 'sum', in the pinned program and in every row, IS THE sha256 OF THE DUMP (.gsa) THAT YtmkacjpjcfffmabProg.lean LOADS. Nothing in Lean hashes anything: it is a label: what it is worth is what the hold of that sum in a sandbox is worth. -/
noncomputable def Try.pinned : Pinned := { name := "ytmkacjpjcfffmab", sum := "e3e54197e70aad35ae7a93d086e7cbc53a994e8e451e9d4a2030df5e50381f09", checked := Try.checked }
namespace Rows
def none {H : Type} : Left H := { results := [], args := [] }

/-- 'laws.FnExactEulerOf': WHATEVER THE INPUT: true; the input reads as it did. -/
def fnExactEulerOfSpec : ChangeSpec := { name := "fnExactEulerOf", fn := fun _ => fun
  | [d] => { results := [.lit (.bool true)], args := [d] }
  | _ => none }
def fnExactEulerOfRow : OpenClaim := { program := "ytmkacjpjcfffmab", sum := "e3e54197e70aad35ae7a93d086e7cbc53a994e8e451e9d4a2030df5e50381f09", func := "loop.example/g03100/laws.FnExactEulerOf", spec := "fnExactEulerOf", apart := false }
def FnExactEulerOfSaid : Prop := fnExactEulerOfRow.holds Try.pinned (OpenSpec.ofChange fnExactEulerOfSpec)

/-- ITS FALSE NEIGHBOUR: 'it returns false'. Refute it at one input. -/
def fnExactEulerOfWrong : ChangeSpec := { name := "fnExactEulerOf", fn := fun _ => fun
  | [d] => { results := [.lit (.bool false)], args := [d] }
  | _ => none }
def FnExactEulerOfWrongFalsely : Prop := fnExactEulerOfRow.holds Try.pinned (OpenSpec.ofChange fnExactEulerOfWrong)

/-- 'laws.FnExactFacesOfSize': WHATEVER THE INPUT: true; the input reads as it did. -/
def fnExactFacesOfSizeSpec : ChangeSpec := { name := "fnExactFacesOfSize", fn := fun _ => fun
  | [d1, d2] => { results := [.lit (.bool true)], args := [d1, d2] }
  | _ => none }
def fnExactFacesOfSizeRow : OpenClaim := { program := "ytmkacjpjcfffmab", sum := "e3e54197e70aad35ae7a93d086e7cbc53a994e8e451e9d4a2030df5e50381f09", func := "loop.example/g03100/laws.FnExactFacesOfSize", spec := "fnExactFacesOfSize", apart := false }
def FnExactFacesOfSizeSaid : Prop := fnExactFacesOfSizeRow.holds Try.pinned (OpenSpec.ofChange fnExactFacesOfSizeSpec)

/-- ITS FALSE NEIGHBOUR: 'it returns false'. Refute it at one input. -/
def fnExactFacesOfSizeWrong : ChangeSpec := { name := "fnExactFacesOfSize", fn := fun _ => fun
  | [d1, d2] => { results := [.lit (.bool false)], args := [d1, d2] }
  | _ => none }
def FnExactFacesOfSizeWrongFalsely : Prop := fnExactFacesOfSizeRow.holds Try.pinned (OpenSpec.ofChange fnExactFacesOfSizeWrong)

/-- 'laws.FnExactFaceCounts': WHATEVER THE INPUT: true; the input reads as it did. -/
def fnExactFaceCountsSpec : ChangeSpec := { name := "fnExactFaceCounts", fn := fun _ => fun
  | [d] => { results := [.lit (.bool true)], args := [d] }
  | _ => none }
def fnExactFaceCountsRow : OpenClaim := { program := "ytmkacjpjcfffmab", sum := "e3e54197e70aad35ae7a93d086e7cbc53a994e8e451e9d4a2030df5e50381f09", func := "loop.example/g03100/laws.FnExactFaceCounts", spec := "fnExactFaceCounts", apart := false }
def FnExactFaceCountsSaid : Prop := fnExactFaceCountsRow.holds Try.pinned (OpenSpec.ofChange fnExactFaceCountsSpec)

/-- ITS FALSE NEIGHBOUR: 'it returns false'. Refute it at one input. -/
def fnExactFaceCountsWrong : ChangeSpec := { name := "fnExactFaceCounts", fn := fun _ => fun
  | [d] => { results := [.lit (.bool false)], args := [d] }
  | _ => none }
def FnExactFaceCountsWrongFalsely : Prop := fnExactFaceCountsRow.holds Try.pinned (OpenSpec.ofChange fnExactFaceCountsWrong)

/-- 'laws.FnExactUnionOf': WHATEVER THE INPUT: true; the input reads as it did. -/
def fnExactUnionOfSpec : ChangeSpec := { name := "fnExactUnionOf", fn := fun _ => fun
  | [d1, d2] => { results := [.lit (.bool true)], args := [d1, d2] }
  | _ => none }
def fnExactUnionOfRow : OpenClaim := { program := "ytmkacjpjcfffmab", sum := "e3e54197e70aad35ae7a93d086e7cbc53a994e8e451e9d4a2030df5e50381f09", func := "loop.example/g03100/laws.FnExactUnionOf", spec := "fnExactUnionOf", apart := false }
def FnExactUnionOfSaid : Prop := fnExactUnionOfRow.holds Try.pinned (OpenSpec.ofChange fnExactUnionOfSpec)

/-- ITS FALSE NEIGHBOUR: 'it returns false'. Refute it at one input. -/
def fnExactUnionOfWrong : ChangeSpec := { name := "fnExactUnionOf", fn := fun _ => fun
  | [d1, d2] => { results := [.lit (.bool false)], args := [d1, d2] }
  | _ => none }
def FnExactUnionOfWrongFalsely : Prop := fnExactUnionOfRow.holds Try.pinned (OpenSpec.ofChange fnExactUnionOfWrong)

/-- 'laws.FnExactMeetOf': WHATEVER THE INPUT: true; the input reads as it did. -/
def fnExactMeetOfSpec : ChangeSpec := { name := "fnExactMeetOf", fn := fun _ => fun
  | [d1, d2] => { results := [.lit (.bool true)], args := [d1, d2] }
  | _ => none }
def fnExactMeetOfRow : OpenClaim := { program := "ytmkacjpjcfffmab", sum := "e3e54197e70aad35ae7a93d086e7cbc53a994e8e451e9d4a2030df5e50381f09", func := "loop.example/g03100/laws.FnExactMeetOf", spec := "fnExactMeetOf", apart := false }
def FnExactMeetOfSaid : Prop := fnExactMeetOfRow.holds Try.pinned (OpenSpec.ofChange fnExactMeetOfSpec)

/-- ITS FALSE NEIGHBOUR: 'it returns false'. Refute it at one input. -/
def fnExactMeetOfWrong : ChangeSpec := { name := "fnExactMeetOf", fn := fun _ => fun
  | [d1, d2] => { results := [.lit (.bool false)], args := [d1, d2] }
  | _ => none }
def FnExactMeetOfWrongFalsely : Prop := fnExactMeetOfRow.holds Try.pinned (OpenSpec.ofChange fnExactMeetOfWrong)

/-- 'laws.FnExactJoinOf': WHATEVER THE INPUT: true; the input reads as it did. -/
def fnExactJoinOfSpec : ChangeSpec := { name := "fnExactJoinOf", fn := fun _ => fun
  | [d1, d2] => { results := [.lit (.bool true)], args := [d1, d2] }
  | _ => none }
def fnExactJoinOfRow : OpenClaim := { program := "ytmkacjpjcfffmab", sum := "e3e54197e70aad35ae7a93d086e7cbc53a994e8e451e9d4a2030df5e50381f09", func := "loop.example/g03100/laws.FnExactJoinOf", spec := "fnExactJoinOf", apart := false }
def FnExactJoinOfSaid : Prop := fnExactJoinOfRow.holds Try.pinned (OpenSpec.ofChange fnExactJoinOfSpec)

/-- ITS FALSE NEIGHBOUR: 'it returns false'. Refute it at one input. -/
def fnExactJoinOfWrong : ChangeSpec := { name := "fnExactJoinOf", fn := fun _ => fun
  | [d1, d2] => { results := [.lit (.bool false)], args := [d1, d2] }
  | _ => none }
def FnExactJoinOfWrongFalsely : Prop := fnExactJoinOfRow.holds Try.pinned (OpenSpec.ofChange fnExactJoinOfWrong)

/-- 'laws.FnExactDisjointOf': WHATEVER THE INPUT: true; the input reads as it did. -/
def fnExactDisjointOfSpec : ChangeSpec := { name := "fnExactDisjointOf", fn := fun _ => fun
  | [d1, d2] => { results := [.lit (.bool true)], args := [d1, d2] }
  | _ => none }
def fnExactDisjointOfRow : OpenClaim := { program := "ytmkacjpjcfffmab", sum := "e3e54197e70aad35ae7a93d086e7cbc53a994e8e451e9d4a2030df5e50381f09", func := "loop.example/g03100/laws.FnExactDisjointOf", spec := "fnExactDisjointOf", apart := false }
def FnExactDisjointOfSaid : Prop := fnExactDisjointOfRow.holds Try.pinned (OpenSpec.ofChange fnExactDisjointOfSpec)

/-- ITS FALSE NEIGHBOUR: 'it returns false'. Refute it at one input. -/
def fnExactDisjointOfWrong : ChangeSpec := { name := "fnExactDisjointOf", fn := fun _ => fun
  | [d1, d2] => { results := [.lit (.bool false)], args := [d1, d2] }
  | _ => none }
def FnExactDisjointOfWrongFalsely : Prop := fnExactDisjointOfRow.holds Try.pinned (OpenSpec.ofChange fnExactDisjointOfWrong)

/-- 'laws.FnExactConeOf': WHATEVER THE INPUT: true; the input reads as it did. -/
def fnExactConeOfSpec : ChangeSpec := { name := "fnExactConeOf", fn := fun _ => fun
  | [d] => { results := [.lit (.bool true)], args := [d] }
  | _ => none }
def fnExactConeOfRow : OpenClaim := { program := "ytmkacjpjcfffmab", sum := "e3e54197e70aad35ae7a93d086e7cbc53a994e8e451e9d4a2030df5e50381f09", func := "loop.example/g03100/laws.FnExactConeOf", spec := "fnExactConeOf", apart := false }
def FnExactConeOfSaid : Prop := fnExactConeOfRow.holds Try.pinned (OpenSpec.ofChange fnExactConeOfSpec)

/-- ITS FALSE NEIGHBOUR: 'it returns false'. Refute it at one input. -/
def fnExactConeOfWrong : ChangeSpec := { name := "fnExactConeOf", fn := fun _ => fun
  | [d] => { results := [.lit (.bool false)], args := [d] }
  | _ => none }
def FnExactConeOfWrongFalsely : Prop := fnExactConeOfRow.holds Try.pinned (OpenSpec.ofChange fnExactConeOfWrong)

/- THE SECOND FORM. 'bulk': how many values and letters a reading holds, each counted each time it is reached (what is shared counts as often as it is met; a slice's spare places count too). A statement '..UptoSaid' is the law's where the arguments, and the package variables that the reading takes, are together of bulk at most 1048576: NARROWER than '..Said'. Prove '..Said' where nothing that the law and all that it calls make is longer than what came in: it says more and counts as full. Else prove '..UptoSaid'. A law counts once. -/
mutual
def uptoBulk {H : Type} : DataW H → Nat
  | .lit (.string bytes) => bytes.length + 1
  | .lit _ => 1
  | .nil => 1
  | .ptr d => uptoBulk d + 1
  | .slice elems spare => uptoBulkAll elems + uptoBulkAll spare + 1
  | .agg parts => uptoBulkAll parts + 1
  | .iface _ d => uptoBulk d + 1
  | .map entries => uptoBulkEntries entries + 1
  | .held _ => 1
def uptoBulkAll {H : Type} : List (DataW H) → Nat
  | [] => 0
  | d :: r => uptoBulk d + uptoBulkAll r
def uptoBulkEntries {H : Type} : List (Lit × DataW H) → Nat
  | [] => 0
  | x :: r => uptoBulkEntry x + uptoBulkEntries r
def uptoBulkEntry {H : Type} : Lit × DataW H → Nat
  | (.string bytes, d) => bytes.length + uptoBulk d + 1
  | (_, d) => uptoBulk d + 1
 end
def uptoSmall : (H : Type) → List (DataW H) → Bool := fun _ ds => decide (uptoBulkAll ds ≤ 1048576)
def OpenSpec.upto (s : _root_.Go.ChangeSpec) : _root_.Go.OpenSpec := { _root_.Go.OpenSpec.ofChange s with cond := some uptoSmall }

/-- 'laws.FnExactEulerOf', WHERE WHAT IT READS IS OF BULK AT MOST 1048576: true; the input reads as it did. -/
def fnExactEulerOfUptoRow : OpenClaim := { program := "ytmkacjpjcfffmab", sum := "e3e54197e70aad35ae7a93d086e7cbc53a994e8e451e9d4a2030df5e50381f09", func := "loop.example/g03100/laws.FnExactEulerOf", spec := "fnExactEulerOf", apart := false, narrowed := true }
def FnExactEulerOfUptoSaid : Prop := fnExactEulerOfUptoRow.holds Try.pinned (OpenSpec.upto fnExactEulerOfSpec)

/-- 'laws.FnExactFacesOfSize', WHERE WHAT IT READS IS OF BULK AT MOST 1048576: true; the input reads as it did. -/
def fnExactFacesOfSizeUptoRow : OpenClaim := { program := "ytmkacjpjcfffmab", sum := "e3e54197e70aad35ae7a93d086e7cbc53a994e8e451e9d4a2030df5e50381f09", func := "loop.example/g03100/laws.FnExactFacesOfSize", spec := "fnExactFacesOfSize", apart := false, narrowed := true }
def FnExactFacesOfSizeUptoSaid : Prop := fnExactFacesOfSizeUptoRow.holds Try.pinned (OpenSpec.upto fnExactFacesOfSizeSpec)

/-- 'laws.FnExactFaceCounts', WHERE WHAT IT READS IS OF BULK AT MOST 1048576: true; the input reads as it did. -/
def fnExactFaceCountsUptoRow : OpenClaim := { program := "ytmkacjpjcfffmab", sum := "e3e54197e70aad35ae7a93d086e7cbc53a994e8e451e9d4a2030df5e50381f09", func := "loop.example/g03100/laws.FnExactFaceCounts", spec := "fnExactFaceCounts", apart := false, narrowed := true }
def FnExactFaceCountsUptoSaid : Prop := fnExactFaceCountsUptoRow.holds Try.pinned (OpenSpec.upto fnExactFaceCountsSpec)

/-- 'laws.FnExactUnionOf', WHERE WHAT IT READS IS OF BULK AT MOST 1048576: true; the input reads as it did. -/
def fnExactUnionOfUptoRow : OpenClaim := { program := "ytmkacjpjcfffmab", sum := "e3e54197e70aad35ae7a93d086e7cbc53a994e8e451e9d4a2030df5e50381f09", func := "loop.example/g03100/laws.FnExactUnionOf", spec := "fnExactUnionOf", apart := false, narrowed := true }
def FnExactUnionOfUptoSaid : Prop := fnExactUnionOfUptoRow.holds Try.pinned (OpenSpec.upto fnExactUnionOfSpec)

/-- 'laws.FnExactMeetOf', WHERE WHAT IT READS IS OF BULK AT MOST 1048576: true; the input reads as it did. -/
def fnExactMeetOfUptoRow : OpenClaim := { program := "ytmkacjpjcfffmab", sum := "e3e54197e70aad35ae7a93d086e7cbc53a994e8e451e9d4a2030df5e50381f09", func := "loop.example/g03100/laws.FnExactMeetOf", spec := "fnExactMeetOf", apart := false, narrowed := true }
def FnExactMeetOfUptoSaid : Prop := fnExactMeetOfUptoRow.holds Try.pinned (OpenSpec.upto fnExactMeetOfSpec)

/-- 'laws.FnExactJoinOf', WHERE WHAT IT READS IS OF BULK AT MOST 1048576: true; the input reads as it did. -/
def fnExactJoinOfUptoRow : OpenClaim := { program := "ytmkacjpjcfffmab", sum := "e3e54197e70aad35ae7a93d086e7cbc53a994e8e451e9d4a2030df5e50381f09", func := "loop.example/g03100/laws.FnExactJoinOf", spec := "fnExactJoinOf", apart := false, narrowed := true }
def FnExactJoinOfUptoSaid : Prop := fnExactJoinOfUptoRow.holds Try.pinned (OpenSpec.upto fnExactJoinOfSpec)

/-- 'laws.FnExactDisjointOf', WHERE WHAT IT READS IS OF BULK AT MOST 1048576: true; the input reads as it did. -/
def fnExactDisjointOfUptoRow : OpenClaim := { program := "ytmkacjpjcfffmab", sum := "e3e54197e70aad35ae7a93d086e7cbc53a994e8e451e9d4a2030df5e50381f09", func := "loop.example/g03100/laws.FnExactDisjointOf", spec := "fnExactDisjointOf", apart := false, narrowed := true }
def FnExactDisjointOfUptoSaid : Prop := fnExactDisjointOfUptoRow.holds Try.pinned (OpenSpec.upto fnExactDisjointOfSpec)

/-- 'laws.FnExactConeOf', WHERE WHAT IT READS IS OF BULK AT MOST 1048576: true; the input reads as it did. -/
def fnExactConeOfUptoRow : OpenClaim := { program := "ytmkacjpjcfffmab", sum := "e3e54197e70aad35ae7a93d086e7cbc53a994e8e451e9d4a2030df5e50381f09", func := "loop.example/g03100/laws.FnExactConeOf", spec := "fnExactConeOf", apart := false, narrowed := true }
def FnExactConeOfUptoSaid : Prop := fnExactConeOfUptoRow.holds Try.pinned (OpenSpec.upto fnExactConeOfSpec)

end Rows
end Go.Proofs.Ytmkacjpjcfffmab
