/-
  No cell of these rows narrows 'for every input' (looked for: loops, veiled, ifaces, maps, wideKeys, modest, calm, conditions, laid).
  DERIVED. THE GIVEN ROWS OF THIS SEAT. 6 by the template 'for every input the law returns true; each argument reads behind the call as it read before'; 0 by the template 'total and deterministic' (their statements: YtjbojjjajnoidadTotals.lean).
  GIVEN WITH THE SEED: the statements are not yours to turn. If you find one false, say at which input.
  Laid BY PROGRAM, IN A SANDBOX (cutbox-rows.mjs): the forced cells as the released guide's own fill.sh prints them over the translation 656670ffa1171dc2… (all of the seat's roots in one cut). By AI agents, Wed Nov 11 2026. No macro, syntax, notation, axiom, sorry.
-/
import Derived.Test.YtjbojjjajnoidadChecked
import GoSem.Claim
import GoSem.ClaimJoined
import GoSem.ClaimMapViews
import Derived.JoinedTies
import Derived.KernelRfl
namespace Go.Proofs.Ytjbojjjajnoidad
/- THE CELL 'sum', in the pinned program and in every row, IS THE sha256 OF THE DUMP (.gsa) THAT YtjbojjjajnoidadProg.lean LOADS. Nothing in Lean hashes anything: it is a label: what it is worth is what the hold of that sum in a sandbox is worth. -/
noncomputable def Try.pinned : Pinned := { name := "ytjbojjjajnoidad", sum := "656670ffa1171dc2f70d8f6a17b08125c9f5bd06b9ffef58718d8fa37551f868", checked := Try.checked }
namespace Rows
def none {H : Type} : Left H := { results := [], args := [] }

/-- 'laws.FnExactLinkOf': WHATEVER THE INPUT: true; the input reads as it did. -/
def fnExactLinkOfSpec : ChangeSpec := { name := "fnExactLinkOf", fn := fun _ => fun
  | [d1, d2] => { results := [.lit (.bool true)], args := [d1, d2] }
  | _ => none }
def fnExactLinkOfRow : OpenClaim := { program := "ytjbojjjajnoidad", sum := "656670ffa1171dc2f70d8f6a17b08125c9f5bd06b9ffef58718d8fa37551f868", func := "loop.example/g03100/laws.FnExactLinkOf", spec := "fnExactLinkOf", unfollowed := true, recurses := true, apart := false }
def FnExactLinkOfSaid : Prop := fnExactLinkOfRow.holds Try.pinned (OpenSpec.ofChange fnExactLinkOfSpec)

/-- ITS FALSE NEIGHBOUR: 'it returns false'. Refute it at one input. -/
def fnExactLinkOfWrong : ChangeSpec := { name := "fnExactLinkOf", fn := fun _ => fun
  | [d1, d2] => { results := [.lit (.bool false)], args := [d1, d2] }
  | _ => none }
def FnExactLinkOfWrongFalsely : Prop := fnExactLinkOfRow.holds Try.pinned (OpenSpec.ofChange fnExactLinkOfWrong)

/-- 'laws.FnExactSkeletonOf': WHATEVER THE INPUT: true; the input reads as it did. -/
def fnExactSkeletonOfSpec : ChangeSpec := { name := "fnExactSkeletonOf", fn := fun _ => fun
  | [d1, d2] => { results := [.lit (.bool true)], args := [d1, d2] }
  | _ => none }
def fnExactSkeletonOfRow : OpenClaim := { program := "ytjbojjjajnoidad", sum := "656670ffa1171dc2f70d8f6a17b08125c9f5bd06b9ffef58718d8fa37551f868", func := "loop.example/g03100/laws.FnExactSkeletonOf", spec := "fnExactSkeletonOf", unfollowed := true, recurses := true, apart := false }
def FnExactSkeletonOfSaid : Prop := fnExactSkeletonOfRow.holds Try.pinned (OpenSpec.ofChange fnExactSkeletonOfSpec)

/-- ITS FALSE NEIGHBOUR: 'it returns false'. Refute it at one input. -/
def fnExactSkeletonOfWrong : ChangeSpec := { name := "fnExactSkeletonOf", fn := fun _ => fun
  | [d1, d2] => { results := [.lit (.bool false)], args := [d1, d2] }
  | _ => none }
def FnExactSkeletonOfWrongFalsely : Prop := fnExactSkeletonOfRow.holds Try.pinned (OpenSpec.ofChange fnExactSkeletonOfWrong)

/-- 'laws.FnExactDeletionOf': WHATEVER THE INPUT: true; the input reads as it did. -/
def fnExactDeletionOfSpec : ChangeSpec := { name := "fnExactDeletionOf", fn := fun _ => fun
  | [d1, d2] => { results := [.lit (.bool true)], args := [d1, d2] }
  | _ => none }
def fnExactDeletionOfRow : OpenClaim := { program := "ytjbojjjajnoidad", sum := "656670ffa1171dc2f70d8f6a17b08125c9f5bd06b9ffef58718d8fa37551f868", func := "loop.example/g03100/laws.FnExactDeletionOf", spec := "fnExactDeletionOf", unfollowed := true, recurses := true, apart := false }
def FnExactDeletionOfSaid : Prop := fnExactDeletionOfRow.holds Try.pinned (OpenSpec.ofChange fnExactDeletionOfSpec)

/-- ITS FALSE NEIGHBOUR: 'it returns false'. Refute it at one input. -/
def fnExactDeletionOfWrong : ChangeSpec := { name := "fnExactDeletionOf", fn := fun _ => fun
  | [d1, d2] => { results := [.lit (.bool false)], args := [d1, d2] }
  | _ => none }
def FnExactDeletionOfWrongFalsely : Prop := fnExactDeletionOfRow.holds Try.pinned (OpenSpec.ofChange fnExactDeletionOfWrong)

/-- 'laws.FnCounts': WHATEVER THE INPUT: true; the input reads as it did. -/
def fnCountsSpec : ChangeSpec := { name := "fnCounts", fn := fun _ => fun
  | [d] => { results := [.lit (.bool true)], args := [d] }
  | _ => none }
def fnCountsRow : OpenClaim := { program := "ytjbojjjajnoidad", sum := "656670ffa1171dc2f70d8f6a17b08125c9f5bd06b9ffef58718d8fa37551f868", func := "loop.example/g03100/laws.FnCounts", spec := "fnCounts", apart := false }
def FnCountsSaid : Prop := fnCountsRow.holds Try.pinned (OpenSpec.ofChange fnCountsSpec)

/-- ITS FALSE NEIGHBOUR: 'it returns false'. Refute it at one input. -/
def fnCountsWrong : ChangeSpec := { name := "fnCounts", fn := fun _ => fun
  | [d] => { results := [.lit (.bool false)], args := [d] }
  | _ => none }
def FnCountsWrongFalsely : Prop := fnCountsRow.holds Try.pinned (OpenSpec.ofChange fnCountsWrong)

/-- 'laws.FnParts': WHATEVER THE INPUT: true; the input reads as it did. -/
def fnPartsSpec : ChangeSpec := { name := "fnParts", fn := fun _ => fun
  | [d] => { results := [.lit (.bool true)], args := [d] }
  | _ => none }
def fnPartsRow : OpenClaim := { program := "ytjbojjjajnoidad", sum := "656670ffa1171dc2f70d8f6a17b08125c9f5bd06b9ffef58718d8fa37551f868", func := "loop.example/g03100/laws.FnParts", spec := "fnParts", unfollowed := true, recurses := true, apart := false }
def FnPartsSaid : Prop := fnPartsRow.holds Try.pinned (OpenSpec.ofChange fnPartsSpec)

/-- ITS FALSE NEIGHBOUR: 'it returns false'. Refute it at one input. -/
def fnPartsWrong : ChangeSpec := { name := "fnParts", fn := fun _ => fun
  | [d] => { results := [.lit (.bool false)], args := [d] }
  | _ => none }
def FnPartsWrongFalsely : Prop := fnPartsRow.holds Try.pinned (OpenSpec.ofChange fnPartsWrong)

/-- 'laws.FnSets': WHATEVER THE INPUT: true; the input reads as it did. -/
def fnSetsSpec : ChangeSpec := { name := "fnSets", fn := fun _ => fun
  | [d] => { results := [.lit (.bool true)], args := [d] }
  | _ => none }
def fnSetsRow : OpenClaim := { program := "ytjbojjjajnoidad", sum := "656670ffa1171dc2f70d8f6a17b08125c9f5bd06b9ffef58718d8fa37551f868", func := "loop.example/g03100/laws.FnSets", spec := "fnSets", inPlace := ["internal/abi.NoEscape", "internal/bytealg.MakeNoZero"], apart := false }
def FnSetsSaid : Prop := fnSetsRow.holds Try.pinned (OpenSpec.ofChange fnSetsSpec)

/-- ITS FALSE NEIGHBOUR: 'it returns false'. Refute it at one input. -/
def fnSetsWrong : ChangeSpec := { name := "fnSets", fn := fun _ => fun
  | [d] => { results := [.lit (.bool false)], args := [d] }
  | _ => none }
def FnSetsWrongFalsely : Prop := fnSetsRow.holds Try.pinned (OpenSpec.ofChange fnSetsWrong)

/- THE SECOND FORM. 'bulk': how many values and letters a reading holds, each counted each time it is reached (what is shared counts as often as it is met; a slice's spare places count too). A statement '..UptoSaid' is the law's where the arguments, and the package variables that the reading takes, are together of bulk at most 1048576: NARROWER than '..Said'. Prove '..Said' where nothing that the law and all that it calls make is longer than what came in: it says more and counts as full. Else prove '..UptoSaid'. A law counts once. -/
mutual
def uptoBulk {H : Type} : DataW H → Nat
  | .lit (.string bytes) => bytes.length + 1
  | .lit _ => 1
  | .nil => 1
  | .ptr d => uptoBulk d + 1
  | .slice elems spare => uptoBulkAll elems + uptoBulkAll spare + 1
  | .agg parts => uptoBulkAll parts + 1
  | .iface _ d => uptoBulk d + 1
  | .map entries => uptoBulkEntries entries + 1
  | .held _ => 1
def uptoBulkAll {H : Type} : List (DataW H) → Nat
  | [] => 0
  | d :: r => uptoBulk d + uptoBulkAll r
def uptoBulkEntries {H : Type} : List (Lit × DataW H) → Nat
  | [] => 0
  | x :: r => uptoBulkEntry x + uptoBulkEntries r
def uptoBulkEntry {H : Type} : Lit × DataW H → Nat
  | (.string bytes, d) => bytes.length + uptoBulk d + 1
  | (_, d) => uptoBulk d + 1
 end
def uptoSmall : (H : Type) → List (DataW H) → Bool := fun _ ds => decide (uptoBulkAll ds ≤ 1048576)
def OpenSpec.upto (s : _root_.Go.ChangeSpec) : _root_.Go.OpenSpec := { _root_.Go.OpenSpec.ofChange s with cond := some uptoSmall }

/-- 'laws.FnExactLinkOf', WHERE WHAT IT READS IS OF BULK AT MOST 1048576: true; the input reads as it did. -/
def fnExactLinkOfUptoRow : OpenClaim := { program := "ytjbojjjajnoidad", sum := "656670ffa1171dc2f70d8f6a17b08125c9f5bd06b9ffef58718d8fa37551f868", func := "loop.example/g03100/laws.FnExactLinkOf", spec := "fnExactLinkOf", unfollowed := true, recurses := true, apart := false, narrowed := true }
def FnExactLinkOfUptoSaid : Prop := fnExactLinkOfUptoRow.holds Try.pinned (OpenSpec.upto fnExactLinkOfSpec)

/-- 'laws.FnExactSkeletonOf', WHERE WHAT IT READS IS OF BULK AT MOST 1048576: true; the input reads as it did. -/
def fnExactSkeletonOfUptoRow : OpenClaim := { program := "ytjbojjjajnoidad", sum := "656670ffa1171dc2f70d8f6a17b08125c9f5bd06b9ffef58718d8fa37551f868", func := "loop.example/g03100/laws.FnExactSkeletonOf", spec := "fnExactSkeletonOf", unfollowed := true, recurses := true, apart := false, narrowed := true }
def FnExactSkeletonOfUptoSaid : Prop := fnExactSkeletonOfUptoRow.holds Try.pinned (OpenSpec.upto fnExactSkeletonOfSpec)

/-- 'laws.FnExactDeletionOf', WHERE WHAT IT READS IS OF BULK AT MOST 1048576: true; the input reads as it did. -/
def fnExactDeletionOfUptoRow : OpenClaim := { program := "ytjbojjjajnoidad", sum := "656670ffa1171dc2f70d8f6a17b08125c9f5bd06b9ffef58718d8fa37551f868", func := "loop.example/g03100/laws.FnExactDeletionOf", spec := "fnExactDeletionOf", unfollowed := true, recurses := true, apart := false, narrowed := true }
def FnExactDeletionOfUptoSaid : Prop := fnExactDeletionOfUptoRow.holds Try.pinned (OpenSpec.upto fnExactDeletionOfSpec)

/-- 'laws.FnCounts', WHERE WHAT IT READS IS OF BULK AT MOST 1048576: true; the input reads as it did. -/
def fnCountsUptoRow : OpenClaim := { program := "ytjbojjjajnoidad", sum := "656670ffa1171dc2f70d8f6a17b08125c9f5bd06b9ffef58718d8fa37551f868", func := "loop.example/g03100/laws.FnCounts", spec := "fnCounts", apart := false, narrowed := true }
def FnCountsUptoSaid : Prop := fnCountsUptoRow.holds Try.pinned (OpenSpec.upto fnCountsSpec)

/-- 'laws.FnParts', WHERE WHAT IT READS IS OF BULK AT MOST 1048576: true; the input reads as it did. -/
def fnPartsUptoRow : OpenClaim := { program := "ytjbojjjajnoidad", sum := "656670ffa1171dc2f70d8f6a17b08125c9f5bd06b9ffef58718d8fa37551f868", func := "loop.example/g03100/laws.FnParts", spec := "fnParts", unfollowed := true, recurses := true, apart := false, narrowed := true }
def FnPartsUptoSaid : Prop := fnPartsUptoRow.holds Try.pinned (OpenSpec.upto fnPartsSpec)

/-- 'laws.FnSets', WHERE WHAT IT READS IS OF BULK AT MOST 1048576: true; the input reads as it did. -/
def fnSetsUptoRow : OpenClaim := { program := "ytjbojjjajnoidad", sum := "656670ffa1171dc2f70d8f6a17b08125c9f5bd06b9ffef58718d8fa37551f868", func := "loop.example/g03100/laws.FnSets", spec := "fnSets", inPlace := ["internal/abi.NoEscape", "internal/bytealg.MakeNoZero"], apart := false, narrowed := true }
def FnSetsUptoSaid : Prop := fnSetsUptoRow.holds Try.pinned (OpenSpec.upto fnSetsSpec)

end Rows
end Go.Proofs.Ytjbojjjajnoidad
