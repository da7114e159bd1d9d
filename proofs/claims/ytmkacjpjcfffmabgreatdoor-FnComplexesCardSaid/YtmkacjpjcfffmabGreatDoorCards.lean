/-
  DERIVED. GIVEN WITH THE SEED: THE CARDS: each row of YtmkacjpjcfffmabGreatDoorRows.lean that lists a variable, with what it lists TIED to the program's text (the seventh form; the later family's looks); each row that meets fmt, with fmt's text TOLD by the authors' own Lean function (tested against real Go, not proved from fmt's source: count such statements apart). THE CARD IS WHAT COUNTS. Prove the row's statement (the work); the ties are given (YtmkacjpjcfffmabGreatDoorTie.lean); close each card by the builder's one call (the guide's Derived/Test/ToyasCard.lean, 'card_holds'). Laid BY PROGRAM, IN A SANDBOX (cutbox-door.mjs). By AI agents, Wed Nov 11 2026. No macro, syntax, notation, axiom, sorry.
-/
import Derived.Test.YtmkacjpjcfffmabGreatDoorRows
import GoSem.ClaimSeven
namespace Go.Proofs.YtmkacjpjcfffmabGreatDoor
namespace Rows

/-- THE TIED CARD OF 'laws.FnComplexes'. -/
def fnComplexesCard : Claim7 := { stood := { row := fnComplexesRow, standIns := [], harness := (true, "7e83e0cd61a4a21de645e5b6508ad6f34c9a5909f1d34b090dcb65cf323cc93f"), looks := false }, kinds := [], alts := [], laidByText := true, laidKinds := [.data, .data, .data], laidTests := true, laidLooks := .later }
def FnComplexesCardSaid : Prop := Claim7.holds Tryz.pinned (.plain (OpenSpec.ofChange fnComplexesSpec)) fnComplexesCard

/-- THE SECOND FORM's CARD OF 'laws.FnComplexes'. -/
def fnComplexesUptoCard : Claim7 := { stood := { row := fnComplexesUptoRow, standIns := [], harness := (true, "7e83e0cd61a4a21de645e5b6508ad6f34c9a5909f1d34b090dcb65cf323cc93f"), looks := false }, kinds := [], alts := [], laidByText := true, laidKinds := [.data, .data, .data], laidTests := true, laidLooks := .later }
def FnComplexesUptoCardSaid : Prop := Claim7.holds Tryz.pinned (.plain (OpenSpec.upto fnComplexesSpec)) fnComplexesUptoCard
end Rows
end Go.Proofs.YtmkacjpjcfffmabGreatDoor
