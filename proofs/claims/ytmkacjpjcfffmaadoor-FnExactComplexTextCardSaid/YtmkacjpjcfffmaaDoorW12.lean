/- Walks: faces of a complex: facesIn, l3Has, HasFace, topSize, DimOf, IsPure. Printed by gen/w12.py. -/
import Derived.Test.YtmkacjpjcfffmaaDoorW11
import Derived.Test.YtmkacjpjcfffmaaDoorMathFace
namespace Go.Proofs.YtmkacjpjcfffmaaDoor
open Go.RowKit

theorem topOf_bd (P : Nat → Bool) : -1 ≤ topOf P ∧ topOf P ≤ 6 := by
  rcases topTo_ge P 64 with h | h
  · exact h
  · omega

end Go.Proofs.YtmkacjpjcfffmaaDoor
