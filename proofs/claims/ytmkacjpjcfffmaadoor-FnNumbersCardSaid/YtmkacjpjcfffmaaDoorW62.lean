/- Walks: the draws of sets: l2Sets, l1Turned, DrawIsSet, DrawBeforeSet, DrawParseSet, DrawMaximalSets; sameInts. -/
import Derived.Test.YtmkacjpjcfffmaaDoorW61
import Derived.Test.YtmkacjpjcfffmaaDoorTxt
import Derived.Test.YtmkacjpjcfffmaaDoorW2
namespace Go.Proofs.YtmkacjpjcfffmaaDoor
open Go.RowKit

/-- Two small ints are returned. -/
def Ret2 (w : World) (e : Ending) (w' : World) : Prop := ∃ a b : Int, -100 ≤ a ∧ a ≤ 100 ∧ -100 ≤ b ∧ b ≤ 100 ∧ e = .returned (.tuple #[.int .i64 a, .int .i64 b]) ∧ Below w.heap.size w w'
/-- Few small ints. -/
def Small (xs : List Int) : Prop := xs.length ≤ 6 ∧ ∀ x ∈ xs, -1 ≤ x ∧ x ≤ 64
theorem setTxtOf_len2 (s : Int) : (setTxtOf s).length ≤ 6 := by
  unfold setTxtOf
  split
  · unfold setTxt
    split
    · simp
    · exact txtTo_len _ 6
  · simp
end Go.Proofs.YtmkacjpjcfffmaaDoor
