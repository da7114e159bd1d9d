/- Walks: SplitByte, in the program and in the reference. -/
import Derived.Test.YtmkacjpjcfffmaaDoorW1
import Derived.Lib.Strings
import Derived.Test.YtmkacjpjcfffmaaDoorMathSplit
namespace Go.Proofs.YtmkacjpjcfffmaaDoor
open Go.RowKit

theorem infoS' : (Tryd.prog.info? 9).map (fun i => (i.zero, i.size, i.bytes)) = some (some (.string ⟨#[]⟩), 1, 16) := by kernel_rfl

theorem cut_eq (l : List UInt8) (a b : Nat) : (⟨l.toArray⟩ : ByteArray).extract a b = ⟨((l.drop a).take (b - a)).toArray⟩ := by
  have := Lib.extract_eq (⟨l.toArray⟩ : ByteArray) a b
  simpa using this
end Go.Proofs.YtmkacjpjcfffmaaDoor
