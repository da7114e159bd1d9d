/- Walks: FormatInt in the program (by the library's contract: it reads the table of the powers of ten). -/
import Derived.Test.YtmkacjpjcfffmaaDoorTab
import Derived.Test.YtmkacjpjcfffmaaDoorMathItoa
import Derived.Test.YtmkacjpjcfffmaaDoorShelf
import Derived.Test.YtmkacjpjcfffmaaDoorW32
namespace Go.Proofs.YtmkacjpjcfffmaaDoor
open Go.RowKit

theorem formatIntI (n : Int) (w : World) (hk : -9223372036854775808 ≤ n ∧ n ≤ 9223372036854775807) (hT : Tab w) : Calls Tryd.prog 7 #[.int .i64 n] w fun e w' => RetS w (fmtZ n) e w' := by
  have HT := hide hT
  clear hT
  go_enter Tryd.func7, Tryd.ntmps7
  go_wp2_with fail
  refine (Tryd.strconv_Itoa n hk.1 hk.2 w HT.out).mono ?_
  rintro e w' ⟨rfl, k, os, rfl⟩
  rw [itoa_fmtZ]
  have B := hide (Lib.below_grow w.heap.size w (Nat.le_refl _) k os)
  generalize Go.Sort.grow (w.drewN k) os = w1 at *
  go_wp2
  go_ret
  exact ⟨rfl, B.out⟩
end Go.Proofs.YtmkacjpjcfffmaaDoor
