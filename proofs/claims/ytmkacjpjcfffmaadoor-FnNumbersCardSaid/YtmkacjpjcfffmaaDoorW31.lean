/- Walks: ParseNumber, ParseInt in the program. -/
import Derived.Test.YtmkacjpjcfffmaaDoorW30
namespace Go.Proofs.YtmkacjpjcfffmaaDoor
open Go.RowKit

theorem parseNumberI (l : List UInt8) (w : World) (hl : l.length ≤ 9223372036854775807) :
    Calls Tryd.prog 17 #[.string ⟨l.toArray⟩] w fun e w' => e = .returned (.tuple #[.int .i64 (pdVal 6 l), .bool (pdOk 6 l)]) ∧ w = w' := by
  have hp := plainDigitsI l 6 (by omega) w hl
  cases hok : pdOk 6 l
  · have Hv := hide (pdVal_no hok)
    rw [hok] at hp
    have Hp := hide hp
    clear hok hp
    go_enter Tryd.func17, Tryd.ntmps17
    go_wp2_with fail
    refine Calls.mono Hp.out ?_
    rintro e w' ⟨rfl, rfl⟩
    go_wp2
    go_ret2
    rw [Hv.out]
    exact ⟨rfl, rfl⟩
  · rw [hok] at hp
    have Hp := hide hp
    clear hok hp
    go_enter Tryd.func17, Tryd.ntmps17
    go_wp2_with fail
    refine Calls.mono Hp.out ?_
    rintro e w' ⟨rfl, rfl⟩
    go_wp2
    go_ret2
    exact ⟨rfl, rfl⟩
end Go.Proofs.YtmkacjpjcfffmaaDoor
