/- Plain laws: the numeral of the library and that of the reference are the same. No program is named here. -/
import Derived.Test.YtmkacjpjcfffmaaDoorMathRead
import Derived.Lib.ItoaNum
import Derived.Lib.ItoaLen
namespace Go.Proofs.YtmkacjpjcfffmaaDoor

theorem decDigits_fmtN : ∀ (f u : Nat), u ≤ f → Lib.decDigits u = fmtN u
  | 0, u, h => by
    obtain rfl : u = 0 := by omega
    rw [Lib.decDigits]
    rfl
  | f + 1, u, h => by
    by_cases h0 : u = 0
    · subst h0
      rw [Lib.decDigits]
      rfl
    · have e : fmtN u = dec u := by unfold fmtN; rw [if_neg h0]
      rw [e, dec_pos (by omega), Lib.decDigits]
      by_cases h1 : u < 10
      · rw [dif_pos h1, show u / 10 = 0 by omega, dec_zero, List.nil_append, show u % 10 = u by omega]
        rfl
      · rw [dif_neg h1, decDigits_fmtN f (u / 10) (by omega)]
        unfold fmtN
        rw [if_neg (by omega)]
        rfl
theorem itoa_fmtZ (n : Int) : Lib.itoa n = fmtZ n := by
  unfold Lib.itoa fmtZ
  by_cases h0 : n = 0
  · subst h0
    rw [if_neg (by decide), if_pos rfl]
    rw [decDigits_fmtN _ _ (Nat.le_refl _)]
    rfl
  · rw [if_neg h0]
    by_cases h1 : n < 0
    · rw [if_pos h1, if_pos h1, decDigits_fmtN _ _ (Nat.le_refl _)]
      unfold fmtN
      rw [if_neg (by omega)]
    · rw [if_neg h1, if_neg h1, decDigits_fmtN _ _ (Nat.le_refl _)]
      unfold fmtN
      rw [if_neg (by omega), show n.toNat = n.natAbs by omega]
theorem fmtZ_len (n : Int) (h0 : -9223372036854775808 ≤ n) (h1 : n ≤ 9223372036854775807) : (fmtZ n).length ≤ 21 := by
  rw [← itoa_fmtZ]
  exact Lib.itoa_length_le n h0 h1
end Go.Proofs.YtmkacjpjcfffmaaDoor
