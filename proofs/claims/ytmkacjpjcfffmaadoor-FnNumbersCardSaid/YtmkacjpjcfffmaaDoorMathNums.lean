/- Plain laws: numbers written and read again. No program is named here. -/
import Derived.Test.YtmkacjpjcfffmaaDoorMathItoa
import Derived.Test.YtmkacjpjcfffmaaDoorW35
namespace Go.Proofs.YtmkacjpjcfffmaaDoor

theorem digit_facts : ((List.range 10).all fun d => isDig (digit d) && ((digit d).toNat - 48 == d) && (digit d != 45)) = true := by decide +kernel
theorem digit_fact {d : Nat} (h : d < 10) : isDig (digit d) = true ∧ (digit d).toNat - 48 = d ∧ digit d ≠ 45 := by
  have e := List.all_eq_true.1 digit_facts d (List.mem_range.2 h)
  rw [Bool.and_eq_true, Bool.and_eq_true] at e
  exact ⟨e.1.1, by simpa using e.1.2, by simpa using e.2⟩
theorem dec_facts : ∀ (f k : Nat), k ≤ f → (dec k).all isDig = true ∧ valOf (dec k) = k
  | 0, k, h => by
    obtain rfl : k = 0 := by omega
    exact ⟨rfl, rfl⟩
  | f + 1, k, h => by
    by_cases h0 : 0 < k
    · obtain ⟨h1, h2⟩ := dec_facts f (k / 10) (by omega)
      obtain ⟨h3, h4, _⟩ := digit_fact (show k % 10 < 10 by omega)
      rw [dec_pos h0]
      constructor
      · rw [List.all_append, h1]
        simp [h3]
      · rw [valOf_snoc, h2, h4]
        omega
    · obtain rfl : k = 0 := by omega
      exact ⟨rfl, rfl⟩
theorem fmtN_facts (u : Nat) : (fmtN u).all isDig = true ∧ plainL (fmtN u) = true ∧ valOf (fmtN u) = u ∧ 1 ≤ (fmtN u).length := by
  by_cases h0 : u = 0
  · subst h0
    exact ⟨rfl, rfl, rfl, by decide⟩
  · have e : fmtN u = dec u := by unfold fmtN; rw [if_neg h0]
    rw [e]
    obtain ⟨h1, h2⟩ := dec_facts u u (Nat.le_refl _)
    obtain ⟨c, r, h3, h4⟩ := dec_head u (by omega)
    refine ⟨h1, ?_, h2, ?_⟩
    · rw [h3]
      unfold plainL
      rw [decide_eq_true (show (c :: r).head? ≠ some 48 by simpa using h4), Bool.or_true]
    · rw [h3]
      simp
theorem pdOk_fmtN (most u : Nat) : pdOk most (fmtN u) = decide ((fmtN u).length ≤ most) := by
  obtain ⟨h1, h2, _, h4⟩ := fmtN_facts u
  unfold pdOk
  rw [h1, h2, Bool.and_true, Bool.and_true]
  exact decide_eq_decide.2 ⟨fun h => h.2, fun h => ⟨h4, h⟩⟩
theorem pdOk_dec (most u : Nat) (h0 : u ≠ 0) : pdOk most (dec u) = decide ((dec u).length ≤ most) := by
  have e : fmtN u = dec u := by unfold fmtN; rw [if_neg h0]
  rw [← e]
  exact pdOk_fmtN most u
theorem fmtN_no45 (u : Nat) (t : List UInt8) : fmtN u ≠ 45 :: t := by
  intro e
  have h := (fmtN_facts u).1
  rw [e, List.all_cons] at h
  revert h
  simp [isDig]
theorem pi_fmtZ (n : Int) : piOk (fmtZ n) = (decide ((fmtZ n).length ≤ 12) || (decide (n < 0) && decide ((fmtZ n).length ≤ 13))) ∧ (piOk (fmtZ n) = true → piVal (fmtZ n) = n) := by
  by_cases h1 : n < 0
  · have hu : n.natAbs ≠ 0 := by omega
    have e : fmtZ n = 45 :: dec n.natAbs := by
      unfold fmtZ
      rw [if_neg (by omega), if_pos h1]
    have hv := (dec_facts n.natAbs n.natAbs (Nat.le_refl _)).2
    have ho : piOk (45 :: dec n.natAbs) = decide ((dec n.natAbs).length ≤ 12) := by
      show (pdOk 12 (dec n.natAbs) && decide (valOf (dec n.natAbs) ≠ 0)) = _
      rw [hv, decide_eq_true hu, Bool.and_true, pdOk_dec _ _ hu]
    rw [e]
    constructor
    · rw [ho, List.length_cons, decide_eq_true h1, Bool.true_and, Bool.eq_iff_iff, Bool.or_eq_true, decide_eq_true_eq, decide_eq_true_eq, decide_eq_true_eq]
      omega
    · intro h
      show (if pdOk 12 (dec n.natAbs) && decide (valOf (dec n.natAbs) ≠ 0) then -(valOf (dec n.natAbs) : Int) else 0) = n
      have h' : (pdOk 12 (dec n.natAbs) && decide (valOf (dec n.natAbs) ≠ 0)) = true := h
      rw [h', hv]
      simp only [if_true]
      omega
  · obtain ⟨u, rfl⟩ := Int.eq_ofNat_of_zero_le (show 0 ≤ n by omega)
    have h45 := fmtN_no45 u
    obtain ⟨p1, p2⟩ := pi_pos h45
    rw [fmtZ_nat, p1, p2, pdOk_fmtN]
    constructor
    · rw [decide_eq_false h1, Bool.false_and, Bool.or_false]
    · intro h
      rw [pdVal_yes (by rw [pdOk_fmtN]; exact h), (fmtN_facts u).2.2.1]
theorem pd_back {most : Nat} {t : List UInt8} (h : pdOk most t = true) : fmtZ (pdVal most t) = t ∧ 0 ≤ pdVal most t := by
  rw [pdVal_yes h]
  unfold pdOk at h
  rw [Bool.and_eq_true, Bool.and_eq_true] at h
  have hl := of_decide_eq_true h.1.1
  rw [fmtZ_nat]
  exact ⟨(fmtN_valOf h.2 (by omega)).2 h.1.2, by omega⟩
end Go.Proofs.YtmkacjpjcfffmaaDoor
