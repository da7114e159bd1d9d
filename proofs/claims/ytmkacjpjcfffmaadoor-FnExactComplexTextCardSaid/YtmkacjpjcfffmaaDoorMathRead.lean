/- Plain laws: numbers read and written. No program is named here. -/
import Derived.Test.YtmkacjpjcfffmaaDoorMathNum
namespace Go.Proofs.YtmkacjpjcfffmaaDoor
theorem rev_ind {α : Type} {p : List α → Prop} (h0 : p []) (h1 : ∀ l c, p l → p (l ++ [c])) (l : List α) : p l := by
  have h : ∀ r : List α, p r.reverse := by
    intro r
    induction r with
    | nil => exact h0
    | cons c r ih => rw [List.reverse_cons]; exact h1 _ _ ih
  have := h l.reverse
  rwa [List.reverse_reverse] at this
def isDig (c : UInt8) : Bool := decide (48 ≤ c.toNat ∧ c.toNat ≤ 57)
/-- What digits say. -/
def valOf (l : List UInt8) : Nat := l.foldl (fun a c => 10 * a + (c.toNat - 48)) 0
theorem valOf_snoc (l : List UInt8) (c : UInt8) : valOf (l ++ [c]) = 10 * valOf l + (c.toNat - 48) := by simp [valOf]
/-- The text of a number from naught on. -/
def fmtN (k : Nat) : List UInt8 := if k = 0 then [48] else dec k
def fmtZ (n : Int) : List UInt8 := if n = 0 then [48] else if n < 0 then 45 :: dec n.natAbs else dec n.natAbs
theorem digit_of {c : UInt8} (h : isDig c = true) : digit (c.toNat - 48) = c := by
  have h1 := of_decide_eq_true h
  unfold digit
  rw [show 48 + (c.toNat - 48) = c.toNat by omega]
  simp
theorem valOf_bound : ∀ l : List UInt8, l.all isDig = true → valOf l < 10 ^ l.length := by
  refine rev_ind ?_ ?_
  · intro _; simp [valOf]
  · intro l c ih h
    rw [List.all_append, Bool.and_eq_true] at h
    have h1 := ih h.1
    have h2 : isDig c = true := by simpa using h.2
    have h3 := of_decide_eq_true h2
    rw [valOf_snoc, List.length_append, List.length_singleton, Nat.pow_succ]
    omega
theorem dec_small {k : Nat} (h0 : 0 < k) (h : k < 10) : dec k = [digit k] := by
  rw [dec_pos h0, show k / 10 = 0 by omega, dec_zero, show k % 10 = k by omega]
  rfl
/-- Without a naught ahead: read and written again. -/
theorem dec_valOf : ∀ l : List UInt8, l.all isDig = true → (∃ c r, l = c :: r ∧ c ≠ 48) → dec (valOf l) = l ∧ 0 < valOf l := by
  refine rev_ind ?_ ?_
  · rintro _ ⟨c, r, h, _⟩; cases h
  · intro l c ih h hh
    rw [List.all_append, Bool.and_eq_true] at h
    have h2 : isDig c = true := by simpa using h.2
    have h3 := of_decide_eq_true h2
    rw [valOf_snoc]
    cases l with
    | nil =>
      obtain ⟨c', r, e, hne⟩ := hh
      simp at e
      obtain ⟨rfl, rfl⟩ := e
      have hc : c.toNat ≠ 48 := fun e => hne (by
        have : UInt8.ofNat c.toNat = UInt8.ofNat 48 := by rw [e]
        simpa using this)
      rw [show valOf [] = 0 from rfl, Nat.mul_zero, Nat.zero_add, dec_small (by omega) (by omega), digit_of h2]
      exact ⟨rfl, by omega⟩
    | cons a l =>
      obtain ⟨c', r, e, hne⟩ := hh
      have ha : a = c' := by simpa using (List.cons.inj e).1
      obtain ⟨h4, h5⟩ := ih h.1 ⟨a, l, rfl, by rw [ha]; exact hne⟩
      rw [dec_pos (by omega), show (10 * valOf (a :: l) + (c.toNat - 48)) / 10 = valOf (a :: l) by omega, show (10 * valOf (a :: l) + (c.toNat - 48)) % 10 = c.toNat - 48 by omega, h4, digit_of h2]
      exact ⟨rfl, by omega⟩
theorem digit_ne {k : Nat} (h0 : 0 < k) (h : k < 10) : digit k ≠ 48 := by
  intro e
  have h1 : (digit k).toNat = (48 : UInt8).toNat := by rw [e]
  unfold digit at h1
  rw [UInt8.toNat_ofNat_of_lt' (by show 48 + k < 256; omega)] at h1
  have : (48 : UInt8).toNat = 48 := rfl
  omega
/-- What is written has no naught ahead. -/
theorem dec_head : ∀ k : Nat, 0 < k → ∃ c r, dec k = c :: r ∧ c ≠ 48 := by
  intro k
  induction k using Nat.strongRecOn with
  | _ k ih =>
    intro h0
    by_cases h : k < 10
    · exact ⟨_, [], dec_small h0 h, digit_ne h0 h⟩
    · obtain ⟨c, r, e, hne⟩ := ih (k / 10) (by omega) (by omega)
      exact ⟨c, r ++ [digit (k % 10)], by rw [dec_pos h0, e]; rfl, hne⟩
/-- Plain: no naught ahead of a digit. -/
def plainL (l : List UInt8) : Bool := decide (l.length ≤ 1) || decide (l.head? ≠ some 48)
theorem fmtN_valOf {l : List UInt8} (h : l.all isDig = true) (h0 : 0 < l.length) : fmtN (valOf l) = l ↔ plainL l = true := by
  cases l with
  | nil => simp at h0
  | cons c r =>
    by_cases hc : c = 48
    · subst hc
      cases r with
      | nil => simp [fmtN, valOf, plainL]
      | cons a r =>
        have hp : plainL (48 :: a :: r) = false := by simp [plainL]
        rw [hp]
        constructor
        · intro e
          exfalso
          unfold fmtN at e
          split at e
          · simp at e
          · rename_i hk
            obtain ⟨c, r', e2, hne⟩ := dec_head (valOf (48 :: a :: r)) (by omega)
            rw [e2] at e
            exact hne (List.cons.inj e).1
        · intro e; cases e
    · obtain ⟨h1, h2⟩ := dec_valOf (c :: r) h ⟨c, r, rfl, hc⟩
      have hp : plainL (c :: r) = true := by simp [plainL, hc]
      rw [hp]
      simp only [iff_true]
      unfold fmtN
      rw [if_neg (by omega)]
      exact h1
end Go.Proofs.YtmkacjpjcfffmaaDoor
