/- Plain laws: decimal digits. No program is named here. -/
import Derived.Test.YtmkacjpjcfffmaaDoorMathTxt
namespace Go.Proofs.YtmkacjpjcfffmaaDoor
/-- A digit's letter. -/
def digit (n : Nat) : UInt8 := UInt8.ofNat (48 + n)
def decF : Nat → Nat → List UInt8
  | 0, _ => []
  | f + 1, k => if k = 0 then [] else decF f (k / 10) ++ [digit (k % 10)]
/-- The digits of k, none of 0. -/
def dec (k : Nat) : List UInt8 := decF k k
theorem decF_fuel : ∀ (f g k : Nat), k ≤ f → k ≤ g → decF f k = decF g k := by
  intro f
  induction f with
  | zero =>
    intro g k h _
    have : k = 0 := by omega
    subst this
    cases g <;> simp [decF]
  | succ f ih =>
    intro g k hf hg
    by_cases h0 : k = 0
    · subst h0
      cases g <;> simp [decF]
    · cases g with
      | zero => omega
      | succ g =>
        have h1 : k / 10 < k := Nat.div_lt_self (by omega) (by omega)
        simp only [decF, if_neg h0]
        rw [ih g (k / 10) (by omega) (by omega)]
theorem dec_zero : dec 0 = [] := rfl
theorem dec_pos {k : Nat} (h : 0 < k) : dec k = dec (k / 10) ++ [digit (k % 10)] := by
  unfold dec
  have h1 : k / 10 < k := Nat.div_lt_self (by omega) (by omega)
  cases k with
  | zero => omega
  | succ n =>
    rw [decF, if_neg (by omega), decF_fuel n ((n + 1) / 10) ((n + 1) / 10) (by omega) (Nat.le_refl _)]
theorem decF_len : ∀ f k, (decF f k).length ≤ f := by
  intro f
  induction f with
  | zero => intro k; simp [decF]
  | succ f ih =>
    intro k
    simp only [decF]
    split
    · simp
    · have := ih (k / 10)
      simp
      omega
theorem dec_len (k : Nat) : (dec k).length ≤ k := decF_len k k
/-- 'm' and the digits. -/
def markTxt (k : Int) : List UInt8 := if k ≤ 0 then [109, 48] else 109 :: dec k.toNat
end Go.Proofs.YtmkacjpjcfffmaaDoor
