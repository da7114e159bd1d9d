/- Walks: what is read off the facets of a complex, more: IsSimplex, ConePoints, DegreeOf, IsPure. Printed by gen/w11.py. -/
import Derived.Test.YtmkacjpjcfffmaaDoorW11a
namespace Go.Proofs.YtmkacjpjcfffmaaDoor
open Go.RowKit

/-! ### ConePoints -/
def andAll (m : Nat) (xs : List Int) : Nat := xs.foldl (fun a x => a &&& x.toNat) m
theorem andAll_snoc (m : Nat) (xs : List Int) (x : Int) : andAll m (xs ++ [x]) = andAll m xs &&& x.toNat := by simp [andAll]
def coneOf (n : Int) (xs : List Int) : Int := if isCx n xs then (match xs with | [] => 0 | x :: _ => (andAll x.toNat xs : Int)) else 0
theorem coneOf_yes {n : Int} {xs : List Int} (h : isCx n xs = true) {m : Nat} (h0 : xs[0]? = some (m : Int)) : coneOf n xs = (andAll m xs : Int) := by
  cases xs with
  | nil => simp at h0
  | cons y ys =>
    simp at h0
    subst h0
    simp [coneOf, h]
theorem coneOf_nil {n : Int} {xs : List Int} (h : xs.length ≤ 0) : coneOf n xs = 0 := by
  obtain rfl : xs = [] := List.eq_nil_of_length_eq_zero (by omega)
  unfold coneOf
  split <;> rfl
theorem andAll_one {m : Nat} {xs : List Int} (h0 : xs[0]? = some (m : Int)) : andAll m (xs.take 1) = m := by
  rw [take_snoc _ 0 _ h0]
  simp [andAll]

/-! ### DegreeOf -/
def degTo (s : Nat) (xs : List Int) : Nat := xs.countP (fun x => sub s x.toNat)
theorem degTo_snoc (s : Nat) (xs : List Int) (x : Int) : degTo s (xs ++ [x]) = degTo s xs + if sub s x.toNat then 1 else 0 := by
  unfold degTo
  rw [List.countP_append]
  simp [List.countP_cons]
theorem degTo_le (s : Nat) (xs : List Int) : degTo s xs ≤ xs.length := List.countP_le_length
def degOf (n s : Int) (xs : List Int) : Int := if isCx n xs && decide (0 ≤ s ∧ s < 64) then (degTo s.toNat xs : Int) else -1
theorem degOf_no1 {n s : Int} {xs : List Int} (h : isCx n xs = false) : degOf n s xs = -1 := by simp [degOf, h]
theorem degOf_no2 {n s : Int} {xs : List Int} (h : ¬ (0 ≤ s ∧ s < 64)) : degOf n s xs = -1 := by
  unfold degOf
  rw [decide_eq_false h]
  simp
theorem degOf_yes {n : Int} {s : Nat} {xs : List Int} (h : isCx n xs = true) (hs : s < 64) : degOf n (s : Int) xs = (degTo s xs : Int) := by
  unfold degOf
  rw [h, decide_eq_true (by omega : (0 : Int) ≤ (s : Int) ∧ (s : Int) < 64)]
  simp
theorem isSetB6 {s : Int} : isSetB 6 s = decide (0 ≤ s ∧ s < 64) := by
  unfold isSetB
  simp
def andBitY (s t : Nat) : Bool := (bits BinOp.and IntKind.i64 (t : Int) (s : Int) == (s : Int)) == sub s t
theorem andBitY_all : ((List.range 64).all fun s => (List.range 64).all fun t => andBitY s t) = true := by decide +kernel
theorem and_bitY {s t : Nat} (hs : s < 64) (ht : t < 64) : (bits BinOp.and IntKind.i64 (t : Int) (s : Int) == (s : Int)) = sub s t := by
  have h1 := List.all_eq_true.1 (List.all_eq_true.1 andBitY_all s (List.mem_range.2 hs)) t (List.mem_range.2 ht)
  unfold andBitY at h1
  simpa using h1
end Go.Proofs.YtmkacjpjcfffmaaDoor
