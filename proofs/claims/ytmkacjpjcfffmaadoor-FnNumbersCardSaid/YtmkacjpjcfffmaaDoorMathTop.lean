/- Plain laws: what OrderSets, MaximalSets, MinimalSets and SubsetsOf give. No program is named here. -/
import Derived.Test.YtmkacjpjcfffmaaDoorMathExt
namespace Go.Proofs.YtmkacjpjcfffmaaDoor
/-- The family of a list's sets, in order; nothing where one is no set. -/
def orderOf (xs : List Int) : List Nat := if allSets xs then listOf (inList xs) else []
def maxSets (xs : List Int) : List Nat := if allSets xs then maxOf (inList xs) else []
def minSets (xs : List Int) : List Nat := if allSets xs then minOf (inList xs) else []
theorem orderOf_yes {xs : List Int} (h : allSets xs = true) : orderOf xs = listOf (inList xs) := by simp [orderOf, h]
theorem orderOf_no {xs : List Int} (h : allSets xs = false) : orderOf xs = [] := by simp [orderOf, h]
theorem maxSets_yes {xs : List Int} (h : allSets xs = true) : maxSets xs = maxOf (inList xs) := by simp [maxSets, h]
theorem maxSets_no {xs : List Int} (h : allSets xs = false) : maxSets xs = [] := by simp [maxSets, h]
theorem minSets_yes {xs : List Int} (h : allSets xs = true) : minSets xs = minOf (inList xs) := by simp [minSets, h]
theorem minSets_no {xs : List Int} (h : allSets xs = false) : minSets xs = [] := by simp [minSets, h]
/-- The subsets of s, in order. -/
def subsetsOf (s : Int) : List Nat := if 0 ≤ s ∧ s < 64 then listOf (fun t => sub t s.toNat) else []
theorem subsetsOf_yes {m : Nat} (h : m < 64) : subsetsOf (m : Int) = listOf (fun t => sub t m) := by simp [subsetsOf]; omega
theorem subsetsOf_no {s : Int} (h : ¬ (0 ≤ s ∧ s < 64)) : subsetsOf s = [] := by simp [subsetsOf, h]
theorem orderOf_len (xs : List Int) : (orderOf xs).length ≤ 448 := by
  unfold orderOf
  split
  · exact listOf_len _
  · simp
theorem maxSets_len (xs : List Int) : (maxSets xs).length ≤ 448 := by
  unfold maxSets
  split
  · exact maxOf_len _
  · simp
theorem minSets_len (xs : List Int) : (minSets xs).length ≤ 448 := by
  unfold minSets
  split
  · exact minOf_len _
  · simp
theorem subsetsOf_len (s : Int) : (subsetsOf s).length ≤ 448 := by
  unfold subsetsOf
  split
  · exact listOf_len _
  · simp
end Go.Proofs.YtmkacjpjcfffmaaDoor
