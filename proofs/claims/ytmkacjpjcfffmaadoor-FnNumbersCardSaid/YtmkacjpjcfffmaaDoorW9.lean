/- Walks: OrderSets, MaximalSets, MinimalSets, SubsetsOf in the reference. -/
import Derived.Test.YtmkacjpjcfffmaaDoorW7
import Derived.Test.YtmkacjpjcfffmaaDoorMathTop
namespace Go.Proofs.YtmkacjpjcfffmaaDoor
open Go.RowKit

theorem subTo_all (m : Nat) : allSets (zs ((List.range 64).filter fun t => sub t m)) = true := by
  apply List.all_eq_true.2
  intro x hx
  simp only [zs, List.mem_map, List.mem_filter, List.mem_range] at hx
  obtain ⟨n, ⟨hn, _⟩, rfl⟩ := hx
  exact decide_eq_true ⟨by omega, by omega⟩
theorem subTo_in (m s : Nat) (hs : s < 64) : inList (zs ((List.range 64).filter fun t => sub t m)) s = sub s m := by
  unfold inList
  rw [Bool.eq_iff_iff]
  simp only [List.contains_eq_mem, decide_eq_true_eq, zs, List.mem_map, List.mem_filter, List.mem_range]
  constructor
  · rintro ⟨n, ⟨_, h⟩, e⟩
    have : n = s := by omega
    subst this
    exact h
  · intro h
    exact ⟨s, ⟨hs, h⟩, rfl⟩
def subTo (m k : Nat) : List Nat := (List.range k).filter fun t => sub t m
theorem subTo_yes {m k : Nat} (h : sub k m = true) : subTo m (k + 1) = subTo m k ++ [k] := by simp [subTo, List.range_succ, h]
theorem subTo_no {m k : Nat} (h : sub k m = false) : subTo m (k + 1) = subTo m k := by simp [subTo, List.range_succ, h]
theorem subTo_len (m k : Nat) : (subTo m k).length ≤ k := by
  have := List.length_filter_le (fun t => sub t m) (List.range k)
  simpa [subTo] using this
theorem listOf_nil : listOf (inList []) = [] := by decide +kernel

end Go.Proofs.YtmkacjpjcfffmaaDoor
