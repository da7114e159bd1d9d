/- Walks: FacesOf. -/
import Derived.Test.YtmkacjpjcfffmaaDoorW12
import Derived.Test.YtmkacjpjcfffmaaDoorW7
namespace Go.Proofs.YtmkacjpjcfffmaaDoor
open Go.RowKit

def facesOf (n : Int) (xs : List Int) : List Nat := if isCx n xs then listOf (faceP xs) else []
theorem facesOf_yes {n : Int} {xs : List Int} (h : isCx n xs = true) : facesOf n xs = listOf (faceP xs) := by simp [facesOf, h]
theorem facesOf_no {n : Int} {xs : List Int} (h : isCx n xs = false) : facesOf n xs = [] := by simp [facesOf, h]
theorem facesOf_len (n : Int) (xs : List Int) : (facesOf n xs).length ≤ 448 := by
  unfold facesOf
  split
  · exact listOf_len _
  · simp
def facesTo (xs : List Int) (k : Nat) : List Nat := (List.range k).filter (faceP xs)
theorem facesTo_yes {xs : List Int} {k : Nat} (h : faceP xs k = true) : facesTo xs (k + 1) = facesTo xs k ++ [k] := by simp [facesTo, List.range_succ, h]
theorem facesTo_no {xs : List Int} {k : Nat} (h : faceP xs k = false) : facesTo xs (k + 1) = facesTo xs k := by simp [facesTo, List.range_succ, h]
theorem facesTo_len (xs : List Int) (k : Nat) : (facesTo xs k).length ≤ k := by
  have := List.length_filter_le (faceP xs) (List.range k)
  simpa [facesTo] using this
theorem in_zs (l : List Nat) (s : Nat) : inList (zs l) s = l.contains s := by
  unfold inList zs
  rw [Bool.eq_iff_iff, List.contains_iff_mem, List.contains_iff_mem, List.mem_map]
  constructor
  · rintro ⟨a, h, e⟩
    obtain rfl : a = s := Int.ofNat.inj e
    exact h
  · intro h
    exact ⟨s, h, rfl⟩
theorem facesTo_in (xs : List Int) {s : Nat} (hs : s < 64) : inList (zs (facesTo xs 64)) s = faceP xs s := by
  rw [in_zs, Bool.eq_iff_iff, List.contains_iff_mem]
  unfold facesTo
  rw [List.mem_filter, List.mem_range]
  exact ⟨fun h => h.2, fun h => ⟨hs, h⟩⟩
theorem zs_all {l : List Nat} (h : ∀ s ∈ l, s < 64) : allSets (zs l) = true := by
  refine List.all_eq_true.2 fun x hx => decide_eq_true ?_
  obtain ⟨m, hm, rfl⟩ := List.mem_map.1 hx
  have := h m hm
  constructor
  · show (0 : Int) ≤ (m : Int); omega
  · show (m : Int) < 64; omega
theorem facesTo_all (xs : List Int) : allSets (zs (facesTo xs 64)) = true := zs_all fun _ hs => List.mem_range.1 (List.mem_filter.1 hs).1
theorem zs_len20 (l : List Nat) : (zs l).length = l.length := List.length_map _
theorem listOf_none : listOf (inList []) = [] := by decide +kernel

end Go.Proofs.YtmkacjpjcfffmaaDoor
