/- Walks: what is read off the facets of a complex: IsSimplex, UsedPoints, ConePoints, DegreeOf, IsPure. -/
import Derived.Test.YtmkacjpjcfffmaaDoorW10
import Derived.Test.YtmkacjpjcfffmaaDoorBox
namespace Go.Proofs.YtmkacjpjcfffmaaDoor
open Go.RowKit

/-- The facets of a complex, at hand: cells and bounds. -/
theorem cxElems {n : Int} {xs : List Int} {w : World} {B : Nat} {v : Value} (h : IntsAt w B v xs) (hcx : isCx n xs = true) : ∀ k, k < xs.length → ∃ (b o s : Nat), (∃ c, v = .slice (some ⟨b, o, none⟩) xs.length c) ∧ xs[k]? = some (s : Int) ∧ s < 64 ∧ w.cell? ⟨b, o + k, none⟩ = some (.int .i64 (s : Int)) := by
  intro k hk
  obtain ⟨A, c, rfl, _, he⟩ := form_ h
  obtain ⟨b, o, x, rfl, _, hx, hc⟩ := he k hk
  obtain ⟨h0, h1⟩ := isCx_sets hcx x (List.mem_of_getElem? hx)
  obtain ⟨s, rfl⟩ := Int.eq_ofNat_of_zero_le h0
  exact ⟨b, o, s, ⟨_, rfl⟩, hx, by omega, hc⟩

/-! ### UsedPoints -/
def orAll (xs : List Int) : Nat := xs.foldl (fun a x => a ||| x.toNat) 0
theorem orAll_snoc (xs : List Int) (x : Int) : orAll (xs ++ [x]) = orAll xs ||| x.toNat := by simp [orAll]
def usedOf (n : Int) (xs : List Int) : Int := if isCx n xs then (orAll xs : Int) else 0

end Go.Proofs.YtmkacjpjcfffmaaDoor
