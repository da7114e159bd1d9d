/- The rows' frame: a slice of strings, a slice of bytes that came in. -/
import Derived.Test.YtmkacjpjcfffmaaDoorOpen
import Derived.Deep.Strs
namespace Go.Proofs.YtmkacjpjcfffmaaDoor
open Go.ChangeShapes Go.WideShapes Go.ChangeAt Go.RowKit
open Go.Deep

section
variable {H : Type} {enc : TypeId × Value → H} {P : Program} {w : World} {base : Nat} {spare : Nat → Bool} {held : Bool}

theorem openStrs1 {t e : TypeId} (ht : P.underlying t = some (.slice e)) (he : P.underlying e = some .string) (hc : P.cellsOf e = 1) {v : Value} {fuel : Nat} {y : DataW H × List MemPlace} (hf : DataW.trod enc P w base spare held fuel t [v] = some y) :
    ∃ ls : List (List UInt8), StrsAt w w.heap.size v ls ∧ ls.length ≤ 9223372036854775807 ∧ ∀ l ∈ ls, l.length ≤ 9223372036854775807 := by
  rcases open_strs ht he hc hf with ⟨hcs, _⟩ | ⟨a, len, cap, m, Sx, hcs, _, hl, hm, hmm, _, hcell⟩
  · obtain rfl : v = .slice none 0 0 := by simpa using hcs
    exact ⟨[], ReadsV.nil_ _ _, by simp, by simp⟩
  · obtain rfl : v = .slice (some a) len cap := by simpa using hcs
    have hm' := hm
    unfold maxLen at hm'
    have hlm : len ≤ m := by rw [hmm]; split <;> omega
    have hL : ((List.range len).map fun i => (Sx i).data.toList).length = len := by simp
    refine ⟨(List.range len).map fun i => (Sx i).data.toList, ⟨some a, cap, by rw [strsV_length, hL], by rw [strsV_length, hL]; exact hl, fun hn => ?_⟩, by omega, fun l hl' => ?_⟩
    · rw [strsV_length, hL] at hn
      have h0 := (hcell 0 (by omega)).1
      obtain ⟨b, o, sp⟩ := a
      have hsp : sp = none := by simpa [Addr.add] using World.cell?_spot h0
      subst hsp
      have hb := World.block_lt_of_cell? _ _ h0
      rw [add_none] at hb
      refine ⟨b, o, rfl, hb, fun i u hu => ?_⟩
      by_cases hi : i < len
      · have := (hcell i (by omega)).1
        rw [add_none] at this
        rw [this]
        have e : (strsV ((List.range len).map fun i => (Sx i).data.toList))[i]? = some (.string (Sx i)) := by simp [strsV, hi]
        rw [e] at hu
        exact hu
      · rw [List.getElem?_eq_none (by rw [strsV_length, hL]; omega)] at hu
        cases hu
    · obtain ⟨i, hi, rfl⟩ := List.mem_map.1 hl'
      have := (hcell i (by have := List.mem_range.1 hi; omega)).2
      unfold maxLen at this
      simpa using this
theorem openStrs {t e : TypeId} (ht : P.underlying t = some (.slice e)) (he : P.underlying e = some .string) (hc : P.cellsOf e = 1) {v : Value} {d : DataW H} {ps : List MemPlace} (h : DataW.Trod enc P w base spare held t v d ps) (hv : ∃ a l c, v = .slice a l c) :
    ∃ ls : List (List UInt8), StrsAt w w.heap.size v ls ∧ ls.length ≤ 9223372036854775807 ∧ ∀ l ∈ ls, l.length ≤ 9223372036854775807 := by
  obtain ⟨fuel, hf⟩ := h
  obtain ⟨a0, l0, c0, rfl⟩ := hv
  exact openStrs1 ht he hc (show DataW.trod enc P w base spare held fuel t [.slice a0 l0 c0] = some _ by simpa [Value.cells] using hf)
end
end Go.Proofs.YtmkacjpjcfffmaaDoor
