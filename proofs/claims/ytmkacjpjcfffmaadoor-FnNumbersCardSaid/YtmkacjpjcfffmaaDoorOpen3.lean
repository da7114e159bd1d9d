/- The rows' frame: a slice of bytes that came in. -/
import Derived.Test.YtmkacjpjcfffmaaDoorOpen2
import Derived.Test.YtmkacjpjcfffmaaDoorW60
namespace Go.Proofs.YtmkacjpjcfffmaaDoor
open Go.ChangeShapes Go.WideShapes Go.ChangeAt Go.RowKit
open Go.Deep

section
variable {H : Type} {enc : TypeId × Value → H} {P : Program} {w : World} {base : Nat} {spare : Nat → Bool} {held : Bool}

theorem openBytes1 {t e : TypeId} (ht : P.underlying t = some (.slice e)) (he : P.underlying e = some (.int .u8)) (hc : P.cellsOf e = 1) {v : Value} {fuel : Nat} {y : DataW H × List MemPlace} (hf : DataW.trod enc P w base spare held fuel t [v] = some y) :
    ∃ ls : List UInt8, BytesAt w w.heap.size v ls ∧ ls.length ≤ 9223372036854775807 := by
  rcases open_ints ht he hc hf with ⟨hcs, _⟩ | ⟨a, len, cap, zs, hcs, _, hl, hm, hz, _, hcell, hwz⟩
  · obtain rfl : v = .slice none 0 0 := by simpa using hcs
    exact ⟨[], ReadsV.nil_ _ _, by simp⟩
  · obtain rfl : v = .slice (some a) len cap := by simpa using hcs
    unfold maxLen at hm
    have hzl : len ≤ zs.length := by rw [hz]; split <;> omega
    have hL : ((zs.take len).map fun z => UInt8.ofNat z.toNat).length = len := by rw [List.length_map, List.length_take]; omega
    have hbl : (bytesV ((zs.take len).map fun z => UInt8.ofNat z.toNat)).length = len := by rw [List.length_map]; exact hL
    refine ⟨(zs.take len).map fun z => UInt8.ofNat z.toNat, ⟨some a, cap, by rw [hbl], by rw [hbl]; exact hl, fun hn => ?_⟩, by rw [hL]; omega⟩
    rw [hbl] at hn
    have h0 := hcell 0 (by omega)
    obtain ⟨b, o, sp⟩ := a
    have hsp : sp = none := by simpa [Addr.add] using World.cell?_spot h0
    subst hsp
    have hb := World.block_lt_of_cell? _ _ h0
    rw [add_none] at hb
    refine ⟨b, o, rfl, hb, fun i u hu => ?_⟩
    rw [bytesV, List.getElem?_map, List.getElem?_map, List.getElem?_take] at hu
    split at hu
    · rename_i hi
      have := hcell i (by omega)
      rw [add_none] at this
      rw [this]
      have hzi : zs[i]? = some (zs[i]'(by omega)) := List.getElem?_eq_getElem (by omega)
      rw [hzi] at hu
      simp only [Option.map_some] at hu
      obtain ⟨y, hy⟩ := byte_of (hwz _ (List.getElem_mem (show i < zs.length by omega)))
      rw [List.getD, hzi]
      simp only [Option.getD_some]
      rw [hy] at hu ⊢
      have e : UInt8.ofNat ((y.toNat : Int)).toNat = y := by rw [Int.toNat_natCast]; simp
      rw [e] at hu
      exact hu
    · cases hu
theorem openBytes {t e : TypeId} (ht : P.underlying t = some (.slice e)) (he : P.underlying e = some (.int .u8)) (hc : P.cellsOf e = 1) {v : Value} {d : DataW H} {ps : List MemPlace} (h : DataW.Trod enc P w base spare held t v d ps) (hv : ∃ a l c, v = .slice a l c) :
    ∃ ls : List UInt8, BytesAt w w.heap.size v ls ∧ ls.length ≤ 9223372036854775807 := by
  obtain ⟨fuel, hf⟩ := h
  obtain ⟨a0, l0, c0, rfl⟩ := hv
  exact openBytes1 ht he hc (show DataW.trod enc P w base spare held fuel t [.slice a0 l0 c0] = some _ by simpa [Value.cells] using hf)
end
end Go.Proofs.YtmkacjpjcfffmaaDoor
