/- The rows' frame: arguments that came in, opened to what the walks ask; and what a row asks behind a walk that returns true and leaves old memory as it was. -/
import Derived.Test.YtmkacjpjcfffmaaDoorW1
import Derived.ProofKit
import Derived.OpenShut
import Derived.ShutString
import Derived.ChangeOld
import Derived.Lib.SmallJoins
import Derived.SliceStrings
namespace Go.Proofs.YtmkacjpjcfffmaaDoor
open Go.ChangeShapes Go.WideShapes Go.ChangeAt Go.RowKit
open Go.ChangeMaps (open_string shut_string)
open Go.Deep

theorem own : ownKnob Tryd.prog.godebug = none := by kernel_rfl
theorem laidOut : laidOutB Tryd.prog = true := by kernel_rfl

section
variable {H : Type} {enc : TypeId × Value → H} {P : Program} {w : World} {base : Nat} {spare : Nat → Bool} {held : Bool}

theorem add_none (b o i : Nat) : (⟨b, o, none⟩ : Addr).add i = ⟨b, o + i, none⟩ := by
  unfold Addr.add
  split <;> simp_all

/-- An int's bounds. -/
theorem wf_i64 {a : Int} (h : (Lit.int .i64 a).wf = true) : -9223372036854775808 ≤ a ∧ a ≤ 9223372036854775807 := by
  have h1 : IntKind.i64.min = -9223372036854775808 := rfl
  have h2 : IntKind.i64.max = 9223372036854775807 := rfl
  simp only [Lit.wf, Bool.and_eq_true, decide_eq_true_eq] at h
  omega

theorem openInts1 {t e : TypeId} (ht : P.underlying t = some (.slice e)) (he : P.underlying e = some (.int .i64)) (hc : P.cellsOf e = 1) {v : Value} {fuel : Nat} {y : DataW H × List MemPlace} (hf : DataW.trod enc P w base spare held fuel t [v] = some y) :
    ∃ xs : List Int, IntsAt w w.heap.size v xs ∧ xs.length ≤ 9223372036854775807 ∧ ∀ x ∈ xs, -9223372036854775808 ≤ x ∧ x ≤ 9223372036854775807 := by
  rcases open_ints ht he hc hf with ⟨hcs, _⟩ | ⟨a, len, cap, zs, hcs, _, hl, hm, hz, _, hcell, hwz⟩
  · obtain rfl : v = .slice none 0 0 := by simpa using hcs
    exact ⟨[], ReadsV.nil_ _ _, by simp, by simp⟩
  · obtain rfl : v = .slice (some a) len cap := by simpa using hcs
    unfold maxLen at hm
    have hzl : len ≤ zs.length := by rw [hz]; split <;> omega
    have hlen : (zs.take len).length = len := by rw [List.length_take]; omega
    refine ⟨zs.take len, ⟨some a, cap, by rw [ints_length, hlen], by rw [ints_length, hlen]; exact hl, fun hn => ?_⟩, by omega, fun x hx => wf_i64 (hwz x (List.mem_of_mem_take hx))⟩
    rw [ints_length, hlen] at hn
    have h0 := hcell 0 (by omega)
    obtain ⟨b, o, sp⟩ := a
    have hsp : sp = none := by simpa [Addr.add] using World.cell?_spot h0
    subst hsp
    have hb := World.block_lt_of_cell? _ _ h0
    rw [add_none] at hb
    refine ⟨b, o, rfl, hb, fun i u hu => ?_⟩
    rw [ints, List.getElem?_map, List.getElem?_take] at hu
    split at hu
    · rename_i hi
      have := hcell i (by omega)
      rw [add_none] at this
      rw [this]
      rw [List.getElem?_eq_getElem (by omega)] at hu
      simp at hu
      rw [← hu, List.getD, List.getElem?_eq_getElem (by omega)]
      rfl
    · cases hu
theorem openInts {t e : TypeId} (ht : P.underlying t = some (.slice e)) (he : P.underlying e = some (.int .i64)) (hc : P.cellsOf e = 1) {v : Value} {d : DataW H} {ps : List MemPlace} (h : DataW.Trod enc P w base spare held t v d ps) (hv : ∃ a l c, v = .slice a l c) :
    ∃ xs : List Int, IntsAt w w.heap.size v xs ∧ xs.length ≤ 9223372036854775807 ∧ ∀ x ∈ xs, -9223372036854775808 ≤ x ∧ x ≤ 9223372036854775807 := by
  obtain ⟨fuel, hf⟩ := h
  obtain ⟨a0, l0, c0, rfl⟩ := hv
  exact openInts1 ht he hc (show DataW.trod enc P w base spare held fuel t [.slice a0 l0 c0] = some _ by simpa [Value.cells] using hf)
/-- A struct of an int and a slice of ints. -/
theorem openComplex {t e : TypeId} {f0 f1 : Field} (hs : P.underlying t = some (.struct #[f0, f1])) (hone : oneCellFields P #[f0, f1] = true) (hC : P.cellsOf t = 2) (h0 : P.underlying f0.type = some (.int .i64)) (h1 : P.underlying f1.type = some (.slice e)) (he : P.underlying e = some (.int .i64)) (hc : P.cellsOf e = 1)
    {r : Reach} {b0 : Nat} {v : Value} {d : DataW H} {ps : List MemPlace} (hv : Value.okWide P w r b0 t v) (h : DataW.Trod enc P w base spare held t v d ps) :
    ∃ (n : Int) (u : Value) (xs : List Int), v = .agg #[.int .i64 n, u] ∧ IntsAt w w.heap.size u xs ∧ xs.length ≤ 9223372036854775807 ∧ (-9223372036854775808 ≤ n ∧ n ≤ 9223372036854775807) ∧ ∀ x ∈ xs, -9223372036854775808 ≤ x ∧ x ≤ 9223372036854775807 := by
  obtain ⟨v0, v1, y0, y1, n, rfl, _, _, t0, t1⟩ := Go.Joins.open_agg2 hs hone hC hv h
  obtain ⟨m, hm, _, hw⟩ := DataW.trod_int h0 t0
  obtain rfl : v0 = .int .i64 m := by simpa using hm
  obtain ⟨xs, hx, hl, hb⟩ := openInts1 h1 he hc t1
  exact ⟨m, v1, xs, rfl, hx, hl, wf_i64 hw, hb⟩
end

/-- Each of these types can be read. -/
def AllR (P : Program) : List TypeId → Prop
  | [] => True
  | t :: ts => (P.readableRec t = true ∧ t < P.types.size) ∧ AllR P ts
/-- ARGS of a row: whatever came in reads as it did. -/
theorem back_all {H : Type} {enc : TypeId × Value → H} {P : Program} (hl : laidOutB P = true) : ∀ (ts : List TypeId) (vs : List Value) (ds : List (DataW H)) (ps : List MemPlace) {W W' : World}, AllR P ts →
    DataW.TrodAll enc P W 0 (fun _ => true) true ts vs ds ps → Below W.heap.size W W' → DataW.TrodAll enc P W' 0 (fun b => decide (b < W.heap.size)) true ts vs ds ps := by
  intro ts
  induction ts with
  | nil =>
    intro vs ds ps W W' _ h _
    obtain ⟨rfl, rfl, rfl⟩ := trodAll_nil h
    exact trodAll_mk0
  | cons t ts ih =>
    intro vs ds ps W W' ht h hb
    obtain ⟨v0, vs0, d0, ds0, p0, q0, rfl, rfl, rfl, h0, r0⟩ := trodAll_cons h
    have hk := h0
    obtain ⟨m, hm⟩ := hk
    have lt0 : ∀ x ∈ p0, x.block < W.heap.size := DataW.trod_lt m _ _ _ hm
    exact trodAll_cons_mk (Below.trod hl ht.1.1 ht.1.2 h0 hb lt0) (ih _ _ _ ht.2 r0 hb)

/-- A byte that fits its kind is one. -/
theorem byte_of {y : Int} (h : (Lit.int .u8 y).wf = true) : ∃ a : UInt8, y = (a.toNat : Int) := by
  have h1 : IntKind.u8.min = 0 := rfl
  have h2 : IntKind.u8.max = 255 := rfl
  simp only [Lit.wf, Bool.and_eq_true, decide_eq_true_eq] at h
  refine ⟨UInt8.ofNat y.toNat, ?_⟩
  rw [UInt8.toNat_ofNat_of_lt' (by show y.toNat < 256; omega)]
  omega
theorem str_of (s : ByteArray) (h : s.size ≤ maxLen) : ∃ l : List UInt8, s = ⟨l.toArray⟩ ∧ l.length ≤ 9223372036854775807 := by
  unfold maxLen at h
  exact ⟨s.data.toList, by simp, by simpa using h⟩
end Go.Proofs.YtmkacjpjcfffmaaDoor
