/- Texts of one kind, laid together (7 of them). -/
import Derived.Deep.Strs
import Derived.Test.YtmkacjpjcfffmaaP2
import Derived.Test.YtmkacjpjcfffmaaP5
import Derived.Test.YtmkacjpjcfffmaaP6
import Derived.Test.YtmkacjpjcfffmaaP7
import Derived.Test.YtmkacjpjcfffmaaP8
import Derived.Test.YtmkacjpjcfffmaaP12
import Derived.Test.YtmkacjpjcfffmaaP13
namespace Go.Proofs.Ytmkacjpjcfffmaa
/- The rows' frame: a slice of strings, a slice of bytes that came in. -/
section
open Go.ChangeShapes Go.WideShapes Go.ChangeAt Go.RowKit
open Go.Deep

section
variable {H : Type} {enc : TypeId × Value → H} {P : Program} {w : World} {base : Nat} {spare : Nat → Bool} {held : Bool}

theorem openStrs1 {t e : TypeId} (ht : P.underlying t = some (.slice e)) (he : P.underlying e = some .string) (hc : P.cellsOf e = 1) {v : Value} {fuel : Nat} {y : DataW H × List MemPlace} (hf : DataW.trod enc P w base spare held fuel t [v] = some y) :
    ∃ ls : List (List UInt8), StrsAt w w.heap.size v ls ∧ ls.length ≤ 9223372036854775807 ∧ ∀ l ∈ ls, l.length ≤ 9223372036854775807 := by
  rcases open_strs ht he hc hf with ⟨hcs, _⟩ | ⟨a, len, cap, m, Sx, hcs, _, hl, hm, hmm, _, hcell⟩
  · obtain rfl : v = .slice none 0 0 := by simpa using hcs
    exact ⟨[], ReadsV.nil_ _ _, by simp, by simp⟩
  · obtain rfl : v = .slice (some a) len cap := by simpa using hcs
    have hm' := hm
    unfold maxLen at hm'
    have hlm : len ≤ m := by rw [hmm]; split <;> omega
    have hL : ((List.range len).map fun i => (Sx i).data.toList).length = len := by simp
    refine ⟨(List.range len).map fun i => (Sx i).data.toList, ⟨some a, cap, by rw [strsV_length, hL], by rw [strsV_length, hL]; exact hl, fun hn => ?_⟩, by omega, fun l hl' => ?_⟩
    · rw [strsV_length, hL] at hn
      have h0 := (hcell 0 (by omega)).1
      obtain ⟨b, o, sp⟩ := a
      have hsp : sp = none := by simpa [Addr.add] using World.cell?_spot h0
      subst hsp
      have hb := World.block_lt_of_cell? _ _ h0
      rw [add_none] at hb
      refine ⟨b, o, rfl, hb, fun i u hu => ?_⟩
      by_cases hi : i < len
      · have := (hcell i (by omega)).1
        rw [add_none] at this
        rw [this]
        have e : (strsV ((List.range len).map fun i => (Sx i).data.toList))[i]? = some (.string (Sx i)) := by simp [strsV, hi]
        rw [e] at hu
        exact hu
      · rw [List.getElem?_eq_none (by rw [strsV_length, hL]; omega)] at hu
        cases hu
    · obtain ⟨i, hi, rfl⟩ := List.mem_map.1 hl'
      have := (hcell i (by have := List.mem_range.1 hi; omega)).2
      unfold maxLen at this
      simpa using this
theorem openStrs {t e : TypeId} (ht : P.underlying t = some (.slice e)) (he : P.underlying e = some .string) (hc : P.cellsOf e = 1) {v : Value} {d : DataW H} {ps : List MemPlace} (h : DataW.Trod enc P w base spare held t v d ps) (hv : ∃ a l c, v = .slice a l c) :
    ∃ ls : List (List UInt8), StrsAt w w.heap.size v ls ∧ ls.length ≤ 9223372036854775807 ∧ ∀ l ∈ ls, l.length ≤ 9223372036854775807 := by
  obtain ⟨fuel, hf⟩ := h
  obtain ⟨a0, l0, c0, rfl⟩ := hv
  exact openStrs1 ht he hc (show DataW.trod enc P w base spare held fuel t [.slice a0 l0 c0] = some _ by simpa [Value.cells] using hf)
end
end

/- The rows' frame: a slice of bytes that came in. -/
section
open Go.ChangeShapes Go.WideShapes Go.ChangeAt Go.RowKit
open Go.Deep

section
variable {H : Type} {enc : TypeId × Value → H} {P : Program} {w : World} {base : Nat} {spare : Nat → Bool} {held : Bool}

theorem openBytes1 {t e : TypeId} (ht : P.underlying t = some (.slice e)) (he : P.underlying e = some (.int .u8)) (hc : P.cellsOf e = 1) {v : Value} {fuel : Nat} {y : DataW H × List MemPlace} (hf : DataW.trod enc P w base spare held fuel t [v] = some y) :
    ∃ ls : List UInt8, BytesAt w w.heap.size v ls ∧ ls.length ≤ 9223372036854775807 := by
  rcases open_ints ht he hc hf with ⟨hcs, _⟩ | ⟨a, len, cap, zs, hcs, _, hl, hm, hz, _, hcell, hwz⟩
  · obtain rfl : v = .slice none 0 0 := by simpa using hcs
    exact ⟨[], ReadsV.nil_ _ _, by simp⟩
  · obtain rfl : v = .slice (some a) len cap := by simpa using hcs
    unfold maxLen at hm
    have hzl : len ≤ zs.length := by rw [hz]; split <;> omega
    have hL : ((zs.take len).map fun z => UInt8.ofNat z.toNat).length = len := by rw [List.length_map, List.length_take]; omega
    have hbl : (bytesV ((zs.take len).map fun z => UInt8.ofNat z.toNat)).length = len := by rw [List.length_map]; exact hL
    refine ⟨(zs.take len).map fun z => UInt8.ofNat z.toNat, ⟨some a, cap, by rw [hbl], by rw [hbl]; exact hl, fun hn => ?_⟩, by rw [hL]; omega⟩
    rw [hbl] at hn
    have h0 := hcell 0 (by omega)
    obtain ⟨b, o, sp⟩ := a
    have hsp : sp = none := by simpa [Addr.add] using World.cell?_spot h0
    subst hsp
    have hb := World.block_lt_of_cell? _ _ h0
    rw [add_none] at hb
    refine ⟨b, o, rfl, hb, fun i u hu => ?_⟩
    rw [bytesV, List.getElem?_map, List.getElem?_map, List.getElem?_take] at hu
    split at hu
    · rename_i hi
      have := hcell i (by omega)
      rw [add_none] at this
      rw [this]
      have hzi : zs[i]? = some (zs[i]'(by omega)) := List.getElem?_eq_getElem (by omega)
      rw [hzi] at hu
      simp only [Option.map_some] at hu
      obtain ⟨y, hy⟩ := byte_of (hwz _ (List.getElem_mem (show i < zs.length by omega)))
      rw [List.getD, hzi]
      simp only [Option.getD_some]
      rw [hy] at hu ⊢
      have e : UInt8.ofNat ((y.toNat : Int)).toNat = y := by rw [Int.toNat_natCast]; simp
      rw [e] at hu
      exact hu
    · cases hu
theorem openBytes {t e : TypeId} (ht : P.underlying t = some (.slice e)) (he : P.underlying e = some (.int .u8)) (hc : P.cellsOf e = 1) {v : Value} {d : DataW H} {ps : List MemPlace} (h : DataW.Trod enc P w base spare held t v d ps) (hv : ∃ a l c, v = .slice a l c) :
    ∃ ls : List UInt8, BytesAt w w.heap.size v ls ∧ ls.length ≤ 9223372036854775807 := by
  obtain ⟨fuel, hf⟩ := h
  obtain ⟨a0, l0, c0, rfl⟩ := hv
  exact openBytes1 ht he hc (show DataW.trod enc P w base spare held fuel t [.slice a0 l0 c0] = some _ by simpa [Value.cells] using hf)
end
end

/- Walks: the draws of complexes: DrawInducedOf, l5Two, DrawMeetOf; sameComplex of the laws. -/
section
open Go.RowKit

theorem sameComplex_same (n : Int) (v1 v2 : Value) (xs : List Int) (w : World) (h1 : IntsAt w w.heap.size v1 xs) (h2 : IntsAt w w.heap.size v2 xs) (hl : xs.length ≤ 1073741824) :
    Calls Try.prog 77 #[.agg #[.int .i64 n, v1], .agg #[.int .i64 n, v2]] w fun e w' => RetB w true e w' := by
  obtain ⟨A1, c1, rfl⟩ := reads_shape h1
  obtain ⟨A2, c2, rfl⟩ := reads_shape h2
  obtain ⟨w1, hW1, at1, b1, z1⟩ := boxC w (.int .i64 n) (.slice A1 xs.length c1) 42
  obtain ⟨w2, hW2, at2, b2, z2⟩ := boxC w1 (.int .i64 n) (.slice A2 xs.length c2) 42
  have b02 := nxt b1 b2
  have R1 := hide (now_ h1 b02)
  have R2 := hide (now_ h2 b02)
  have B2 := hide b02
  obtain ⟨e1_0, e1_1⟩ := at1.to b2
  obtain ⟨e2_0, e2_1⟩ := at2
  clear h1 h2 at1 b1 b2 b02 z1 z2
  have hne : (n == n) = true := by simp
  go_enter Try.func77, Try.ntmps77
  go_wp2_with fail
  clear hW1 hW2
  refine (sameInts_same _ _ xs w2 R1.out R2.out hl).mono ?_
  rintro e w3 ⟨rfl, b3⟩
  have B3 := hide (nxt B2.out b3)
  go_wp2
  go_ret
  exact ⟨rfl, B3.out⟩

theorem bitS (b : Bool) (w : World) : Calls Try.prog 121 #[.bool b] w fun e w' => ∃ z : Nat, z ≤ 1 ∧ e = .returned (.int .i64 (z : Int)) ∧ w = w' := by
  cases b
  · go_enter Try.func121, Try.ntmps121
    go_wp2
    go_ret
    exact ⟨0, by omega, rfl, rfl⟩
  · go_enter Try.func121, Try.ntmps121
    go_wp2
    go_ret
    exact ⟨1, by omega, rfl, rfl⟩
theorem clampMin (n : Int) (w : World) (h : -100 ≤ n) (h2 : n ≤ 100) : Calls Try.prog 136 #[.int .i64 6, .int .i64 n] w fun e w' => ∃ m : Int, -100 ≤ m ∧ m ≤ 6 ∧ e = .returned (.int .i64 m) ∧ w = w' := by
  refine (l1MinS 6 n w (by omega) (by omega)).mono ?_
  rintro e w' ⟨h1, h2⟩
  refine ⟨_, ?_, ?_, h1, h2⟩ <;> split <;> omega
theorem clampMax (lo m : Int) (w : World) (h0 : 0 ≤ lo) (h1 : lo ≤ 6) (hm : m ≤ 6) : Calls Try.prog 135 #[.int .i64 lo, .int .i64 m] w fun e w' => ∃ k : Nat, lo ≤ (k : Int) ∧ k ≤ 6 ∧ e = .returned (.int .i64 (k : Int)) ∧ w = w' := by
  refine (l1MaxS lo m w (by omega) (by omega)).mono ?_
  rintro e w' ⟨h3, h4⟩
  refine ⟨(if lo > m then lo else m).toNat, ?_, ?_, ?_, h4⟩
  · split <;> omega
  · split <;> omega
  · rw [h3, Int.toNat_of_nonneg (by split <;> omega)]
theorem shl1 {k : Nat} (h : k ≤ 6) : ∃ K : Nat, K ≤ 65 ∧ 1 ≤ K ∧ IntKind.i64.wrap (IntKind.i64.wrap (2 ^ min (IntKind.u64.wrap (k : Int)).toNat 64) + 1) = (K : Int) := by
  refine ⟨2 ^ k + 1, ?_⟩
  have : k = 0 ∨ k = 1 ∨ k = 2 ∨ k = 3 ∨ k = 4 ∨ k = 5 ∨ k = 6 := by omega
  rcases this with rfl | rfl | rfl | rfl | rfl | rfl | rfl <;> decide +kernel

set_option maxHeartbeats 1600000 in
theorem drawInducedOfS (v : Value) (L : List UInt8) (w : World) (h : BytesAt w w.heap.size v L) (hL : L.length ≤ 1073741824) :
    Calls Try.prog 69 #[v] w fun e w' => RetDXI w e w' := by
  obtain ⟨w1, hW1, _, rs1, b1, z1⟩ := boxRes w 42
  have H1 := hide (nowB9 h b1)
  have Rs1 := hide rs1
  have B1 := hide b1
  have Hz1 := hide z1
  clear h rs1 b1 z1
  go_enter Try.func69, Try.ntmps69
  go_wp2_with fail
  clear hW1
  refine (l1NewS v L w1 H1.out hL).mono ?_
  rintro e w2 ⟨p, rfl, hp, c2, b2⟩
  have D2 := hide (Dq.start Rs1.out B1.out (Nat.le_refl _) hp c2 b2)
  have hz2 : w.heap.size + 1 ≤ w2.heap.size := by have := Hz1.out; have := b2.size; omega
  clear c2 b2
  go_wp2_with fail
  refine (l3BentS p v L w2 D2.out.cur hL).mono ?_
  rintro e w3 ⟨n, u, xs, hf, rfl, o3, c3, g3⟩
  have D3 := hide (D2.out.draw c3 g3)
  have O3 := hide (own_mono o3 hz2)
  have Hf := hide hf
  obtain ⟨A, c, rfl⟩ := own_shape o3
  have hne : Hid (∀ j, Value.ownBlock (.slice A xs.length c) = some j → (some p : Option Nat) ≠ some j) := fun j hj e => by
    have h1 := (own_block o3 j hj).1
    have h2 := Option.some.inj e
    have h3 := D2.out.cur.lt
    omega
  have hn1 : -100 ≤ n := hf.1
  have hn2 : n ≤ 100 := hf.2.1
  clear hf o3 c3 g3 D2
  obtain ⟨w4, hW4⟩ : ∃ X, w3.alloc (.cells #[.int .i64 n, .slice A xs.length c] 42) = X := ⟨_, rfl⟩
  have hb4 := below_alloc w3 (.cells #[.int .i64 n, .slice A xs.length c] 42)
  have B4 := hide (Bx.new (B := w.heap.size + 1) w3 (.int .i64 n) (.slice A xs.length c) 42 (by have := D3.out.res.lt; omega))
  rw [hW4] at hb4 B4
  have D4 := hide (D3.out.next hb4)
  have O4 := hide (own_below O3.out hb4)
  have hpb : p < w3.heap.size := D3.out.cur.lt
  clear hb4 O3 D3
  have D4d : Hid (Dq w w.heap.size p v L w4.drew) := D4.out.next (Below.refl _ _).drew
  have O4d : Hid (OwnV 3 w4.drew (w.heap.size + 1) (.slice A xs.length c) (ints xs)) := own_below O4.out (Below.refl _ _).drew
  have B4d : Hid (Bx (w.heap.size + 1) w3.heap.size (.int .i64 n) (.slice A xs.length c) w4.drew) := B4.out.next (Below.refl _ _).drew
  obtain ⟨a40, a41⟩ := B4d.out.at_
  have C4d := D4d.out.cur
  go_wp2_with fail
  go_region_law (first | (go_simp; go_at_call 136; refine (clampMin n _ hn1 hn2).mono ?_; rintro e wq ⟨m, hm0, hm6, rfl, rfl⟩) | (go_simp; go_at_call 135; refine (clampMax 0 m _ (by omega) (by omega) hm6).mono ?_; rintro e wq ⟨k, _, hk6, rfl, rfl⟩; obtain ⟨K, hK65, hK1, hw⟩ := shl1 hk6) | (go_simp; go_at_call 115; (try rw [hw]); refine (l1BelowS p v L _ _ C4d hL (by omega)).mono ?_; rintro e w5 ⟨q, hq, _, rfl, c5, g5⟩; have hqK := hq (by omega); have D5 := hide (D4d.out.draw c5 g5); have B5 := hide (B4d.out.draw g5 hpb); have O5 := hide (own_grown O4d.out g5 hne.out); obtain ⟨a50, a51⟩ := B5.out.at_; have C5 := D5.out.cur) | (go_simp; go_at_call 137; refine (l1OnceS p v L _ _ C5 hL (by omega)).mono ?_; rintro e w6 ⟨b, rfl, c6, g6⟩; have D6 := hide (D5.out.draw c6 g6); have B6 := hide (B5.out.draw g6 hpb); have O6 := hide (own_grown O5.out g6 hne.out); obtain ⟨a60, a61⟩ := B6.out.at_) | (go_simp; go_at_call 121; refine (bitS b _).mono ?_; rintro e wq ⟨z, hz, rfl, rfl⟩; have hqw : IntKind.i64.wrap ((q : Int) - (z : Int)) = (q : Int) - (z : Int) := IntWalk.i64_in _ (by omega); obtain ⟨⟨q0, q1, hq0, hq1⟩, f0, f1⟩ := D6.out.res; have hr := D6.out.res.lt))
  all_goals (
    go_wp2
    refine bodyPost_ret (v := .tuple #[.agg #[.int .i64 n, .slice A xs.length c], .int .i64 ((q : Int) - (z : Int))]) (by simp [results, Try.results69, go_sem, hq0, hq1]) rfl ?_
    obtain ⟨h1, h2⟩ := D6.out.own O6.out (.int .i64 n) (.slice A xs.length c)
    exact ⟨n, _, xs, _, Hf.out, by omega, by omega, rfl, h1, h2⟩)

/-- A draw under way with two results' blocks, r and r2. -/
structure Dw (w : World) (r r2 p : Nat) (v : Value) (L : List UInt8) (a : World) : Prop where
  q : Dq w r p v L a
  res2 : Res r2 a
  rp2 : r2 < p
theorem Dw.draw {w a b : World} {r r2 p : Nat} {v : Value} {L : List UInt8} (h : Dw w r r2 p v L a) (c : CurAt b p v L) (g : a.grownBy b (some p)) : Dw w r r2 p v L b :=
  ⟨h.q.draw c g, h.res2.grown64 g (fun e => by have := Option.some.inj e; have := h.rp2; omega), h.rp2⟩
theorem Dw.next {w a b : World} {r r2 p : Nat} {v : Value} {L : List UInt8} (h : Dw w r r2 p v L a) (k : Below a.heap.size a b) : Dw w r r2 p v L b := ⟨h.q.next k, h.res2.to k, h.rp2⟩
/-- The call returns two complexes of its own. -/
def RetDXX (w : World) (e : Ending) (w' : World) : Prop :=
  ∃ (n : Int) (u : Value) (xs : List Int) (m : Int) (z : Value) (ys : List Int), Few 1000 n xs ∧ Few 1000 m ys ∧ e = .returned (.tuple #[.agg #[.int .i64 n, u], .agg #[.int .i64 m, z]]) ∧ OwnV 3 w' w.heap.size u (ints xs) ∧ OwnV 3 w' w.heap.size z (ints ys) ∧ Below w.heap.size w w'
theorem own_set4 {a : World} {r r2 : Nat} {u : Value} {xs : List Int} (h : OwnV 3 a (r2 + 1) u (ints xs)) (hr : r < r2) (x0 x1 y0 y1 : Value) :
    OwnV 3 ((((a.setCell ⟨r, 0, none⟩ x0).setCell ⟨r, 1, none⟩ x1).setCell ⟨r2, 0, none⟩ y0).setCell ⟨r2, 1, none⟩ y1) r u (ints xs) :=
  own_mono (own_setBelow (own_setBelow (own_setBelow (own_setBelow h (by omega) _ _) (by omega) _ _) (by omega) _ _) (by omega) _ _) (by omega)
theorem below_set4 {w a : World} {r r2 : Nat} (h : Below r w a) (hr : r < r2) (x0 x1 y0 y1 : Value) :
    Below r w ((((a.setCell ⟨r, 0, none⟩ x0).setCell ⟨r, 1, none⟩ x1).setCell ⟨r2, 0, none⟩ y0).setCell ⟨r2, 1, none⟩ y1) := below_store (below_store h (Nat.le_refl _) _ _) (by omega) _ _
theorem few_9 {n : Int} {xs : List Int} (h : Few 900 n xs) : Few 1000 n xs := few_more h

set_option maxHeartbeats 3200000 in
theorem l5TwoS (v : Value) (L : List UInt8) (w : World) (h : BytesAt w w.heap.size v L) (hL : L.length ≤ 1073741824) :
    Calls Try.prog 140 #[v] w fun e w' => RetDXX w e w' := by
  obtain ⟨w1, hW1, _, rs1, b1, z1⟩ := boxRes w 42
  obtain ⟨w2, hW2, _, rs2, b2, z2⟩ := boxRes w1 42
  have H1 := hide (nowB9 h (nxt b1 b2))
  have Rs1 := hide (rs1.to b2)
  have Rs2 := hide rs2
  have B1 := hide (nxt b1 b2)
  have Hz1 := hide z1
  have Hz2 := hide z2
  have h12 : w.heap.size < w1.heap.size := by omega
  have hneA : w.heap.size ≠ w1.heap.size := by omega
  have hneB : w1.heap.size ≠ w.heap.size := by omega
  clear h rs1 rs2 b1 z1 b2 z2
  go_enter Try.func140, Try.ntmps140
  go_wp2_with fail
  clear hW1 hW2
  refine (l1NewS v L w2 H1.out hL).mono ?_
  rintro e w3 ⟨p, rfl, hp, c3, b3⟩
  have D3 : Hid (Dw w w.heap.size w1.heap.size p v L w3) := ⟨Dq.start Rs1.out B1.out (Nat.le_refl _) hp c3 b3, Rs2.out.to b3, by have := Hz2.out; omega⟩
  have hz3 : w1.heap.size + 1 ≤ w3.heap.size := by have := Hz2.out; have := b3.size; omega
  clear c3 b3
  go_wp2_with fail
  refine (l3BentS p v L w3 D3.out.q.cur hL).mono ?_
  rintro e w4 ⟨n, u, xs, hf, rfl, o4, c4, g4⟩
  have D4 := hide (D3.out.draw c4 g4)
  have O4 := hide (own_mono o4 hz3)
  have Hf := hide hf
  obtain ⟨A, c, rfl⟩ := own_shape o4
  have hne : Hid (∀ j, Value.ownBlock (.slice A xs.length c) = some j → (some p : Option Nat) ≠ some j) := fun j hj e => by
    have h1 := (own_block o4 j hj).1
    have h2 := Option.some.inj e
    have h3 := D3.out.q.cur.lt
    omega
  have hn1 : -100 ≤ n := hf.1
  have hn2 : n ≤ 100 := hf.2.1
  have hz4 : w1.heap.size + 1 ≤ w4.heap.size := Nat.le_trans hz3 g4.size
  clear hf o4 c4 g4 D3
  obtain ⟨w5, hW5⟩ : ∃ X, w4.alloc (.cells #[.int .i64 n, .slice A xs.length c] 42) = X := ⟨_, rfl⟩
  have hb5 := below_alloc w4 (.cells #[.int .i64 n, .slice A xs.length c] 42)
  have B5 := hide (Bx.new (B := w.heap.size + 1) w4 (.int .i64 n) (.slice A xs.length c) 42 (by have := D4.out.q.res.lt; omega))
  rw [hW5] at hb5 B5
  have D5 := hide (D4.out.next hb5)
  have O5 := hide (own_below O4.out hb5)
  have hpb : p < w4.heap.size := D4.out.q.cur.lt
  have hz5 : w1.heap.size + 1 ≤ w5.heap.size := Nat.le_trans hz4 hb5.size
  clear hb5 O4 D4
  go_wp2_with fail
  clear hW5
  refine (l1OnceS p v L _ w5 D5.out.q.cur hL (by omega)).mono ?_
  rintro e w6 ⟨b, rfl, c6, g6⟩
  have D6 := hide (D5.out.draw c6 g6)
  have B6 := hide (B5.out.draw g6 hpb)
  have O6 := hide (own_grown O5.out g6 hne.out)
  have hz6 : w1.heap.size + 1 ≤ w6.heap.size := Nat.le_trans hz5 g6.size
  clear c6 g6 D5 B5 O5
  have D6d : Hid (Dw w w.heap.size w1.heap.size p v L w6.drew) := D6.out.next (Below.refl _ _).drew
  have O6d : Hid (OwnV 3 w6.drew (w1.heap.size + 1) (.slice A xs.length c) (ints xs)) := own_below O6.out (Below.refl _ _).drew
  have B6d : Hid (Bx (w.heap.size + 1) w4.heap.size (.int .i64 n) (.slice A xs.length c) w6.drew) := B6.out.next (Below.refl _ _).drew
  have hz6d : w1.heap.size + 1 ≤ w6.drew.heap.size := hz6
  obtain ⟨a60, a61⟩ := B6d.out.at_
  have C6d := D6d.out.q.cur
  clear D6 B6 O6
  cases b
  · go_wp2_with fail
    go_region_law (first | (go_simp; go_at_call 136; refine (clampMin n _ hn1 hn2).mono ?_; rintro e wq ⟨m, hm0, hm6, rfl, rfl⟩) | (go_simp; go_at_call 135; refine (clampMax 1 m _ (by omega) (by omega) hm6).mono ?_; rintro e wq ⟨k, hk1, hk6, rfl, rfl⟩) | (go_simp; go_at_call 162; refine (l3SizeS p v L k _ (by omega) hk6 C6d hL).mono ?_; rintro e w7 ⟨n7, u7, ys, hf7, rfl, o7, c7, g7⟩; obtain ⟨A7, k7, rfl⟩ := own_shape o7; have D7 := hide (D6d.out.draw c7 g7); have B7 := hide (B6d.out.draw g7 hpb); have O7 := hide (own_grown O6d.out g7 hne.out); have Y7 := hide (own_mono o7 hz6d); have Hf7 := hide (few_9 hf7); obtain ⟨a70, a71⟩ := B7.out.at_; obtain ⟨⟨q0, q1, hq0, hq1⟩, f0, f1⟩ := D7.out.q.res; obtain ⟨⟨r0, r1, hr0, hr1⟩, k0, k1⟩ := D7.out.res2; have hr := D7.out.q.res.lt; have hr2 := D7.out.res2.lt))
    all_goals (
      go_wp2
      refine bodyPost_ret (v := .tuple #[.agg #[.int .i64 n, .slice A xs.length c], .agg #[.int .i64 n7, .slice A7 ys.length k7]]) (by simp [results, Try.results140, go_sem, hq0, hq1, hr0, hr1]) rfl ?_
      exact ⟨n, _, xs, n7, _, ys, Hf.out, Hf7.out, rfl, own_set4 O7.out h12 _ _ _ _, own_set4 Y7.out h12 _ _ _ _, below_set4 D7.out.q.bel h12 _ _ _ _⟩)
  · go_wp2_with fail
    go_region_law ((go_simp; go_at_call 112; refine (l3BentS p v L _ C6d hL).mono ?_; rintro e w7 ⟨n7, u7, ys, hf7, rfl, o7, c7, g7⟩; obtain ⟨A7, k7, rfl⟩ := own_shape o7; have D7 := hide (D6d.out.draw c7 g7); have B7 := hide (B6d.out.draw g7 hpb); have O7 := hide (own_grown O6d.out g7 hne.out); have Y7 := hide (own_mono o7 hz6d); have Hf7 := hide hf7; obtain ⟨a70, a71⟩ := B7.out.at_; obtain ⟨⟨q0, q1, hq0, hq1⟩, f0, f1⟩ := D7.out.q.res; obtain ⟨⟨r0, r1, hr0, hr1⟩, k0, k1⟩ := D7.out.res2; have hr := D7.out.q.res.lt; have hr2 := D7.out.res2.lt))
    all_goals (
      go_wp2
      refine bodyPost_ret (v := .tuple #[.agg #[.int .i64 n, .slice A xs.length c], .agg #[.int .i64 n7, .slice A7 ys.length k7]]) (by simp [results, Try.results140, go_sem, hq0, hq1, hr0, hr1]) rfl ?_
      exact ⟨n, _, xs, n7, _, ys, Hf.out, Hf7.out, rfl, own_set4 O7.out h12 _ _ _ _, own_set4 Y7.out h12 _ _ _ _, below_set4 D7.out.q.bel h12 _ _ _ _⟩)
end

section
open Go.RowKit
/-- Two boxes, made one behind the other. -/
theorem boxTwo (w : World) (x y x' y' : Value) (T : TypeId) : ∃ W, (w.alloc (.cells #[x, y] T)).alloc (.cells #[x', y'] T) = W ∧ AtC W w.heap.size x y ∧ AtC W (w.heap.size + 1) x' y' ∧ Below w.heap.size w W ∧ W.heap.size = w.heap.size + 2 := by
  obtain ⟨w1, rfl, at1, b1, z1⟩ := boxC w x y T
  obtain ⟨w2, rfl, at2, b2, z2⟩ := boxC (w.alloc (.cells #[x, y] T)) x' y' T
  rw [z1] at at2
  exact ⟨_, rfl, at1.to b2, at2, nxt b1 b2, by omega⟩

set_option maxHeartbeats 1600000 in
theorem drawMeetOfS (v : Value) (L : List UInt8) (w : World) (h : BytesAt w w.heap.size v L) (hL : L.length ≤ 1073741824) :
    Calls Try.prog 72 #[v] w fun e w' => RetDXX w e w' := by
  obtain ⟨w1, hW1, _, rs1, b1, z1⟩ := boxRes w 42
  obtain ⟨w2, hW2, _, rs2, b2, z2⟩ := boxRes w1 42
  have H1 := hide (nowB9 h (nxt b1 b2))
  have Rs1 := hide (rs1.to b2)
  have Rs2 := hide rs2
  have B1 := hide (nxt b1 b2)
  have Hz1 := hide z1
  have Hz2 := hide z2
  have h12 : w.heap.size < w1.heap.size := by omega
  have hneA : w.heap.size ≠ w1.heap.size := by omega
  have hneB : w1.heap.size ≠ w.heap.size := by omega
  clear h rs1 rs2 b1 z1 b2 z2
  go_enter Try.func72, Try.ntmps72
  go_wp2_with fail
  clear hW1 hW2
  refine (l5TwoS v L w2 H1.out hL).mono ?_
  rintro e w3 ⟨n, u, xs, m, z, ys, hf, hg, rfl, o3, y3, b3⟩
  obtain ⟨A, c, rfl⟩ := own_shape o3
  obtain ⟨A', c', rfl⟩ := own_shape y3
  have Hf := hide hf
  have Hg := hide hg
  have Rs3 := hide (Rs1.out.to b3)
  have Rt3 := hide (Rs2.out.to b3)
  have B3 := hide (nxt B1.out b3)
  have O3 : Hid (OwnV 3 w3 (w1.heap.size + 1) (.slice A xs.length c) (ints xs)) := own_mono o3 (by have := Hz2.out; omega)
  have Y3 : Hid (OwnV 3 w3 (w1.heap.size + 1) (.slice A' ys.length c') (ints ys)) := own_mono y3 (by have := Hz2.out; omega)
  clear hf hg o3 y3 b3
  obtain ⟨w5, hW5, at4, at5, b45, z5⟩ := boxTwo w3 (.int .i64 n) (.slice A xs.length c) (.int .i64 m) (.slice A' ys.length c') 42
  have Rs5 := hide (Rs3.out.to b45)
  have Rt5 := hide (Rt3.out.to b45)
  have B5 := hide (nxt B3.out b45)
  have O5 := hide (own_below O3.out b45)
  have Y5 := hide (own_below Y3.out b45)
  obtain ⟨a0, a1⟩ := at4
  obtain ⟨c0, c1⟩ := at5
  obtain ⟨⟨q0, q1, hq0, hq1⟩, f0, f1⟩ := Rs5.out
  obtain ⟨⟨r0, r1, hr0, hr1⟩, k0, k1⟩ := Rt5.out
  have hr := Rs5.out.lt
  have hr2 := Rt5.out.lt
  clear b45 z5
  have hs3 := Rt3.out.lt
  have hneC : w3.heap.size + 1 ≠ w.heap.size := by omega
  have hneD : w3.heap.size ≠ w.heap.size := by omega
  have hneE : w3.heap.size + 1 ≠ w1.heap.size := by omega
  have hneF : w3.heap.size ≠ w1.heap.size := by omega
  go_wp2_with fail
  clear hW5
  go_region
  all_goals (
    go_wp2
    refine bodyPost_ret (v := .tuple #[.agg #[.int .i64 n, .slice A xs.length c], .agg #[.int .i64 m, .slice A' ys.length c']]) (by simp [results, Try.results72, go_sem, hq0, hq1, hr0, hr1]) rfl ?_
    exact ⟨n, _, xs, m, _, ys, Hf.out, Hg.out, rfl, own_set4 (own_below O5.out (Below.refl _ _).drew) h12 _ _ _ _, own_set4 (own_below Y5.out (Below.refl _ _).drew) h12 _ _ _ _, below_set4 B5.out.drew h12 _ _ _ _⟩)
end

/- Plain laws: a complex is the row of the greatest of its faces; rows of sets in order. No program is named here. -/
section
def key (s : Nat) : Nat := pc s * 64 + s
def Ord (l : List Nat) : Prop := l.Pairwise fun a b => key a < key b
theorem ord_ext : ∀ {l r : List Nat}, Ord l → Ord r → (∀ s, s ∈ l ↔ s ∈ r) → l = r
  | [], [], _, _, _ => rfl
  | [], b :: r, _, _, h => by have := (h b).2 (by simp); simp at this
  | a :: l, [], _, _, h => by have := (h a).1 (by simp); simp at this
  | a :: l, b :: r, h1, h2, h => by
    have h1' := List.pairwise_cons.1 h1
    have h2' := List.pairwise_cons.1 h2
    have hab : a = b := by
      rcases List.mem_cons.1 ((h a).1 (by simp)) with e | ha
      · exact e
      · rcases List.mem_cons.1 ((h b).2 (by simp)) with e | hb
        · exact e.symm
        · have := h2'.1 a ha
          have := h1'.1 b hb
          omega
    subst hab
    congr 1
    refine ord_ext h1'.2 h2'.2 fun s => ⟨fun hs => ?_, fun hs => ?_⟩
    · rcases List.mem_cons.1 ((h s).1 (by simp [hs])) with e | hs'
      · subst e
        have := h1'.1 s hs
        omega
      · exact hs'
    · rcases List.mem_cons.1 ((h s).2 (by simp [hs])) with e | hs'
      · subst e
        have := h2'.1 s hs
        omega
      · exact hs'
def ordB : List Nat → Bool
  | [] => true
  | a :: l => (l.all fun b => decide (key a < key b)) && ordB l
theorem ordB_ord : ∀ {l : List Nat}, ordB l = true → Ord l
  | [], _ => List.Pairwise.nil
  | a :: l, h => by
    unfold ordB at h
    rw [Bool.and_eq_true] at h
    exact List.pairwise_cons.2 ⟨fun b hb => of_decide_eq_true (List.all_eq_true.1 h.1 b hb), ordB_ord h.2⟩
def allF : List Nat := listOf fun _ => true
theorem allF_ord : Ord allF := ordB_ord (by decide +kernel)
theorem allF_len : allF.length = 64 := by decide +kernel
theorem listOf_all (P : Nat → Bool) : listOf P = allF.filter P := by
  unfold allF
  rw [listOf_filter]
  apply listOf_congr
  intro s _
  simp
theorem listOf_ord (P : Nat → Bool) : Ord (listOf P) := by
  rw [listOf_all]
  exact allF_ord.filter P
theorem listOf_64 (P : Nat → Bool) : (listOf P).length ≤ 64 := by
  rw [listOf_all, ← allF_len]
  exact List.length_filter_le _ _
/-- Faces of two families: those of either and those of both are as many as the two have. -/
theorem filter_two (P Q : Nat → Bool) : ∀ l : List Nat, (l.filter fun s => P s || Q s).length + (l.filter fun s => P s && Q s).length = (l.filter P).length + (l.filter Q).length
  | [] => rfl
  | a :: l => by
    have ih := filter_two P Q l
    cases hp : P a <;> cases hq : Q a <;> simp [hp, hq] <;> omega
theorem listOf_two (P Q : Nat → Bool) : (listOf fun s => P s || Q s).length + (listOf fun s => P s && Q s).length = (listOf P).length + (listOf Q).length := by
  rw [listOf_all, listOf_all, listOf_all P, listOf_all Q]
  exact filter_two P Q allF

theorem mem_maxOf {P : Nat → Bool} {s : Nat} : s ∈ maxOf P ↔ s < 64 ∧ P s = true ∧ ∀ t, t < 64 → P t = true → sub s t = true → t = s := by
  rw [maxOf_eq, mem_listOf, Bool.and_eq_true, keepMax_iff]
theorem maxOf_ord (P : Nat → Bool) : Ord (maxOf P) := by
  rw [maxOf_eq]
  exact listOf_ord _
theorem maxOf_64 (P : Nat → Bool) : (maxOf P).length ≤ 64 := by
  rw [maxOf_eq]
  exact listOf_64 _
/-- Each set of a family lies in a greatest one. -/
theorem under_max {P : Nat → Bool} : ∀ (d s : Nat), s < 64 → P s = true → 6 - pc s ≤ d → ∃ t, t ∈ maxOf P ∧ sub s t = true
  | d, s, hs, hp, hd => by
    by_cases hm : ∀ t, t < 64 → P t = true → sub s t = true → t = s
    · exact ⟨s, mem_maxOf.2 ⟨hs, hp, hm⟩, sub_self s⟩
    · obtain ⟨t, ht, hpt, hst, hne⟩ : ∃ t, t < 64 ∧ P t = true ∧ sub s t = true ∧ t ≠ s := by
        refine Classical.byContradiction fun hno => hm fun t ht hpt hst => ?_
        exact Classical.byContradiction fun hne => hno ⟨t, ht, hpt, hst, hne⟩
      have h1 := sub_pc hs ht hst hne
      have h2 := pc_le6 t ht
      cases d with
      | zero => omega
      | succ d =>
        obtain ⟨u, hu, htu⟩ := under_max d t ht hpt (by omega)
        exact ⟨u, hu, sub_trans2 hst htu⟩
def Down (P : Nat → Bool) : Prop := ∀ s t, s < 64 → t < 64 → sub s t = true → P t = true → P s = true
theorem faceP_max {P : Nat → Bool} (hd : Down P) {s : Nat} (hs : s < 64) : faceP (zs (maxOf P)) s = P s := by
  rw [faceP_zs, Bool.eq_iff_iff, List.any_eq_true]
  constructor
  · rintro ⟨t, ht, hst⟩
    obtain ⟨h1, h2, _⟩ := mem_maxOf.1 ht
    exact hd s t hs h1 hst h2
  · intro hp
    obtain ⟨t, ht, hst⟩ := under_max 6 s hs hp (by omega)
    exact ⟨t, ht, hst⟩
theorem faceP_Down (xs : List Int) : Down (faceP xs) := fun _ _ _ _ h k => faceP_down h k

theorem cx_keys {n : Int} {xs : List Int} (h : isCx n xs = true) : ∀ d k, k + 1 + d < xs.length → key (xs.getD k 0).toNat < key (xs.getD (k + 1 + d) 0).toNat := by
  have step : ∀ k, k + 1 < xs.length → key (xs.getD k 0).toNat < key (xs.getD (k + 1) 0).toNat := by
    intro k hk
    have h1 := (isCx_inv h).2.1 (k + 1) hk
    unfold cxFirst at h1
    rw [Bool.and_eq_true] at h1
    have h2 := h1.2
    rw [show (k + 1 == 0) = false by simp, Bool.false_or, show k + 1 - 1 = k by omega] at h2
    unfold beforeI at h2
    simp only [Bool.or_eq_true, Bool.and_eq_true, decide_eq_true_eq] at h2
    have ha := cx_at h (show k < xs.length by omega)
    have hb := cx_at h hk
    unfold key
    rcases h2 with h2 | ⟨h3, h4⟩ <;> omega
  intro d
  induction d with
  | zero => exact step
  | succ d ih =>
    intro k hk
    have h1 := ih k (by omega)
    have h2 := step (k + 1 + d) (by omega)
    have e : k + 1 + (d + 1) = k + 1 + d + 1 := by omega
    rw [e]
    omega
theorem cx_zs {n : Int} {xs : List Int} (h : isCx n xs = true) : xs = zs (xs.map Int.toNat) := by
  unfold zs
  rw [List.map_map]
  conv => lhs; rw [← List.map_id xs]
  apply List.map_congr_left
  intro x hx
  have := isCx_sets h x hx
  show x = ((x.toNat : Nat) : Int)
  omega
theorem cx_ord {n : Int} {xs : List Int} (h : isCx n xs = true) : Ord (xs.map Int.toNat) := by
  unfold Ord
  rw [List.pairwise_iff_getElem]
  intro i j hi hj hij
  rw [List.length_map] at hi hj
  have := cx_keys h (j - (i + 1)) i (by omega)
  rw [show i + 1 + (j - (i + 1)) = j by omega] at this
  have ei : xs.getD i 0 = xs[i] := getD_of (List.getElem?_eq_getElem hi)
  have ej : xs.getD j 0 = xs[j] := getD_of (List.getElem?_eq_getElem hj)
  rw [ei, ej] at this
  simpa using this
theorem ord_lt {l : List Nat} (h : Ord l) {i j : Nat} {a b : Nat} (ha : l[i]? = some a) (hb : l[j]? = some b) (hij : i < j) : key a < key b := by
  obtain ⟨hi, rfl⟩ := List.getElem?_eq_some_iff.1 ha
  obtain ⟨hj, rfl⟩ := List.getElem?_eq_some_iff.1 hb
  exact List.pairwise_iff_getElem.1 h i j hi hj hij
/-- No facet lies in another one. -/
theorem cx_anti {n : Int} {xs : List Int} (h : isCx n xs = true) {a b : Nat} (ha : a ∈ xs.map Int.toNat) (hb : b ∈ xs.map Int.toNat) (hs : sub a b = true) : a = b := by
  obtain ⟨i, hi, he⟩ := List.mem_iff_getElem.1 ha
  obtain ⟨j, hj, hf⟩ := List.mem_iff_getElem.1 hb
  have ha2 : (xs.map Int.toNat)[i]? = some a := List.getElem?_eq_some_iff.2 ⟨hi, he⟩
  have hb2 : (xs.map Int.toNat)[j]? = some b := List.getElem?_eq_some_iff.2 ⟨hj, hf⟩
  rw [List.length_map] at hi hj
  have ha64 : a < 64 := by
    obtain ⟨x, hx, rfl⟩ := List.mem_map.1 ha
    have := isCx_sets h x hx
    omega
  have hb64 : b < 64 := by
    obtain ⟨x, hx, rfl⟩ := List.mem_map.1 hb
    have := isCx_sets h x hx
    omega
  rcases Nat.lt_trichotomy i j with hlt | rfl | hgt
  · have h1 := (isCx_inv h).2.2 j hj
    unfold cxNo at h1
    have h2 := List.all_eq_true.1 h1 xs[i] (by
      have : (xs.take j)[i]? = some xs[i] := by rw [List.getElem?_take, if_pos hlt, List.getElem?_eq_getElem hi]
      exact List.mem_of_getElem? this)
    have ej : xs.getD j 0 = xs[j] := getD_of (List.getElem?_eq_getElem hj)
    rw [ej] at h2
    rw [List.getElem_map] at he hf
    rw [he, hf, hs] at h2
    cases h2
  · rw [ha2] at hb2
    exact Option.some.inj hb2
  · have h3 := ord_lt (cx_ord h) hb2 ha2 hgt
    have h4 := sub_le hs
    have h5 := sub_pcle ha64 hb64 hs
    unfold key at h3
    omega
/-- THE KEY: a complex's row is that of the greatest of its faces. -/
theorem cx_max {n : Int} {xs : List Int} (h : isCx n xs = true) : zs (maxOf (faceP xs)) = xs := by
  have e := cx_zs h
  have hm : maxOf (faceP xs) = xs.map Int.toNat := by
    apply ord_ext (maxOf_ord _) (cx_ord h)
    intro s
    rw [mem_maxOf]
    constructor
    · rintro ⟨hs, hp, hmax⟩
      obtain ⟨x, hx, hsx⟩ := List.any_eq_true.1 hp
      have hx64 := isCx_sets h x hx
      have := hmax x.toNat (by omega) (List.any_eq_true.2 ⟨x, hx, sub_self _⟩) hsx
      exact List.mem_map.2 ⟨x, hx, this⟩
    · intro hs
      obtain ⟨x, hx, rfl⟩ := List.mem_map.1 hs
      have hx64 := isCx_sets h x hx
      refine ⟨by omega, List.any_eq_true.2 ⟨x, hx, sub_self _⟩, fun t ht hpt hst => ?_⟩
      obtain ⟨y, hy, hty⟩ := List.any_eq_true.1 hpt
      have h1 := cx_anti h hs (List.mem_map.2 ⟨y, hy, rfl⟩) (sub_trans2 hst hty)
      rw [← h1] at hty
      exact (sub_anti hst hty).symm
  rw [hm]
  exact e.symm
/-- A row of greatest sets is a complex. -/
theorem max_cx {n : Int} {P : Nat → Bool} (hn : 1 ≤ n ∧ n ≤ 6) (hP : ∀ s, s < 64 → P s = true → isSetB n (s : Int) = true) : isCx n (zs (maxOf P)) = true := by
  have hget : ∀ k, k < (zs (maxOf P)).length → ∃ s, (maxOf P)[k]? = some s ∧ (zs (maxOf P)).getD k 0 = (s : Int) := by
    intro k hk
    have hk2 : k < (maxOf P).length := by simpa [zs] using hk
    refine ⟨(maxOf P)[k], List.getElem?_eq_getElem hk2, ?_⟩
    apply getD_of
    simp [zs, hk2]
  refine isCx_mk hn (fun k hk => ?_) (fun k hk => ?_)
  · obtain ⟨s, hs, he⟩ := hget k hk
    unfold cxFirst
    obtain ⟨h1, h2, _⟩ := mem_maxOf.1 (List.mem_of_getElem? hs)
    rw [he, hP s h1 h2, Bool.true_and]
    by_cases h0 : k = 0
    · simp [h0]
    · obtain ⟨t, ht, hf⟩ := hget (k - 1) (by omega)
      obtain ⟨h3, h4, _⟩ := mem_maxOf.1 (List.mem_of_getElem? ht)
      have h5 := ord_lt (maxOf_ord P) ht hs (by omega)
      rw [hf]
      unfold key at h5
      have : beforeI (t : Int) (s : Int) = true := by
        unfold beforeI
        simp only [Int.toNat_natCast, Bool.or_eq_true, Bool.and_eq_true, decide_eq_true_eq]
        rcases Nat.lt_or_ge (pc t) (pc s) with h | h
        · exact .inl h
        · exact .inr ⟨by omega, by omega⟩
      rw [this, Bool.or_true]
  · obtain ⟨s, hs, he⟩ := hget k hk
    unfold cxNo
    rw [he]
    apply List.all_eq_true.2
    intro a ha
    obtain ⟨i, hi, hie⟩ := List.mem_iff_getElem.1 ha
    have hi2 : i < k := by rw [List.length_take] at hi; omega
    obtain ⟨t, ht, hf⟩ := hget i (by omega)
    have e2 : a = (t : Int) := by
      rw [← hf, ← hie, List.getElem_take]
      exact (getD_of (List.getElem?_eq_getElem (by omega))).symm
    subst e2
    obtain ⟨h1, h2, h3⟩ := mem_maxOf.1 (List.mem_of_getElem? ht)
    obtain ⟨h4, h5, _⟩ := mem_maxOf.1 (List.mem_of_getElem? hs)
    rw [Int.toNat_natCast, Int.toNat_natCast]
    cases hc : sub t s with
    | false => rfl
    | true =>
      have := h3 s h4 h5 hc
      subst this
      have := ord_lt (maxOf_ord P) ht hs hi2
      omega
theorem max_faces {n : Int} {P : Nat → Bool} (hn : 1 ≤ n ∧ n ≤ 6) (hP : ∀ s, s < 64 → P s = true → isSetB n (s : Int) = true) (hd : Down P) : facesOf n (zs (maxOf P)) = listOf P := by
  rw [facesOf_yes (max_cx hn hP)]
  exact listOf_congr fun s hs => faceP_max hd hs
theorem cx_n {n : Int} {xs : List Int} (h : isCx n xs = true) : 1 ≤ n ∧ n ≤ 6 := (isCx_inv h).1
end

/- Walks: pickSets, for a function value by its contract. -/
section
open Go.RowKit

/-- The sets that pickSets asks for, up to k. -/
def pickTo (P : Nat → Bool) (k : Nat) (s : Nat) : Bool := decide (s < k) && P s
theorem pick_zero (P : Nat → Bool) : fam (pickTo P 0) = 0 := by
  rw [show fam (pickTo P 0) = fam (fun _ => false) from fam_congr (fun s _ => by simp [pickTo])]
  exact fam_zero
theorem pick_yes {P : Nat → Bool} {k : Nat} (h : P k = true) : fam (fun s => pickTo P k s || s == k) = fam (pickTo P (k + 1)) := by
  apply fam_congr
  intro s _
  unfold pickTo
  by_cases hs : s = k
  · subst hs; simp [h]
  · have : (s == k) = false := by simpa using hs
    rw [this, Bool.or_false]
    congr 1
    exact decide_eq_decide.2 (by omega)
theorem pick_no {P : Nat → Bool} {k : Nat} (h : P k = false) : fam (pickTo P k) = fam (pickTo P (k + 1)) := by
  apply fam_congr
  intro s _
  unfold pickTo
  by_cases hs : s = k
  · subst hs; simp [h]
  · congr 1
    exact decide_eq_decide.2 (by omega)

/-- A call of a function that has a body comes to be entered. -/
theorem call_enter {P : Program} {f : FuncId} {fn : Func} {c : Code} (hf : P.funcs[f]? = some fn) (hn : (fn.name == "runtime.NumGoroutine") = false) (hb : fn.body = some c) (args : Array Value) (w : World) : (callFunc f args).run P w = .ok (.enter f args) w := by
  have hne : fn.name ≠ "runtime.NumGoroutine" := by simpa using hn
  simp [callFunc, hf, hne, hb]
set_option maxRecDepth 100000 in
theorem pickSetsI (f : Nat) (caps : Array Value) (N : Nat) (hN : N ≤ 6) (P : Nat → Bool) (w : World)
    (hcf : ∀ (args : Array Value) (W : World), (callFunc f args).run Try.prog W = .ok (.enter f args) W)
    (hf : ∀ s : Nat, s < 64 → Calls Try.prog f (#[.int .i64 (s : Int)] ++ caps) w fun e w' => e = .returned (.bool (P s)) ∧ w = w') :
    Calls Try.prog 128 #[.int .i64 (N : Int), .func (.func f) #[] caps] w fun e w' => e = .returned (.int .u64 (fam (pickTo P (2 ^ N)) : Int)) ∧ w = w' := by
  have hp : 2 ^ N ≤ 64 := Nat.pow_le_pow_right (n := 2) (by omega) hN
  have hw : wrap64 (2 ^ N) = ((2 ^ N : Nat) : Int) := by
    rw [show ((2 : Int) ^ N) = ((2 ^ N : Nat) : Int) by simp]
    generalize 2 ^ N = q at hp
    unfold wrap64; omega
  generalize hpn : 2 ^ N = p at hp hw
  go_enter Try.func128, Try.ntmps128
  go_wp2
  go_loop [5, 6] (fun a i => ∃ k : Nat, k ≤ p ∧ i = .int .i64 k ∧ a = .int .u64 (fam (pickTo P k) : Int)) (fun _ i => p - (intOf i).toNat)
  case atStart => exact ⟨0, by omega, rfl, by rw [pick_zero]; rfl⟩
  case round =>
    obtain ⟨k, hk, rfl, rfl⟩ := hrel
    by_cases hlt : k < p
    · have hk64 : k < 64 := by omega
      have Ho := hide (or_fam (pickTo P k) k hk64)
      have Hf := hide (hf k hk64)
      have Hcf := hide hcf
      clear hf hcf
      cases hP : P k
      · have Hn := hide (pick_no hP)
        rw [hP] at Hf
        clear hP
        go_wp2_with fail
        rw [Hcf.out]
        refine Calls.mono Hf.out ?_
        rintro e w' ⟨rfl, rfl⟩
        go_wp2
        go_round
        case rel => exact ⟨k + 1, by omega, by go_num, by rw [Hn.out]⟩
        case measure => simp [intOf]; omega
      · have Hy := hide (pick_yes hP)
        rw [hP] at Hf
        clear hP
        go_wp2_with fail
        rw [Hcf.out]
        refine Calls.mono Hf.out ?_
        rintro e w' ⟨rfl, rfl⟩
        go_wp2
        go_round
        case rel => exact ⟨k + 1, by omega, by go_num, by rw [← Hy.out, ← Ho.out]⟩
        case measure => simp [intOf]; omega
    · obtain rfl : k = p := by omega
      go_wp2
      go_ret
      exact ⟨rfl, rfl⟩
end

/- Walks: InducedOf. -/
section
open Go.RowKit

theorem and_fams (P Q : Nat → Bool) : bits BinOp.and IntKind.u64 (fam P : Int) (fam Q : Int) = ((fam (fun s => P s && Q s) : Nat) : Int) := by
  rw [u64_and_nat _ _ (fam_lt P) (fam_lt Q), fam_and]
theorem inducedInI (P : Nat → Bool) (s : Nat) (hs : s < 64) (w : World) : Calls Try.prog 138 #[.int .u64 (fam P : Int), .int .i64 (s : Int)] w fun e w' => e = .returned (.int .u64 (fam (fun u => P u && sub u s) : Int)) ∧ w = w' := by
  have h := and_fams P (fun u => sub u s)
  go_enter Try.func138, Try.ntmps138
  go_wp2_with (go_at_call 151; refine (subsetFamilyI s hs _).mono ?_; rintro e wx ⟨rfl, rfl⟩)
  go_ret
  exact ⟨rfl, rfl⟩
def setOk (n : Int) (xs : List Int) (t : Int) : Bool := isCx n xs && isSetB n t

theorem inducedOfI (n : Int) (v : Value) (xs : List Int) (t : Int) (w : World) (h : IntsAt w w.heap.size v xs) (hl : xs.length ≤ 1073741824) :
    Calls Try.prog 70 #[.agg #[.int .i64 n, v], .int .i64 t] w fun e w' => RetCB 3 w (cbN (setOk n xs t) n) (cbXs (setOk n xs t) (maxOf (fun u => faceP xs u && sub u t.toNat))) (setOk n xs t) e w' := by
  obtain ⟨A, c, rfl⟩ := reads_shape h
  obtain ⟨w1, hW1, at1, b1, z1⟩ := boxC w (.int .i64 n) (.slice A xs.length c) 42
  obtain ⟨w2, hW2, at2, rs2, b2, z2⟩ := boxRes w1 42
  have b02 := nxt b1 b2
  have R0 := hide h
  have R2 := hide (now_ h b02)
  have at1 := at1.to b2
  have At1 := hide at1
  have Rs2 := hide rs2
  have B2 := hide b02
  have hne : w.heap.size ≠ w1.heap.size := by omega
  have Hle : Hid (w.heap.size ≤ w1.heap.size) := by show _ ≤ _; omega
  obtain ⟨e1_0, e1_1⟩ := at1
  obtain ⟨e2_0, e2_1⟩ := at2
  have At2 : Hid (AtC w2 w1.heap.size (.int .i64 0) (.slice none 0 0)) := ⟨e2_0, e2_1⟩
  clear h b1 b2 b02 z1 z2 rs2
  cases hcx : isCx n xs
  · have Hcx := hide hcx
    clear hcx
    have Hok : Hid (setOk n xs t = false) := by show _ = _; unfold setOk; rw [Hcx.out]; rfl
    go_enter Try.func70, Try.ntmps70
    go_wp2_with fail
    clear hW1 hW2
    refine (isComplexI n _ xs w2 R2.out hl).mono ?_
    rw [Hcx.out]
    rintro e w3 ⟨rfl, b3⟩
    obtain ⟨e3_0, e3_1⟩ := At2.out.to b3
    obtain ⟨_, f0, f1⟩ := Rs2.out.to b3
    have hr : w1.heap.size < w3.heap.size := (Rs2.out.to b3).lt
    have B3 := hide (nxt B2.out b3)
    clear b3 e1_0 e1_1 e2_0 e2_1
    go_wp2
    refine bodyPost_ret (v := .tuple #[.agg #[.int .i64 0, .slice none 0 0], .bool false]) (by simp [results, Try.results70, go_sem, e3_0, e3_1]) rfl ?_
    exact retCB_no Hok.out (below_store B3.out Hle.out _ _)
  · have Hcx := hide hcx
    clear hcx
    cases hset : isSetB n t
    · have Hset := hide hset
      clear hset
      have Hok : Hid (setOk n xs t = false) := by show _ = _; unfold setOk; rw [Hcx.out, Hset.out]; rfl
      go_enter Try.func70, Try.ntmps70
      go_wp2_with fail
      clear hW1 hW2
      refine (isComplexI n _ xs w2 R2.out hl).mono ?_
      rw [Hcx.out]
      rintro e w3 ⟨rfl, b3⟩
      obtain ⟨e3_0, e3_1⟩ := At2.out.to b3
      obtain ⟨e13_0, e13_1⟩ := At1.out.to b3
      obtain ⟨_, f0, f1⟩ := Rs2.out.to b3
      have hr : w1.heap.size < w3.heap.size := (Rs2.out.to b3).lt
      have B3 := hide (nxt B2.out b3)
      clear b3 e1_0 e1_1 e2_0 e2_1
      go_wp2_with (go_at_call 86; refine (isSetI _ _ _).mono ?_; rw [Hset.out]; rintro e wx ⟨rfl, rfl⟩)
      refine bodyPost_ret (v := .tuple #[.agg #[.int .i64 0, .slice none 0 0], .bool false]) (by simp [results, Try.results70, go_sem, e3_0, e3_1]) rfl ?_
      exact retCB_no Hok.out (below_store B3.out Hle.out _ _)
    · have Hset := hide hset
      have ht := isSetB_64 hset
      obtain ⟨s, rfl⟩ := Int.eq_ofNat_of_zero_le ht.1
      have hs : s < 64 := by omega
      have Hok : Hid (setOk n xs (s : Int) = true) := by show _ = _; unfold setOk; rw [Hcx.out, Hset.out]; rfl
      clear hset ht
      go_enter Try.func70, Try.ntmps70
      go_wp2_with fail
      clear hW1 hW2
      refine (isComplexI n _ xs w2 R2.out hl).mono ?_
      rw [Hcx.out]
      rintro e w3 ⟨rfl, b3⟩
      obtain ⟨e13_0, e13_1⟩ := At1.out.to b3
      have B3 := hide (nxt B2.out b3)
      have Sx : Hid (Below w.heap.size w w3.drew ∧ Res w1.heap.size w3.drew) := ⟨(nxt B2.out b3).drew, by have h := Rs2.out.to b3; exact h⟩
      have hK : Hid (∀ W W' : World, (AtC W w.heap.size (.int .i64 n) (.slice A xs.length c) ∧ Hid (Below w.heap.size w W ∧ Res w1.heap.size W)) → Below W.heap.size W W' → (AtC W' w.heap.size (.int .i64 n) (.slice A xs.length c) ∧ Hid (Below w.heap.size w W' ∧ Res w1.heap.size W'))) := fun W W' h k => ⟨h.1.to k, nxt h.2.1 k, h.2.2.to k⟩
      have hKs : Hid (∀ (W : World) (x y : Value), (AtC W w.heap.size (.int .i64 n) (.slice A xs.length c) ∧ Hid (Below w.heap.size w W ∧ Res w1.heap.size W)) → (AtC ((W.setCell ⟨w1.heap.size, 0, none⟩ x).setCell ⟨w1.heap.size, 1, none⟩ y) w.heap.size (.int .i64 n) (.slice A xs.length c) ∧ Hid (Below w.heap.size w ((W.setCell ⟨w1.heap.size, 0, none⟩ x).setCell ⟨w1.heap.size, 1, none⟩ y) ∧ Res w1.heap.size ((W.setCell ⟨w1.heap.size, 0, none⟩ x).setCell ⟨w1.heap.size, 1, none⟩ y)))) := fun W x y h => ⟨h.1.store hne x y, below_store h.2.1 Hle.out x y, h.2.2.store x y⟩
      clear b3 e1_0 e1_1 e2_0 e2_1
      go_wp2_with (go_at_call 86; refine (isSetI _ _ _).mono ?_; rw [Hset.out]; rintro e wx ⟨rfl, rfl⟩)
      go_region_held3 (fun W => ((W.cell? ⟨w.heap.size, 0, none⟩ = some (.int .i64 n) ∧ W.cell? ⟨w.heap.size, 1, none⟩ = some (.slice A xs.length c)) ∧ Hid (Below w.heap.size w W ∧ Res w1.heap.size W))) (first | exact ⟨⟨e13_0, e13_1⟩, Sx⟩ | exact hK.out _ _ (by assumption) (by assumption) | exact hKs.out _ _ _ (by assumption) | assumption | go_keep) (first | (go_at_call 114; refine (facesInI n _ xs _ (by rename_i hS _ _; exact now_ R0.out hS.2.1) hl Hcx.out).mono ?_; rintro e wq ⟨rfl, bq⟩) | (go_at_call 138; refine (inducedInI _ s hs _).mono ?_; rintro e wq ⟨rfl, rfl⟩) | (go_at_call 124; rename_i hS _ _; have hRs := hS.2.2; have hBs := hS.2.1; refine (complexOfI n (fun u => faceP xs u && sub u s) _).mono ?_; rintro e w9 ⟨v9, rfl, o9, b9⟩; obtain ⟨A9, c9, rfl⟩ := own_shape o9; obtain ⟨⟨q0, q1, h90, h91⟩, f90, f91⟩ := hRs.to b9; have h9r := (hRs.to b9).lt))
      have Hfar := hide (fun k hk => Nat.lt_of_lt_of_le hRs.lt (own_block o9 k hk).1)
      have Ho := hide (own_mono o9 hBs.size)
      have Hb := hide (nxt hBs b9)
      clear o9 b9 hRs hBs
      go_wp2
      refine bodyPost_ret (v := .tuple #[.agg #[.int .i64 n, .slice A9 (zs (maxOf (fun u => faceP xs u && sub u s))).length c9], .bool true]) (by simp [results, Try.results70, go_sem, h90, h91]) rfl ?_
      rw [Int.toNat_natCast]
      refine retCB_yes Hok.out (own_setNe (own_setNe Ho.out (fun k hk => by have := Hfar.out k hk; omega) _ _) (fun k hk => by have := Hfar.out k hk; omega) _ _) (below_store Hb.out Hle.out _ _)
end
end Go.Proofs.Ytmkacjpjcfffmaa
