/- The law FnExactEqualComplex. No condition. -/
import Derived.Test.YtjbojjjajnoidabW19
import Derived.Test.YtjbojjjajnoidabBox
import Derived.Test.YtjbojjjajnoidabOpen
namespace Go.Proofs.Ytjbojjjajnoidab
open Go.ChangeShapes Go.WideShapes Go.ChangeAt Go.RowKit
open Go.ChangeMaps (open_string shut_string)
set_option linter.unusedVariables false

theorem both_FnExactEqualComplex (n0 : Int) (xs0 : List Int) (n1 : Int) (xs1 : List Int) (hl0 : xs0.length ≤ 1048576) (hl1 : xs1.length ≤ 1048576) : ∃ r : Bool,
    (∀ (W : World) (u0 u1 : Value), IntsAt W W.heap.size u0 xs0 → IntsAt W W.heap.size u1 xs1 → Calls Try.prog 16 #[.agg #[.int .i64 n0, u0], .agg #[.int .i64 n1, u1]] W fun e w' => RetB W r e w') ∧
    (∀ (W : World) (u0 u1 : Value), IntsAt W W.heap.size u0 xs0 → IntsAt W W.heap.size u1 xs1 → Calls Try.prog 18 #[.agg #[.int .i64 n0, u0], .agg #[.int .i64 n1, u1]] W fun e w' => RetB W r e w') :=
  ⟨_, fun W u0 u1 h0 h1 => equalComplexS n0 n1 u0 u1 xs0 xs1 W h0 h1 (by omega) (by omega), fun W u0 u1 h0 h1 => equalComplexI n0 n1 u0 u1 xs0 xs1 W h0 h1 (by omega) (by omega)⟩

theorem walk_FnExactEqualComplex (w : World) (n0 : Int) (u0 : Value) (xs0 : List Int) (rd0 : IntsAt w w.heap.size u0 xs0) (bl0 : xs0.length ≤ 9223372036854775807) (bn0 : -9223372036854775808 ≤ n0 ∧ n0 ≤ 9223372036854775807) (bx0 : ∀ x ∈ xs0, -9223372036854775808 ≤ x ∧ x ≤ 9223372036854775807) (n1 : Int) (u1 : Value) (xs1 : List Int) (rd1 : IntsAt w w.heap.size u1 xs1) (bl1 : xs1.length ≤ 9223372036854775807) (bn1 : -9223372036854775808 ≤ n1 ∧ n1 ≤ 9223372036854775807) (bx1 : ∀ x ∈ xs1, -9223372036854775808 ≤ x ∧ x ≤ 9223372036854775807) : Calls Try.prog 3 #[.agg #[.int .i64 n0, u0], .agg #[.int .i64 n1, u1]] w fun e w' => RetB w true e w' := by
  obtain ⟨A0, k0, rfl⟩ := reads_shape rd0
  obtain ⟨A1, k1, rfl⟩ := reads_shape rd1
  obtain ⟨w1, hW1, at1, b1, z1⟩ := boxC w (.int .i64 n0) (.slice A0 xs0.length k0) 24
  obtain ⟨w2, hW2, at2, b2, z2⟩ := boxC w1 (.int .i64 n1) (.slice A1 xs1.length k1) 24
  have b02 := nxt b1 b2
  have Rd0 := hide (now_ rd0 b02)
  have Rd1 := hide (now_ rd1 b02)
  have B1 := hide b02
  have at1 := at1.to b2
  have At1 := hide at1
  have At2 := hide at2
  obtain ⟨e1_0, e1_1⟩ := at1
  obtain ⟨e2_0, e2_1⟩ := at2
  have Z1 := hide z1
  have Z2 := hide z2
  clear rd0 rd1 b1 b2 b02 z1 z2
  by_cases hgd : 1048576 < xs0.length
  · go_enter Try.func3, Try.ntmps3
    go_wp2_with fail
    clear hW1 hW2
    refine (szComplex_any n0 _ xs0 _ w2 Rd0.out (by omega) (by omega) (by omega)).mono ?_
    rw [if_pos (show (1048576 : Int) < xs0.length by omega)]
    rintro e w3 ⟨rfl, b3⟩
    have B := hide (nxt B1.out b3)
    go_wp2
    go_ret
    exact ⟨rfl, B.out⟩
  have hgd2 : xs0.length ≤ 1048576 := by omega
  clear hgd
  by_cases hgd : 1048576 < xs0.length + xs1.length
  · go_enter Try.func3, Try.ntmps3
    go_wp2_with fail
    clear hW1 hW2
    refine (szComplex_any n0 _ xs0 _ w2 Rd0.out (by omega) (by omega) (by omega)).mono ?_
    rw [if_neg (show ¬ (1048576 : Int) < xs0.length by omega)]
    rintro e w3 ⟨rfl, b3⟩
    have b03 := nxt B1.out b3
    have Rd1b := hide (now_ Rd1.out b3)
    obtain ⟨e3_0, e3_1⟩ := At2.out.to b3
    have B03 := hide b03
    clear e1_0 e1_1 e2_0 e2_1 b3 b03
    go_wp2_with fail
    refine (szComplex_any n1 _ xs1 _ w3 Rd1b.out (by omega) (by omega) (by omega)).mono ?_
    rw [if_pos (show (1048576 - xs0.length : Int) < xs1.length by omega)]
    rintro e w4 ⟨rfl, b4⟩
    have B := hide (nxt B03.out b4)
    go_wp2
    go_ret
    exact ⟨rfl, B.out⟩
  have hgd3 : xs0.length + xs1.length ≤ 1048576 := by omega
  have hgd4 : xs1.length ≤ 1048576 := by omega
  clear hgd
  obtain ⟨r, hS, hI⟩ := both_FnExactEqualComplex n0 xs0 n1 xs1 hgd2 hgd4
  go_enter Try.func3, Try.ntmps3
  go_wp2_with fail
  clear hW1 hW2
  have c_2 : Hid (Below w2.heap.size w2 w2) := Below.refl _ _
  have p0_2 : Hid (AtC w2 w.heap.size (.int .i64 n0) (.slice A0 xs0.length k0)) := At1
  obtain ⟨vp0_2_0, vp0_2_1⟩ := p0_2.out
  have p1_2 : Hid (AtC w2 w1.heap.size (.int .i64 n1) (.slice A1 xs1.length k1)) := At2
  obtain ⟨vp1_2_0, vp1_2_1⟩ := p1_2.out
  clear e1_0 e1_1 e2_0 e2_1 At1 At2
  refine (szComplex_any n0 _ xs0 _ w2 Rd0.out (by omega) (by omega) (by omega)).mono ?_
  rw [if_neg (show ¬ (1048576 : Int) < xs0.length by omega)]
  rintro e w3 ⟨rfl, b3⟩
  clear vp0_2_0 vp0_2_1 vp1_2_0 vp1_2_1
  have c_3 : Hid (Below w2.heap.size w2 w3) := b3
  have p0_3 : Hid (AtC w3 w.heap.size (.int .i64 n0) (.slice A0 xs0.length k0)) := AtC.to p0_2.out b3
  have p1_3 : Hid (AtC w3 w1.heap.size (.int .i64 n1) (.slice A1 xs1.length k1)) := AtC.to p1_2.out b3
  clear c_2 p0_2 p1_2
  obtain ⟨vp0_3_0, vp0_3_1⟩ := p0_3.out
  obtain ⟨vp1_3_0, vp1_3_1⟩ := p1_3.out
  clear b3
  go_wp2_with fail
  refine (szComplex_any n1 _ xs1 _ w3 (now_ Rd1.out c_3.out) (by omega) (by omega) (by omega)).mono ?_
  rw [if_neg (show ¬ (1048576 - xs0.length : Int) < xs1.length by omega)]
  rintro e w4 ⟨rfl, b4⟩
  clear vp0_3_0 vp0_3_1 vp1_3_0 vp1_3_1
  have c_4 : Hid (Below w2.heap.size w2 w4) := nxt c_3.out b4
  have p0_4 : Hid (AtC w4 w.heap.size (.int .i64 n0) (.slice A0 xs0.length k0)) := AtC.to p0_3.out b4
  have p1_4 : Hid (AtC w4 w1.heap.size (.int .i64 n1) (.slice A1 xs1.length k1)) := AtC.to p1_3.out b4
  clear c_3 p0_3 p1_3
  obtain ⟨vp0_4_0, vp0_4_1⟩ := p0_4.out
  obtain ⟨vp1_4_0, vp1_4_1⟩ := p1_4.out
  clear b4
  have Sx5 : Hid (Below w2.heap.size w2 w4.drew ∧ AtC w4.drew w.heap.size (.int .i64 n0) (.slice A0 xs0.length k0) ∧ AtC w4.drew w1.heap.size (.int .i64 n1) (.slice A1 xs1.length k1)) := ⟨(c_4.out).drew, p0_4.out, p1_4.out⟩
  have hK5 : Hid (∀ W W' : World, (AtC W w.heap.size (.int .i64 n0) (.slice A0 xs0.length k0) ∧ AtC W w1.heap.size (.int .i64 n1) (.slice A1 xs1.length k1) ∧ Hid (Below w2.heap.size w2 W ∧ AtC W w.heap.size (.int .i64 n0) (.slice A0 xs0.length k0) ∧ AtC W w1.heap.size (.int .i64 n1) (.slice A1 xs1.length k1))) → Below W.heap.size W W' → (AtC W' w.heap.size (.int .i64 n0) (.slice A0 xs0.length k0) ∧ AtC W' w1.heap.size (.int .i64 n1) (.slice A1 xs1.length k1) ∧ Hid (Below w2.heap.size w2 W' ∧ AtC W' w.heap.size (.int .i64 n0) (.slice A0 xs0.length k0) ∧ AtC W' w1.heap.size (.int .i64 n1) (.slice A1 xs1.length k1)))) := fun W W' h k => ⟨h.1.to k, h.2.1.to k, nxt h.2.2.1 k, AtC.to h.2.2.2.1 k, AtC.to h.2.2.2.2 k⟩
  go_wp2
  go_region_held3 (fun W => ((W.cell? ⟨w.heap.size, 0, none⟩ = some (.int .i64 n0) ∧ W.cell? ⟨w.heap.size, 1, none⟩ = some (.slice A0 xs0.length k0)) ∧ (W.cell? ⟨w1.heap.size, 0, none⟩ = some (.int .i64 n1) ∧ W.cell? ⟨w1.heap.size, 1, none⟩ = some (.slice A1 xs1.length k1)) ∧ Hid (Below w2.heap.size w2 W ∧ AtC W w.heap.size (.int .i64 n0) (.slice A0 xs0.length k0) ∧ AtC W w1.heap.size (.int .i64 n1) (.slice A1 xs1.length k1)))) (first | exact ⟨⟨vp0_4_0, vp0_4_1⟩, ⟨vp1_4_0, vp1_4_1⟩, Sx5⟩ | exact hK5.out _ _ (by assumption) (by assumption) | go_keep) (first | (go_at_call 17; refine (toComplex_any _ _ _ _ (by rename_i hS _ _; first | exact now_ Rd0.out hS.2.2.1 | exact now_ Rd1.out hS.2.2.1) (by omega)).mono ?_; rintro e wq5 ⟨vq, rfl, oq, bq⟩; try (have oc := own_below (by assumption) bq)) | (go_at_call 16; refine (hS _ _ _ (by first | exact own_reads (by assumption)) (by first | exact own_reads (by assumption))).mono ?_; rintro e w5 ⟨rfl, bq⟩))
  all_goals (
    rename_i hSS
    have hC := hSS.2.2
    clear vp0_4_0 vp0_4_1 vp1_4_0 vp1_4_1
    have c_5 : Hid (Below w2.heap.size w2 w5) := hC.1
    have p0_5 : Hid (AtC w5 w.heap.size (.int .i64 n0) (.slice A0 xs0.length k0)) := hC.2.1
    have p1_5 : Hid (AtC w5 w1.heap.size (.int .i64 n1) (.slice A1 xs1.length k1)) := hC.2.2
    clear c_4 p0_4 p1_4 hC hSS Sx5 hK5
    obtain ⟨vp0_5_0, vp0_5_1⟩ := p0_5.out
    obtain ⟨vp1_5_0, vp1_5_1⟩ := p1_5.out
    go_wp2_with fail
    have z_c_x0 : Hid (w2.heap.size ≤ w5.heap.size) := c_5.out.size
    have bl_p0_x0 : Hid (w.heap.size < w5.heap.size) := p0_5.out.lt
    have bl_p1_x0 : Hid (w1.heap.size < w5.heap.size) := p1_5.out.lt
    refine (toComplex_any n0 _ xs0 w5 (now_ Rd0.out c_5.out) (by omega)).mono ?_
    rintro e w6 ⟨vx0, rfl, ox0, b6⟩
    clear vp0_5_0 vp0_5_1 vp1_5_0 vp1_5_1
    have c_6 : Hid (Below w2.heap.size w2 w6) := nxt c_5.out b6
    have p0_6 : Hid (AtC w6 w.heap.size (.int .i64 n0) (.slice A0 xs0.length k0)) := AtC.to p0_5.out b6
    have p1_6 : Hid (AtC w6 w1.heap.size (.int .i64 n1) (.slice A1 xs1.length k1)) := AtC.to p1_5.out b6
    clear c_5 p0_5 p1_5
    obtain ⟨vp0_6_0, vp0_6_1⟩ := p0_6.out
    obtain ⟨vp1_6_0, vp1_6_1⟩ := p1_6.out
    obtain ⟨Ax0, cx0, rfl⟩ := own_shape ox0
    have x0_6 : Hid (OwnV 3 w6 w5.heap.size (.slice Ax0 xs0.length cx0) (ints xs0)) := ox0
    clear ox0 b6
    have lt_x0_bx0 : Hid (∀ j, Value.ownBlock (.slice Ax0 xs0.length cx0) = some j → j < w6.heap.size) := fun j hj => (own_block x0_6.out j hj).2
    obtain ⟨w7, hW7, atbx0, b7, z7⟩ := boxC w6 (.int .i64 n0) (.slice Ax0 xs0.length cx0) 27
    have c_7 : Hid (Below w2.heap.size w2 w7) := nxt c_6.out b7
    have p0_7 : Hid (AtC w7 w.heap.size (.int .i64 n0) (.slice A0 xs0.length k0)) := AtC.to p0_6.out b7
    have p1_7 : Hid (AtC w7 w1.heap.size (.int .i64 n1) (.slice A1 xs1.length k1)) := AtC.to p1_6.out b7
    have x0_7 : Hid (OwnV 3 w7 w5.heap.size (.slice Ax0 xs0.length cx0) (ints xs0)) := own_below x0_6.out b7
    clear c_6 p0_6 p1_6 x0_6
    obtain ⟨vp0_7_0, vp0_7_1⟩ := p0_7.out
    obtain ⟨vp1_7_0, vp1_7_1⟩ := p1_7.out
    have bx0_7 : Hid (AtC w7 w6.heap.size (.int .i64 n0) (.slice Ax0 xs0.length cx0)) := atbx0
    obtain ⟨vbx0_7_0, vbx0_7_1⟩ := bx0_7.out
    clear atbx0 b7
    go_wp2_with fail
    clear vp0_6_0 vp0_6_1 vp1_6_0 vp1_6_1 hW7
    have lt_x0_x1 : Hid (∀ j, Value.ownBlock (.slice Ax0 xs0.length cx0) = some j → j < w7.heap.size) := fun j hj => (own_block x0_7.out j hj).2
    have z_c_x1 : Hid (w2.heap.size ≤ w7.heap.size) := c_7.out.size
    have bl_p0_x1 : Hid (w.heap.size < w7.heap.size) := p0_7.out.lt
    have bl_p1_x1 : Hid (w1.heap.size < w7.heap.size) := p1_7.out.lt
    have bl_bx0_x1 : Hid (w6.heap.size < w7.heap.size) := bx0_7.out.lt
    refine (toComplex_any n1 _ xs1 w7 (now_ Rd1.out c_7.out) (by omega)).mono ?_
    rintro e w8 ⟨vx1, rfl, ox1, b8⟩
    clear vp0_7_0 vp0_7_1 vp1_7_0 vp1_7_1 vbx0_7_0 vbx0_7_1
    have c_8 : Hid (Below w2.heap.size w2 w8) := nxt c_7.out b8
    have p0_8 : Hid (AtC w8 w.heap.size (.int .i64 n0) (.slice A0 xs0.length k0)) := AtC.to p0_7.out b8
    have p1_8 : Hid (AtC w8 w1.heap.size (.int .i64 n1) (.slice A1 xs1.length k1)) := AtC.to p1_7.out b8
    have x0_8 : Hid (OwnV 3 w8 w5.heap.size (.slice Ax0 xs0.length cx0) (ints xs0)) := own_below x0_7.out b8
    have bx0_8 : Hid (AtC w8 w6.heap.size (.int .i64 n0) (.slice Ax0 xs0.length cx0)) := AtC.to bx0_7.out b8
    clear c_7 p0_7 p1_7 x0_7 bx0_7
    obtain ⟨vp0_8_0, vp0_8_1⟩ := p0_8.out
    obtain ⟨vp1_8_0, vp1_8_1⟩ := p1_8.out
    obtain ⟨vbx0_8_0, vbx0_8_1⟩ := bx0_8.out
    obtain ⟨Ax1, cx1, rfl⟩ := own_shape ox1
    have x1_8 : Hid (OwnV 3 w8 w7.heap.size (.slice Ax1 xs1.length cx1) (ints xs1)) := ox1
    clear ox1 b8
    have lt_x0_bx1 : Hid (∀ j, Value.ownBlock (.slice Ax0 xs0.length cx0) = some j → j < w8.heap.size) := fun j hj => (own_block x0_8.out j hj).2
    have lt_x1_bx1 : Hid (∀ j, Value.ownBlock (.slice Ax1 xs1.length cx1) = some j → j < w8.heap.size) := fun j hj => (own_block x1_8.out j hj).2
    obtain ⟨w9, hW9, atbx1, b9, z9⟩ := boxC w8 (.int .i64 n1) (.slice Ax1 xs1.length cx1) 27
    have c_9 : Hid (Below w2.heap.size w2 w9) := nxt c_8.out b9
    have p0_9 : Hid (AtC w9 w.heap.size (.int .i64 n0) (.slice A0 xs0.length k0)) := AtC.to p0_8.out b9
    have p1_9 : Hid (AtC w9 w1.heap.size (.int .i64 n1) (.slice A1 xs1.length k1)) := AtC.to p1_8.out b9
    have x0_9 : Hid (OwnV 3 w9 w5.heap.size (.slice Ax0 xs0.length cx0) (ints xs0)) := own_below x0_8.out b9
    have bx0_9 : Hid (AtC w9 w6.heap.size (.int .i64 n0) (.slice Ax0 xs0.length cx0)) := AtC.to bx0_8.out b9
    have x1_9 : Hid (OwnV 3 w9 w7.heap.size (.slice Ax1 xs1.length cx1) (ints xs1)) := own_below x1_8.out b9
    clear c_8 p0_8 p1_8 x0_8 bx0_8 x1_8
    obtain ⟨vp0_9_0, vp0_9_1⟩ := p0_9.out
    obtain ⟨vp1_9_0, vp1_9_1⟩ := p1_9.out
    obtain ⟨vbx0_9_0, vbx0_9_1⟩ := bx0_9.out
    have bx1_9 : Hid (AtC w9 w8.heap.size (.int .i64 n1) (.slice Ax1 xs1.length cx1)) := atbx1
    obtain ⟨vbx1_9_0, vbx1_9_1⟩ := bx1_9.out
    clear atbx1 b9
    go_wp2_with fail
    clear vp0_8_0 vp0_8_1 vp1_8_0 vp1_8_1 vbx0_8_0 vbx0_8_1 hW9
    refine (hI w9 _ _ (own_reads x0_9.out) (own_reads x1_9.out)).mono ?_
    rintro e w10 ⟨rfl, b10⟩
    clear vp0_9_0 vp0_9_1 vp1_9_0 vp1_9_1 vbx0_9_0 vbx0_9_1 vbx1_9_0 vbx1_9_1
    have c_10 : Hid (Below w2.heap.size w2 w10) := nxt c_9.out b10
    have p0_10 : Hid (AtC w10 w.heap.size (.int .i64 n0) (.slice A0 xs0.length k0)) := AtC.to p0_9.out b10
    have p1_10 : Hid (AtC w10 w1.heap.size (.int .i64 n1) (.slice A1 xs1.length k1)) := AtC.to p1_9.out b10
    have x0_10 : Hid (OwnV 3 w10 w5.heap.size (.slice Ax0 xs0.length cx0) (ints xs0)) := own_below x0_9.out b10
    have bx0_10 : Hid (AtC w10 w6.heap.size (.int .i64 n0) (.slice Ax0 xs0.length cx0)) := AtC.to bx0_9.out b10
    have x1_10 : Hid (OwnV 3 w10 w7.heap.size (.slice Ax1 xs1.length cx1) (ints xs1)) := own_below x1_9.out b10
    have bx1_10 : Hid (AtC w10 w8.heap.size (.int .i64 n1) (.slice Ax1 xs1.length cx1)) := AtC.to bx1_9.out b10
    clear c_9 p0_9 p1_9 x0_9 bx0_9 x1_9 bx1_9
    obtain ⟨vp0_10_0, vp0_10_1⟩ := p0_10.out
    obtain ⟨vp1_10_0, vp1_10_1⟩ := p1_10.out
    obtain ⟨vbx0_10_0, vbx0_10_1⟩ := bx0_10.out
    obtain ⟨vbx1_10_0, vbx1_10_1⟩ := bx1_10.out
    clear b10
    have hne : (r != r) = false := by simp
    have Sx11 : Hid (Below w2.heap.size w2 w10.drew ∧ AtC w10.drew w.heap.size (.int .i64 n0) (.slice A0 xs0.length k0) ∧ AtC w10.drew w1.heap.size (.int .i64 n1) (.slice A1 xs1.length k1) ∧ OwnV 3 w10.drew w5.heap.size (.slice Ax0 xs0.length cx0) (ints xs0) ∧ AtC w10.drew w6.heap.size (.int .i64 n0) (.slice Ax0 xs0.length cx0) ∧ OwnV 3 w10.drew w7.heap.size (.slice Ax1 xs1.length cx1) (ints xs1) ∧ AtC w10.drew w8.heap.size (.int .i64 n1) (.slice Ax1 xs1.length cx1)) := ⟨(c_10.out).drew, p0_10.out, p1_10.out, x0_10.out, bx0_10.out, x1_10.out, bx1_10.out⟩
    have hK11 : Hid (∀ W W' : World, (AtC W w6.heap.size (.int .i64 n0) (.slice Ax0 xs0.length cx0) ∧ AtC W w.heap.size (.int .i64 n0) (.slice A0 xs0.length k0) ∧ Hid (Below w2.heap.size w2 W ∧ AtC W w.heap.size (.int .i64 n0) (.slice A0 xs0.length k0) ∧ AtC W w1.heap.size (.int .i64 n1) (.slice A1 xs1.length k1) ∧ OwnV 3 W w5.heap.size (.slice Ax0 xs0.length cx0) (ints xs0) ∧ AtC W w6.heap.size (.int .i64 n0) (.slice Ax0 xs0.length cx0) ∧ OwnV 3 W w7.heap.size (.slice Ax1 xs1.length cx1) (ints xs1) ∧ AtC W w8.heap.size (.int .i64 n1) (.slice Ax1 xs1.length cx1))) → Below W.heap.size W W' → (AtC W' w6.heap.size (.int .i64 n0) (.slice Ax0 xs0.length cx0) ∧ AtC W' w.heap.size (.int .i64 n0) (.slice A0 xs0.length k0) ∧ Hid (Below w2.heap.size w2 W' ∧ AtC W' w.heap.size (.int .i64 n0) (.slice A0 xs0.length k0) ∧ AtC W' w1.heap.size (.int .i64 n1) (.slice A1 xs1.length k1) ∧ OwnV 3 W' w5.heap.size (.slice Ax0 xs0.length cx0) (ints xs0) ∧ AtC W' w6.heap.size (.int .i64 n0) (.slice Ax0 xs0.length cx0) ∧ OwnV 3 W' w7.heap.size (.slice Ax1 xs1.length cx1) (ints xs1) ∧ AtC W' w8.heap.size (.int .i64 n1) (.slice Ax1 xs1.length cx1)))) := fun W W' h k => ⟨h.1.to k, h.2.1.to k, nxt h.2.2.1 k, AtC.to h.2.2.2.1 k, AtC.to h.2.2.2.2.1 k, own_below h.2.2.2.2.2.1 k, AtC.to h.2.2.2.2.2.2.1 k, own_below h.2.2.2.2.2.2.2.1 k, AtC.to h.2.2.2.2.2.2.2.2 k⟩
    go_wp2
    go_region_held3 (fun W => ((W.cell? ⟨w6.heap.size, 0, none⟩ = some (.int .i64 n0) ∧ W.cell? ⟨w6.heap.size, 1, none⟩ = some (.slice Ax0 xs0.length cx0)) ∧ (W.cell? ⟨w.heap.size, 0, none⟩ = some (.int .i64 n0) ∧ W.cell? ⟨w.heap.size, 1, none⟩ = some (.slice A0 xs0.length k0)) ∧ Hid (Below w2.heap.size w2 W ∧ AtC W w.heap.size (.int .i64 n0) (.slice A0 xs0.length k0) ∧ AtC W w1.heap.size (.int .i64 n1) (.slice A1 xs1.length k1) ∧ OwnV 3 W w5.heap.size (.slice Ax0 xs0.length cx0) (ints xs0) ∧ AtC W w6.heap.size (.int .i64 n0) (.slice Ax0 xs0.length cx0) ∧ OwnV 3 W w7.heap.size (.slice Ax1 xs1.length cx1) (ints xs1) ∧ AtC W w8.heap.size (.int .i64 n1) (.slice Ax1 xs1.length cx1)))) (first | exact ⟨⟨vbx0_10_0, vbx0_10_1⟩, ⟨vp0_10_0, vp0_10_1⟩, Sx11⟩ | exact hK11.out _ _ (by assumption) (by assumption) | go_keep) (first | (go_at_call 17; refine (toComplex_any n0 _ xs0 _ (by rename_i hS _ _; exact now_ Rd0.out hS.2.2.1) (by omega)).mono ?_; rintro e wq11 ⟨vq, rfl, oq, bq⟩) | (go_at_call 19; refine (eqComplex_same n0 _ _ xs0 _ (by rename_i hS _ _; exact own_reads hS.2.2.2.2.2.1) (own_reads (by assumption)) (by omega)).mono ?_; rintro e w11 ⟨rfl, bq⟩))
    rename_i hSS
    have hC := hSS.2.2
    clear vp0_10_0 vp0_10_1 vp1_10_0 vp1_10_1 vbx0_10_0 vbx0_10_1 vbx1_10_0 vbx1_10_1
    have c_11 : Hid (Below w2.heap.size w2 w11) := hC.1
    have p0_11 : Hid (AtC w11 w.heap.size (.int .i64 n0) (.slice A0 xs0.length k0)) := hC.2.1
    have p1_11 : Hid (AtC w11 w1.heap.size (.int .i64 n1) (.slice A1 xs1.length k1)) := hC.2.2.1
    have x0_11 : Hid (OwnV 3 w11 w5.heap.size (.slice Ax0 xs0.length cx0) (ints xs0)) := hC.2.2.2.1
    have bx0_11 : Hid (AtC w11 w6.heap.size (.int .i64 n0) (.slice Ax0 xs0.length cx0)) := hC.2.2.2.2.1
    have x1_11 : Hid (OwnV 3 w11 w7.heap.size (.slice Ax1 xs1.length cx1) (ints xs1)) := hC.2.2.2.2.2.1
    have bx1_11 : Hid (AtC w11 w8.heap.size (.int .i64 n1) (.slice Ax1 xs1.length cx1)) := hC.2.2.2.2.2.2
    clear c_10 p0_10 p1_10 x0_10 bx0_10 x1_10 bx1_10 hC hSS Sx11 hK11
    obtain ⟨vp0_11_0, vp0_11_1⟩ := p0_11.out
    obtain ⟨vp1_11_0, vp1_11_1⟩ := p1_11.out
    obtain ⟨vbx0_11_0, vbx0_11_1⟩ := bx0_11.out
    obtain ⟨vbx1_11_0, vbx1_11_1⟩ := bx1_11.out
    have Sx12 : Hid (Below w2.heap.size w2 w11.drew ∧ AtC w11.drew w.heap.size (.int .i64 n0) (.slice A0 xs0.length k0) ∧ AtC w11.drew w1.heap.size (.int .i64 n1) (.slice A1 xs1.length k1) ∧ OwnV 3 w11.drew w5.heap.size (.slice Ax0 xs0.length cx0) (ints xs0) ∧ AtC w11.drew w6.heap.size (.int .i64 n0) (.slice Ax0 xs0.length cx0) ∧ OwnV 3 w11.drew w7.heap.size (.slice Ax1 xs1.length cx1) (ints xs1) ∧ AtC w11.drew w8.heap.size (.int .i64 n1) (.slice Ax1 xs1.length cx1)) := ⟨(c_11.out).drew, p0_11.out, p1_11.out, x0_11.out, bx0_11.out, x1_11.out, bx1_11.out⟩
    have hK12 : Hid (∀ W W' : World, (AtC W w8.heap.size (.int .i64 n1) (.slice Ax1 xs1.length cx1) ∧ AtC W w1.heap.size (.int .i64 n1) (.slice A1 xs1.length k1) ∧ Hid (Below w2.heap.size w2 W ∧ AtC W w.heap.size (.int .i64 n0) (.slice A0 xs0.length k0) ∧ AtC W w1.heap.size (.int .i64 n1) (.slice A1 xs1.length k1) ∧ OwnV 3 W w5.heap.size (.slice Ax0 xs0.length cx0) (ints xs0) ∧ AtC W w6.heap.size (.int .i64 n0) (.slice Ax0 xs0.length cx0) ∧ OwnV 3 W w7.heap.size (.slice Ax1 xs1.length cx1) (ints xs1) ∧ AtC W w8.heap.size (.int .i64 n1) (.slice Ax1 xs1.length cx1))) → Below W.heap.size W W' → (AtC W' w8.heap.size (.int .i64 n1) (.slice Ax1 xs1.length cx1) ∧ AtC W' w1.heap.size (.int .i64 n1) (.slice A1 xs1.length k1) ∧ Hid (Below w2.heap.size w2 W' ∧ AtC W' w.heap.size (.int .i64 n0) (.slice A0 xs0.length k0) ∧ AtC W' w1.heap.size (.int .i64 n1) (.slice A1 xs1.length k1) ∧ OwnV 3 W' w5.heap.size (.slice Ax0 xs0.length cx0) (ints xs0) ∧ AtC W' w6.heap.size (.int .i64 n0) (.slice Ax0 xs0.length cx0) ∧ OwnV 3 W' w7.heap.size (.slice Ax1 xs1.length cx1) (ints xs1) ∧ AtC W' w8.heap.size (.int .i64 n1) (.slice Ax1 xs1.length cx1)))) := fun W W' h k => ⟨h.1.to k, h.2.1.to k, nxt h.2.2.1 k, AtC.to h.2.2.2.1 k, AtC.to h.2.2.2.2.1 k, own_below h.2.2.2.2.2.1 k, AtC.to h.2.2.2.2.2.2.1 k, own_below h.2.2.2.2.2.2.2.1 k, AtC.to h.2.2.2.2.2.2.2.2 k⟩
    go_wp2
    go_region_held3 (fun W => ((W.cell? ⟨w8.heap.size, 0, none⟩ = some (.int .i64 n1) ∧ W.cell? ⟨w8.heap.size, 1, none⟩ = some (.slice Ax1 xs1.length cx1)) ∧ (W.cell? ⟨w1.heap.size, 0, none⟩ = some (.int .i64 n1) ∧ W.cell? ⟨w1.heap.size, 1, none⟩ = some (.slice A1 xs1.length k1)) ∧ Hid (Below w2.heap.size w2 W ∧ AtC W w.heap.size (.int .i64 n0) (.slice A0 xs0.length k0) ∧ AtC W w1.heap.size (.int .i64 n1) (.slice A1 xs1.length k1) ∧ OwnV 3 W w5.heap.size (.slice Ax0 xs0.length cx0) (ints xs0) ∧ AtC W w6.heap.size (.int .i64 n0) (.slice Ax0 xs0.length cx0) ∧ OwnV 3 W w7.heap.size (.slice Ax1 xs1.length cx1) (ints xs1) ∧ AtC W w8.heap.size (.int .i64 n1) (.slice Ax1 xs1.length cx1)))) (first | exact ⟨⟨vbx1_11_0, vbx1_11_1⟩, ⟨vp1_11_0, vp1_11_1⟩, Sx12⟩ | exact hK12.out _ _ (by assumption) (by assumption) | go_keep) (first | (go_at_call 17; refine (toComplex_any n1 _ xs1 _ (by rename_i hS _ _; exact now_ Rd1.out hS.2.2.1) (by omega)).mono ?_; rintro e wq12 ⟨vq, rfl, oq, bq⟩) | (go_at_call 19; refine (eqComplex_same n1 _ _ xs1 _ (by rename_i hS _ _; exact own_reads hS.2.2.2.2.2.2.2.1) (own_reads (by assumption)) (by omega)).mono ?_; rintro e w12 ⟨rfl, bq⟩))
    rename_i hSS
    have hC := hSS.2.2
    clear vp0_11_0 vp0_11_1 vp1_11_0 vp1_11_1 vbx0_11_0 vbx0_11_1 vbx1_11_0 vbx1_11_1
    have c_12 : Hid (Below w2.heap.size w2 w12) := hC.1
    have p0_12 : Hid (AtC w12 w.heap.size (.int .i64 n0) (.slice A0 xs0.length k0)) := hC.2.1
    have p1_12 : Hid (AtC w12 w1.heap.size (.int .i64 n1) (.slice A1 xs1.length k1)) := hC.2.2.1
    have x0_12 : Hid (OwnV 3 w12 w5.heap.size (.slice Ax0 xs0.length cx0) (ints xs0)) := hC.2.2.2.1
    have bx0_12 : Hid (AtC w12 w6.heap.size (.int .i64 n0) (.slice Ax0 xs0.length cx0)) := hC.2.2.2.2.1
    have x1_12 : Hid (OwnV 3 w12 w7.heap.size (.slice Ax1 xs1.length cx1) (ints xs1)) := hC.2.2.2.2.2.1
    have bx1_12 : Hid (AtC w12 w8.heap.size (.int .i64 n1) (.slice Ax1 xs1.length cx1)) := hC.2.2.2.2.2.2
    clear c_11 p0_11 p1_11 x0_11 bx0_11 x1_11 bx1_11 hC hSS Sx12 hK12
    obtain ⟨vp0_12_0, vp0_12_1⟩ := p0_12.out
    obtain ⟨vp1_12_0, vp1_12_1⟩ := p1_12.out
    obtain ⟨vbx0_12_0, vbx0_12_1⟩ := bx0_12.out
    obtain ⟨vbx1_12_0, vbx1_12_1⟩ := bx1_12.out
    go_wp2
    go_ret
    have Z1 := Z1.out
    have Z2 := Z2.out
    exact ⟨rfl, B1.out.trans (c_12.out.mono (by omega))⟩)

set_option maxRecDepth 100000 in
theorem lifted_FnExactEqualComplex (os : Os) (started : os.Started) (H : Type) (enc : TypeId × Value → H) :
    ReturnsInHanded {} Try.checked os 3 .any (Rows.fnExactEqualComplexSpec.pre6 enc Try.prog Try.f3 Rows.fnExactEqualComplexRow.domain false) (Rows.fnExactEqualComplexSpec.post enc Try.prog Try.f3 false true false false) := by
  refine returnsInHanded_of_change (C := Try.checked) own started (by kernel_rfl) Try.func3
    (ChangeSpec.witness6 (enc := enc) (C := Try.checked) false ⟨#[], #[.agg #[.int .i64 0, .slice none 0 0], .agg #[.int .i64 0, .slice none 0 0]], []⟩ 8 (by kernel_rfl) (by kernel_rfl) (by kernel_rfl) (by kernel_rfl)) ?_
  intro W base args ds gs before hval0 hW hcnd _
  have hval : ∀ (j : Nat) t v, Try.f3.params[j]? = some t → args[j]? = some v → Value.okWide Try.prog W .any base t v := hval0
  have hW' := hW
  obtain ⟨p, q, hA0, hV, rfl, hfz, hnd⟩ := hW
  have hA : DataW.TrodAll enc Try.prog W 0 (fun _ => true) true Try.f3.params.toList args.toList ds p := hA0
  rw [Try.params3] at hA hval
  have hB := fun W' => back_all (enc := enc) (W' := W') laidOut _ _ _ _ (show AllR Try.prog [24, 24] from ⟨⟨by kernel_rfl, of_decide_eq_true (by kernel_rfl)⟩, ⟨⟨by kernel_rfl, of_decide_eq_true (by kernel_rfl)⟩, trivial⟩⟩) hA
  obtain ⟨v0, vs0, d0, ds0, p0, q0, hargs, rfl, rfl, h0, r0⟩ := trodAll_cons hA
  obtain ⟨v1, vs1, d1, ds1, p1, q1, rfl, rfl, rfl, h1, r1⟩ := trodAll_cons r0
  obtain ⟨rfl, rfl, rfl⟩ := trodAll_nil r1
  obtain rfl : args = #[v0, v1] := by cases args; simp_all
  obtain ⟨rfl, rfl⟩ := trodVars_none hV
  obtain ⟨n0, u0, xs0, rfl, rd0, bl0, bn0, bx0⟩ := openComplex Try.underlying24 (by kernel_rfl) (by kernel_rfl) Try.underlying3 Try.underlying22 Try.underlying3 (by kernel_rfl) (hval 0 24 v0 rfl rfl) h0
  obtain ⟨n1, u1, xs1, rfl, rd1, bl1, bn1, bx1⟩ := openComplex Try.underlying24 (by kernel_rfl) (by kernel_rfl) Try.underlying3 Try.underlying22 Try.underlying3 (by kernel_rfl) (hval 1 24 v1 rfl rfl) h1
  clear hA0 hval0
  refine (walk_FnExactEqualComplex W n0 u0 xs0 rd0 bl0 bn0 bx0 n1 u1 xs1 rd1 bl1 bn1 bx1).mono fun e W' ⟨he, bel⟩ => ?_
  subst he
  exact ⟨_, rfl, _, _, _, [], _, [], hW', trodAll_mk1 (shut_bool Try.underlying4 _), hB W' bel, rfl, bel.frame _, fun h => by cases h⟩

theorem FnExactEqualComplex_holds : Rows.FnExactEqualComplexSaid :=
  OpenClaim.holds_of_wide 3 Try.f3 rfl rfl rfl rfl rfl rfl rfl ⟨rfl, rfl, rfl, rfl, rfl⟩ rfl rfl rfl rfl rfl (by kernel_rfl) Try.func3 (by kernel_rfl)
    (of_decide_eq_true (by kernel_rfl)) (by unfold Func.isWrapper; first | (rw [if_pos (by decide +kernel)]; kernel_rfl) | (rw [if_neg (by decide +kernel)]; exact ⟨rfl, rfl⟩))
    (fun os started H enc _ => lifted_FnExactEqualComplex os started H enc)
end Go.Proofs.Ytjbojjjajnoidab
