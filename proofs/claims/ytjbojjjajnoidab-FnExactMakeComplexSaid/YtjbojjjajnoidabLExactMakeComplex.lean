/- The law FnExactMakeComplex. No condition. -/
import Derived.Test.YtjbojjjajnoidabW15
import Derived.Test.YtjbojjjajnoidabBox
import Derived.Test.YtjbojjjajnoidabOpen
namespace Go.Proofs.Ytjbojjjajnoidab
open Go.ChangeShapes Go.WideShapes Go.ChangeAt Go.RowKit
open Go.ChangeMaps (open_string shut_string)
set_option linter.unusedVariables false

theorem both_FnExactMakeComplex (a : Int) (bd : -9223372036854775808 ≤ a ∧ a ≤ 9223372036854775807) (xs : List Int) (hl : xs.length ≤ 1048576) (bx : ∀ x ∈ xs, -9223372036854775808 ≤ x ∧ x ≤ 9223372036854775807) : ∃ (N : Int) (XS : List Int) (B : Bool), XS.length ≤ 1073741824 ∧
    (∀ (W : World) (u : Value), IntsAt W W.heap.size u xs → Calls Try.prog 42 #[.int .i64 a, u] W fun e w' => RetCB 3 W N XS B e w') ∧
    (∀ (W : World) (u : Value), IntsAt W W.heap.size u xs → Calls Try.prog 44 #[.int .i64 a, u] W fun e w' => RetCB 3 W N XS B e w') :=
  ⟨mkN a xs, mkXs a xs, okSets a xs, Nat.le_trans (mkXs_len a xs) (by omega), fun W u h => makeComplexS a u xs W h (by omega), fun W u h => makeComplexI a u xs W h (by omega)⟩

theorem walk_FnExactMakeComplex (w : World) (a0 : Int) (bd0 : -9223372036854775808 ≤ a0 ∧ a0 ≤ 9223372036854775807) (v1 : Value) (xs1 : List Int) (rd1 : IntsAt w w.heap.size v1 xs1) (bl1 : xs1.length ≤ 9223372036854775807) (bx1 : ∀ x ∈ xs1, -9223372036854775808 ≤ x ∧ x ≤ 9223372036854775807) : Calls Try.prog 14 #[.int .i64 a0, v1] w fun e w' => RetB w true e w' := by
  obtain ⟨A1, k1, rfl⟩ := reads_shape rd1
  by_cases hgd : 1048576 < xs1.length
  · go_enter Try.func14, Try.ntmps14
    go_wp2
    go_ret
    exact ⟨rfl, Below.refl _ _⟩
  have hgd2 : xs1.length ≤ 1048576 := by omega
  have Rd1 := hide rd1
  clear rd1 hgd
  obtain ⟨N, XS, B, hXl, hS, hI⟩ := both_FnExactMakeComplex a0 bd0 xs1 hgd2 bx1
  go_enter Try.func14, Try.ntmps14
  have c_0 : Hid (Below w.heap.size w w) := Below.refl _ _
  go_wp2_with fail
  refine (toIntS_any _ xs1 w (now_ Rd1.out c_0.out) (by omega)).mono ?_
  rintro e w1 ⟨vt, rfl, ot, b1⟩
  have c_1 : Hid (Below w.heap.size w w1) := b1
  clear c_0
  go_wp2_with fail
  have z_c_W : Hid (w.heap.size ≤ w1.heap.size) := c_1.out.size
  refine (hS w1 _ (own_reads ot)).mono ?_
  rintro e w2 ⟨vW, rfl, oW, b2⟩
  have c_2 : Hid (Below w.heap.size w w2) := nxt c_1.out b2
  clear c_1
  obtain ⟨AW, cW, rfl⟩ := own_shape oW
  have W_2 : Hid (OwnV 3 w2 w1.heap.size (.slice AW XS.length cW) (ints XS)) := oW
  clear oW b2
  have lt_W_bW : Hid (∀ j, Value.ownBlock (.slice AW XS.length cW) = some j → j < w2.heap.size) := fun j hj => (own_block W_2.out j hj).2
  obtain ⟨w3, hW3, atbW, b3, z3⟩ := boxC w2 (.int .i64 N) (.slice AW XS.length cW) 27
  have c_3 : Hid (Below w.heap.size w w3) := nxt c_2.out b3
  have W_3 : Hid (OwnV 3 w3 w1.heap.size (.slice AW XS.length cW) (ints XS)) := own_below W_2.out b3
  clear c_2 W_2
  have bW_3 : Hid (AtC w3 w2.heap.size (.int .i64 N) (.slice AW XS.length cW)) := atbW
  obtain ⟨vbW_3_0, vbW_3_1⟩ := bW_3.out
  clear atbW b3
  go_wp2_with fail
  clear hW3
  have lt_W_x : Hid (∀ j, Value.ownBlock (.slice AW XS.length cW) = some j → j < w3.heap.size) := fun j hj => (own_block W_3.out j hj).2
  have z_c_x : Hid (w.heap.size ≤ w3.heap.size) := c_3.out.size
  have bl_bW_x : Hid (w2.heap.size < w3.heap.size) := bW_3.out.lt
  refine (toIntS_any _ xs1 w3 (now_ Rd1.out c_3.out) (by omega)).mono ?_
  rintro e w4 ⟨vx, rfl, ox, b4⟩
  clear vbW_3_0 vbW_3_1
  have c_4 : Hid (Below w.heap.size w w4) := nxt c_3.out b4
  have W_4 : Hid (OwnV 3 w4 w1.heap.size (.slice AW XS.length cW) (ints XS)) := own_below W_3.out b4
  have bW_4 : Hid (AtC w4 w2.heap.size (.int .i64 N) (.slice AW XS.length cW)) := AtC.to bW_3.out b4
  clear c_3 W_3 bW_3
  obtain ⟨vbW_4_0, vbW_4_1⟩ := bW_4.out
  obtain ⟨Ax, cx, rfl⟩ := own_shape ox
  have x_4 : Hid (OwnV 3 w4 w3.heap.size (.slice Ax xs1.length cx) (ints xs1)) := ox
  clear ox b4
  go_wp2_with fail
  have lt_W_G : Hid (∀ j, Value.ownBlock (.slice AW XS.length cW) = some j → j < w4.heap.size) := fun j hj => (own_block W_4.out j hj).2
  have lt_x_G : Hid (∀ j, Value.ownBlock (.slice Ax xs1.length cx) = some j → j < w4.heap.size) := fun j hj => (own_block x_4.out j hj).2
  have z_c_G : Hid (w.heap.size ≤ w4.heap.size) := c_4.out.size
  have bl_bW_G : Hid (w2.heap.size < w4.heap.size) := bW_4.out.lt
  refine (hI w4 _ (own_reads x_4.out)).mono ?_
  rintro e w5 ⟨vG, rfl, oG, b5⟩
  clear vbW_4_0 vbW_4_1
  have c_5 : Hid (Below w.heap.size w w5) := nxt c_4.out b5
  have W_5 : Hid (OwnV 3 w5 w1.heap.size (.slice AW XS.length cW) (ints XS)) := own_below W_4.out b5
  have bW_5 : Hid (AtC w5 w2.heap.size (.int .i64 N) (.slice AW XS.length cW)) := AtC.to bW_4.out b5
  have x_5 : Hid (OwnV 3 w5 w3.heap.size (.slice Ax xs1.length cx) (ints xs1)) := own_below x_4.out b5
  clear c_4 W_4 bW_4 x_4
  obtain ⟨vbW_5_0, vbW_5_1⟩ := bW_5.out
  obtain ⟨AG, cG, rfl⟩ := own_shape oG
  have G_5 : Hid (OwnV 3 w5 w4.heap.size (.slice AG XS.length cG) (ints XS)) := oG
  clear oG b5
  have lt_W_bG : Hid (∀ j, Value.ownBlock (.slice AW XS.length cW) = some j → j < w5.heap.size) := fun j hj => (own_block W_5.out j hj).2
  have lt_x_bG : Hid (∀ j, Value.ownBlock (.slice Ax xs1.length cx) = some j → j < w5.heap.size) := fun j hj => (own_block x_5.out j hj).2
  have lt_G_bG : Hid (∀ j, Value.ownBlock (.slice AG XS.length cG) = some j → j < w5.heap.size) := fun j hj => (own_block G_5.out j hj).2
  obtain ⟨w6, hW6, atbG, b6, z6⟩ := boxC w5 (.int .i64 N) (.slice AG XS.length cG) 27
  have c_6 : Hid (Below w.heap.size w w6) := nxt c_5.out b6
  have W_6 : Hid (OwnV 3 w6 w1.heap.size (.slice AW XS.length cW) (ints XS)) := own_below W_5.out b6
  have bW_6 : Hid (AtC w6 w2.heap.size (.int .i64 N) (.slice AW XS.length cW)) := AtC.to bW_5.out b6
  have x_6 : Hid (OwnV 3 w6 w3.heap.size (.slice Ax xs1.length cx) (ints xs1)) := own_below x_5.out b6
  have G_6 : Hid (OwnV 3 w6 w4.heap.size (.slice AG XS.length cG) (ints XS)) := own_below G_5.out b6
  clear c_5 W_5 bW_5 x_5 G_5
  obtain ⟨vbW_6_0, vbW_6_1⟩ := bW_6.out
  have bG_6 : Hid (AtC w6 w5.heap.size (.int .i64 N) (.slice AG XS.length cG)) := atbG
  obtain ⟨vbG_6_0, vbG_6_1⟩ := bG_6.out
  clear atbG b6
  have hne : (B != B) = false := by simp
  go_wp2_with fail
  clear vbW_5_0 vbW_5_1 hW6
  refine (eqComplex_same N _ _ XS w6 (own_reads G_6.out) (own_reads W_6.out) (by omega)).mono ?_
  rintro e w7 ⟨rfl, b7⟩
  clear vbW_6_0 vbW_6_1 vbG_6_0 vbG_6_1
  have c_7 : Hid (Below w.heap.size w w7) := nxt c_6.out b7
  have W_7 : Hid (OwnV 3 w7 w1.heap.size (.slice AW XS.length cW) (ints XS)) := own_below W_6.out b7
  have bW_7 : Hid (AtC w7 w2.heap.size (.int .i64 N) (.slice AW XS.length cW)) := AtC.to bW_6.out b7
  have x_7 : Hid (OwnV 3 w7 w3.heap.size (.slice Ax xs1.length cx) (ints xs1)) := own_below x_6.out b7
  have G_7 : Hid (OwnV 3 w7 w4.heap.size (.slice AG XS.length cG) (ints XS)) := own_below G_6.out b7
  have bG_7 : Hid (AtC w7 w5.heap.size (.int .i64 N) (.slice AG XS.length cG)) := AtC.to bG_6.out b7
  clear c_6 W_6 bW_6 x_6 G_6 bG_6
  obtain ⟨vbW_7_0, vbW_7_1⟩ := bW_7.out
  obtain ⟨vbG_7_0, vbG_7_1⟩ := bG_7.out
  clear b7
  go_wp2_with fail
  refine (toIntS_any _ xs1 w7 (now_ Rd1.out c_7.out) (by omega)).mono ?_
  rintro e w8 ⟨vtx, rfl, otx, b8⟩
  clear vbW_7_0 vbW_7_1 vbG_7_0 vbG_7_1
  have c_8 : Hid (Below w.heap.size w w8) := nxt c_7.out b8
  have W_8 : Hid (OwnV 3 w8 w1.heap.size (.slice AW XS.length cW) (ints XS)) := own_below W_7.out b8
  have bW_8 : Hid (AtC w8 w2.heap.size (.int .i64 N) (.slice AW XS.length cW)) := AtC.to bW_7.out b8
  have x_8 : Hid (OwnV 3 w8 w3.heap.size (.slice Ax xs1.length cx) (ints xs1)) := own_below x_7.out b8
  have G_8 : Hid (OwnV 3 w8 w4.heap.size (.slice AG XS.length cG) (ints XS)) := own_below G_7.out b8
  have bG_8 : Hid (AtC w8 w5.heap.size (.int .i64 N) (.slice AG XS.length cG)) := AtC.to bG_7.out b8
  clear c_7 W_7 bW_7 x_7 G_7 bG_7
  obtain ⟨vbW_8_0, vbW_8_1⟩ := bW_8.out
  obtain ⟨vbG_8_0, vbG_8_1⟩ := bG_8.out
  go_wp2_with fail
  refine (eqIntS_same _ _ xs1 w8 (own_reads x_8.out) (own_reads otx) (by omega)).mono ?_
  rintro e w9 ⟨rfl, b9⟩
  clear vbW_8_0 vbW_8_1 vbG_8_0 vbG_8_1
  have c_9 : Hid (Below w.heap.size w w9) := nxt c_8.out b9
  have W_9 : Hid (OwnV 3 w9 w1.heap.size (.slice AW XS.length cW) (ints XS)) := own_below W_8.out b9
  have bW_9 : Hid (AtC w9 w2.heap.size (.int .i64 N) (.slice AW XS.length cW)) := AtC.to bW_8.out b9
  have x_9 : Hid (OwnV 3 w9 w3.heap.size (.slice Ax xs1.length cx) (ints xs1)) := own_below x_8.out b9
  have G_9 : Hid (OwnV 3 w9 w4.heap.size (.slice AG XS.length cG) (ints XS)) := own_below G_8.out b9
  have bG_9 : Hid (AtC w9 w5.heap.size (.int .i64 N) (.slice AG XS.length cG)) := AtC.to bG_8.out b9
  clear c_8 W_8 bW_8 x_8 G_8 bG_8
  obtain ⟨vbW_9_0, vbW_9_1⟩ := bW_9.out
  obtain ⟨vbG_9_0, vbG_9_1⟩ := bG_9.out
  clear b9
  go_wp2_with fail
  refine (markIntS_any _ xs1 1 w9 x_9.out (by omega) (by omega) (by omega)).mono ?_
  rintro e w10 ⟨rfl, oq10, g10⟩
  clear vbW_9_0 vbW_9_1 vbG_9_0 vbG_9_1
  have c_10 : Hid (Below w.heap.size w w10) := (c_9.out).trans (grown_below g10 (c_9.out).size (fun j hj => Nat.le_trans z_c_x.out (own_block x_9.out j hj).1))
  have W_10 : Hid (OwnV 3 w10 w1.heap.size (.slice AW XS.length cW) (ints XS)) := own_grown W_9.out g10 (fun j hj e => by have h1 := lt_W_x.out j hj; have h2 := (own_block x_9.out j e).1; omega)
  have bW_10 : Hid (AtC w10 w2.heap.size (.int .i64 N) (.slice AW XS.length cW)) := AtC.grown bW_9.out g10 (fun e => by have h1 := bl_bW_x.out; have h2 := (own_block x_9.out _ e).1; omega)
  have G_10 : Hid (OwnV 3 w10 w4.heap.size (.slice AG XS.length cG) (ints XS)) := own_grown G_9.out g10 (fun j hj e => by have h1 := (own_block G_9.out j hj).1; have h2 := lt_x_G.out j e; omega)
  have bG_10 : Hid (AtC w10 w5.heap.size (.int .i64 N) (.slice AG XS.length cG)) := AtC.grown bG_9.out g10 (fun e => by have h1 := lt_x_bG.out _ e; omega)
  have x_10 : Hid (OwnV 3 w10 w3.heap.size (.slice Ax xs1.length cx) (ints (marks 1 xs1.length))) := oq10
  clear c_9 W_9 bW_9 x_9 G_9 bG_9 oq10 g10
  obtain ⟨vbW_10_0, vbW_10_1⟩ := bW_10.out
  obtain ⟨vbG_10_0, vbG_10_1⟩ := bG_10.out
  go_wp2_with fail
  refine (eqComplex_same N _ _ XS w10 (own_reads G_10.out) (own_reads W_10.out) (by omega)).mono ?_
  rintro e w11 ⟨rfl, b11⟩
  clear vbW_10_0 vbW_10_1 vbG_10_0 vbG_10_1
  have c_11 : Hid (Below w.heap.size w w11) := nxt c_10.out b11
  have W_11 : Hid (OwnV 3 w11 w1.heap.size (.slice AW XS.length cW) (ints XS)) := own_below W_10.out b11
  have bW_11 : Hid (AtC w11 w2.heap.size (.int .i64 N) (.slice AW XS.length cW)) := AtC.to bW_10.out b11
  have x_11 : Hid (OwnV 3 w11 w3.heap.size (.slice Ax xs1.length cx) (ints (marks 1 xs1.length))) := own_below x_10.out b11
  have G_11 : Hid (OwnV 3 w11 w4.heap.size (.slice AG XS.length cG) (ints XS)) := own_below G_10.out b11
  have bG_11 : Hid (AtC w11 w5.heap.size (.int .i64 N) (.slice AG XS.length cG)) := AtC.to bG_10.out b11
  clear c_10 W_10 bW_10 x_10 G_10 bG_10
  obtain ⟨vbW_11_0, vbW_11_1⟩ := bW_11.out
  obtain ⟨vbG_11_0, vbG_11_1⟩ := bG_11.out
  clear b11
  go_wp2_with fail
  refine (markComplex_any N _ XS 1 w11 G_11.out (by omega) (by omega) (by omega)).mono ?_
  rintro e w12 ⟨rfl, oq12, g12⟩
  clear vbW_11_0 vbW_11_1 vbG_11_0 vbG_11_1
  have c_12 : Hid (Below w.heap.size w w12) := (c_11.out).trans (grown_below g12 (c_11.out).size (fun j hj => Nat.le_trans z_c_G.out (own_block G_11.out j hj).1))
  have W_12 : Hid (OwnV 3 w12 w1.heap.size (.slice AW XS.length cW) (ints XS)) := own_grown W_11.out g12 (fun j hj e => by have h1 := lt_W_G.out j hj; have h2 := (own_block G_11.out j e).1; omega)
  have bW_12 : Hid (AtC w12 w2.heap.size (.int .i64 N) (.slice AW XS.length cW)) := AtC.grown bW_11.out g12 (fun e => by have h1 := bl_bW_G.out; have h2 := (own_block G_11.out _ e).1; omega)
  have x_12 : Hid (OwnV 3 w12 w3.heap.size (.slice Ax xs1.length cx) (ints (marks 1 xs1.length))) := own_grown x_11.out g12 (fun j hj e => by have h1 := lt_x_G.out j hj; have h2 := (own_block G_11.out j e).1; omega)
  have bG_12 : Hid (AtC w12 w5.heap.size (.int .i64 N) (.slice AG XS.length cG)) := AtC.grown bG_11.out g12 (fun e => by have h1 := lt_G_bG.out _ e; omega)
  have G_12 : Hid (OwnV 3 w12 w4.heap.size (.slice AG XS.length cG) (ints (marks 1 XS.length))) := oq12
  clear c_11 W_11 bW_11 x_11 G_11 bG_11 oq12 g12
  obtain ⟨vbW_12_0, vbW_12_1⟩ := bW_12.out
  obtain ⟨vbG_12_0, vbG_12_1⟩ := bG_12.out
  go_wp2_with fail
  refine (heldComplex_yes N _ XS.length 1 w12 (own_reads G_12.out) (by omega) (by omega) (by omega)).mono ?_
  rintro e w13 ⟨rfl, b13⟩
  clear vbW_12_0 vbW_12_1 vbG_12_0 vbG_12_1
  have c_13 : Hid (Below w.heap.size w w13) := nxt c_12.out b13
  have W_13 : Hid (OwnV 3 w13 w1.heap.size (.slice AW XS.length cW) (ints XS)) := own_below W_12.out b13
  have bW_13 : Hid (AtC w13 w2.heap.size (.int .i64 N) (.slice AW XS.length cW)) := AtC.to bW_12.out b13
  have x_13 : Hid (OwnV 3 w13 w3.heap.size (.slice Ax xs1.length cx) (ints (marks 1 xs1.length))) := own_below x_12.out b13
  have G_13 : Hid (OwnV 3 w13 w4.heap.size (.slice AG XS.length cG) (ints (marks 1 XS.length))) := own_below G_12.out b13
  have bG_13 : Hid (AtC w13 w5.heap.size (.int .i64 N) (.slice AG XS.length cG)) := AtC.to bG_12.out b13
  clear c_12 W_12 bW_12 x_12 G_12 bG_12
  obtain ⟨vbW_13_0, vbW_13_1⟩ := bW_13.out
  obtain ⟨vbG_13_0, vbG_13_1⟩ := bG_13.out
  clear b13
  go_wp2_with fail
  refine (toIntS_any _ xs1 w13 (now_ Rd1.out c_13.out) (by omega)).mono ?_
  rintro e w14 ⟨vt2, rfl, ot2, b14⟩
  clear vbW_13_0 vbW_13_1 vbG_13_0 vbG_13_1
  have c_14 : Hid (Below w.heap.size w w14) := nxt c_13.out b14
  have W_14 : Hid (OwnV 3 w14 w1.heap.size (.slice AW XS.length cW) (ints XS)) := own_below W_13.out b14
  have bW_14 : Hid (AtC w14 w2.heap.size (.int .i64 N) (.slice AW XS.length cW)) := AtC.to bW_13.out b14
  have x_14 : Hid (OwnV 3 w14 w3.heap.size (.slice Ax xs1.length cx) (ints (marks 1 xs1.length))) := own_below x_13.out b14
  have G_14 : Hid (OwnV 3 w14 w4.heap.size (.slice AG XS.length cG) (ints (marks 1 XS.length))) := own_below G_13.out b14
  have bG_14 : Hid (AtC w14 w5.heap.size (.int .i64 N) (.slice AG XS.length cG)) := AtC.to bG_13.out b14
  clear c_13 W_13 bW_13 x_13 G_13 bG_13
  obtain ⟨vbW_14_0, vbW_14_1⟩ := bW_14.out
  obtain ⟨vbG_14_0, vbG_14_1⟩ := bG_14.out
  go_wp2_with fail
  have lt_W_H : Hid (∀ j, Value.ownBlock (.slice AW XS.length cW) = some j → j < w14.heap.size) := fun j hj => (own_block W_14.out j hj).2
  have lt_x_H : Hid (∀ j, Value.ownBlock (.slice Ax xs1.length cx) = some j → j < w14.heap.size) := fun j hj => (own_block x_14.out j hj).2
  have lt_G_H : Hid (∀ j, Value.ownBlock (.slice AG XS.length cG) = some j → j < w14.heap.size) := fun j hj => (own_block G_14.out j hj).2
  have z_c_H : Hid (w.heap.size ≤ w14.heap.size) := c_14.out.size
  have bl_bW_H : Hid (w2.heap.size < w14.heap.size) := bW_14.out.lt
  have bl_bG_H : Hid (w5.heap.size < w14.heap.size) := bG_14.out.lt
  refine (hI w14 _ (own_reads ot2)).mono ?_
  rintro e w15 ⟨vH, rfl, oH, b15⟩
  clear vbW_14_0 vbW_14_1 vbG_14_0 vbG_14_1
  have c_15 : Hid (Below w.heap.size w w15) := nxt c_14.out b15
  have W_15 : Hid (OwnV 3 w15 w1.heap.size (.slice AW XS.length cW) (ints XS)) := own_below W_14.out b15
  have bW_15 : Hid (AtC w15 w2.heap.size (.int .i64 N) (.slice AW XS.length cW)) := AtC.to bW_14.out b15
  have x_15 : Hid (OwnV 3 w15 w3.heap.size (.slice Ax xs1.length cx) (ints (marks 1 xs1.length))) := own_below x_14.out b15
  have G_15 : Hid (OwnV 3 w15 w4.heap.size (.slice AG XS.length cG) (ints (marks 1 XS.length))) := own_below G_14.out b15
  have bG_15 : Hid (AtC w15 w5.heap.size (.int .i64 N) (.slice AG XS.length cG)) := AtC.to bG_14.out b15
  clear c_14 W_14 bW_14 x_14 G_14 bG_14
  obtain ⟨vbW_15_0, vbW_15_1⟩ := bW_15.out
  obtain ⟨vbG_15_0, vbG_15_1⟩ := bG_15.out
  obtain ⟨AH, cH, rfl⟩ := own_shape oH
  have H_15 : Hid (OwnV 3 w15 w14.heap.size (.slice AH XS.length cH) (ints XS)) := oH
  clear oH b15
  have lt_W_bH : Hid (∀ j, Value.ownBlock (.slice AW XS.length cW) = some j → j < w15.heap.size) := fun j hj => (own_block W_15.out j hj).2
  have lt_x_bH : Hid (∀ j, Value.ownBlock (.slice Ax xs1.length cx) = some j → j < w15.heap.size) := fun j hj => (own_block x_15.out j hj).2
  have lt_G_bH : Hid (∀ j, Value.ownBlock (.slice AG XS.length cG) = some j → j < w15.heap.size) := fun j hj => (own_block G_15.out j hj).2
  have lt_H_bH : Hid (∀ j, Value.ownBlock (.slice AH XS.length cH) = some j → j < w15.heap.size) := fun j hj => (own_block H_15.out j hj).2
  obtain ⟨w16, hW16, atbH, b16, z16⟩ := boxC w15 (.int .i64 N) (.slice AH XS.length cH) 27
  have c_16 : Hid (Below w.heap.size w w16) := nxt c_15.out b16
  have W_16 : Hid (OwnV 3 w16 w1.heap.size (.slice AW XS.length cW) (ints XS)) := own_below W_15.out b16
  have bW_16 : Hid (AtC w16 w2.heap.size (.int .i64 N) (.slice AW XS.length cW)) := AtC.to bW_15.out b16
  have x_16 : Hid (OwnV 3 w16 w3.heap.size (.slice Ax xs1.length cx) (ints (marks 1 xs1.length))) := own_below x_15.out b16
  have G_16 : Hid (OwnV 3 w16 w4.heap.size (.slice AG XS.length cG) (ints (marks 1 XS.length))) := own_below G_15.out b16
  have bG_16 : Hid (AtC w16 w5.heap.size (.int .i64 N) (.slice AG XS.length cG)) := AtC.to bG_15.out b16
  have H_16 : Hid (OwnV 3 w16 w14.heap.size (.slice AH XS.length cH) (ints XS)) := own_below H_15.out b16
  clear c_15 W_15 bW_15 x_15 G_15 bG_15 H_15
  obtain ⟨vbW_16_0, vbW_16_1⟩ := bW_16.out
  obtain ⟨vbG_16_0, vbG_16_1⟩ := bG_16.out
  have bH_16 : Hid (AtC w16 w15.heap.size (.int .i64 N) (.slice AH XS.length cH)) := atbH
  obtain ⟨vbH_16_0, vbH_16_1⟩ := bH_16.out
  clear atbH b16
  go_wp2_with fail
  clear vbW_15_0 vbW_15_1 vbG_15_0 vbG_15_1 hW16
  refine (eqComplex_same N _ _ XS w16 (own_reads H_16.out) (own_reads W_16.out) (by omega)).mono ?_
  rintro e w17 ⟨rfl, b17⟩
  clear vbW_16_0 vbW_16_1 vbG_16_0 vbG_16_1 vbH_16_0 vbH_16_1
  have c_17 : Hid (Below w.heap.size w w17) := nxt c_16.out b17
  have W_17 : Hid (OwnV 3 w17 w1.heap.size (.slice AW XS.length cW) (ints XS)) := own_below W_16.out b17
  have bW_17 : Hid (AtC w17 w2.heap.size (.int .i64 N) (.slice AW XS.length cW)) := AtC.to bW_16.out b17
  have x_17 : Hid (OwnV 3 w17 w3.heap.size (.slice Ax xs1.length cx) (ints (marks 1 xs1.length))) := own_below x_16.out b17
  have G_17 : Hid (OwnV 3 w17 w4.heap.size (.slice AG XS.length cG) (ints (marks 1 XS.length))) := own_below G_16.out b17
  have bG_17 : Hid (AtC w17 w5.heap.size (.int .i64 N) (.slice AG XS.length cG)) := AtC.to bG_16.out b17
  have H_17 : Hid (OwnV 3 w17 w14.heap.size (.slice AH XS.length cH) (ints XS)) := own_below H_16.out b17
  have bH_17 : Hid (AtC w17 w15.heap.size (.int .i64 N) (.slice AH XS.length cH)) := AtC.to bH_16.out b17
  clear c_16 W_16 bW_16 x_16 G_16 bG_16 H_16 bH_16
  obtain ⟨vbW_17_0, vbW_17_1⟩ := bW_17.out
  obtain ⟨vbG_17_0, vbG_17_1⟩ := bG_17.out
  obtain ⟨vbH_17_0, vbH_17_1⟩ := bH_17.out
  clear b17
  go_wp2_with fail
  refine (heldComplex_yes N _ XS.length 1 w17 (own_reads G_17.out) (by omega) (by omega) (by omega)).mono ?_
  rintro e w18 ⟨rfl, b18⟩
  clear vbW_17_0 vbW_17_1 vbG_17_0 vbG_17_1 vbH_17_0 vbH_17_1
  have c_18 : Hid (Below w.heap.size w w18) := nxt c_17.out b18
  have W_18 : Hid (OwnV 3 w18 w1.heap.size (.slice AW XS.length cW) (ints XS)) := own_below W_17.out b18
  have bW_18 : Hid (AtC w18 w2.heap.size (.int .i64 N) (.slice AW XS.length cW)) := AtC.to bW_17.out b18
  have x_18 : Hid (OwnV 3 w18 w3.heap.size (.slice Ax xs1.length cx) (ints (marks 1 xs1.length))) := own_below x_17.out b18
  have G_18 : Hid (OwnV 3 w18 w4.heap.size (.slice AG XS.length cG) (ints (marks 1 XS.length))) := own_below G_17.out b18
  have bG_18 : Hid (AtC w18 w5.heap.size (.int .i64 N) (.slice AG XS.length cG)) := AtC.to bG_17.out b18
  have H_18 : Hid (OwnV 3 w18 w14.heap.size (.slice AH XS.length cH) (ints XS)) := own_below H_17.out b18
  have bH_18 : Hid (AtC w18 w15.heap.size (.int .i64 N) (.slice AH XS.length cH)) := AtC.to bH_17.out b18
  clear c_17 W_17 bW_17 x_17 G_17 bG_17 H_17 bH_17
  obtain ⟨vbW_18_0, vbW_18_1⟩ := bW_18.out
  obtain ⟨vbG_18_0, vbG_18_1⟩ := bG_18.out
  obtain ⟨vbH_18_0, vbH_18_1⟩ := bH_18.out
  clear b18
  go_wp2
  go_ret
  exact ⟨rfl, c_18.out⟩

set_option maxRecDepth 100000 in
theorem lifted_FnExactMakeComplex (os : Os) (started : os.Started) (H : Type) (enc : TypeId × Value → H) :
    ReturnsInHanded {} Try.checked os 14 .any (Rows.fnExactMakeComplexSpec.pre6 enc Try.prog Try.f14 Rows.fnExactMakeComplexRow.domain false) (Rows.fnExactMakeComplexSpec.post enc Try.prog Try.f14 false true false false) := by
  refine returnsInHanded_of_change (C := Try.checked) own started (by kernel_rfl) Try.func14
    (ChangeSpec.witness6 (enc := enc) (C := Try.checked) false ⟨#[], #[.int .i64 0, .slice none 0 0], []⟩ 8 (by kernel_rfl) (by kernel_rfl) (by kernel_rfl) (by kernel_rfl)) ?_
  intro W base args ds gs before hval0 hW hcnd _
  have hval : ∀ (j : Nat) t v, Try.f14.params[j]? = some t → args[j]? = some v → Value.okWide Try.prog W .any base t v := hval0
  have hW' := hW
  obtain ⟨p, q, hA0, hV, rfl, hfz, hnd⟩ := hW
  have hA : DataW.TrodAll enc Try.prog W 0 (fun _ => true) true Try.f14.params.toList args.toList ds p := hA0
  rw [Try.params14] at hA hval
  have hB := fun W' => back_all (enc := enc) (W' := W') laidOut _ _ _ _ (show AllR Try.prog [3, 22] from ⟨⟨by kernel_rfl, of_decide_eq_true (by kernel_rfl)⟩, ⟨⟨by kernel_rfl, of_decide_eq_true (by kernel_rfl)⟩, trivial⟩⟩) hA
  obtain ⟨v0, vs0, d0, ds0, p0, q0, hargs, rfl, rfl, h0, r0⟩ := trodAll_cons hA
  obtain ⟨v1, vs1, d1, ds1, p1, q1, rfl, rfl, rfl, h1, r1⟩ := trodAll_cons r0
  obtain ⟨rfl, rfl, rfl⟩ := trodAll_nil r1
  obtain rfl : args = #[v0, v1] := by cases args; simp_all
  obtain ⟨rfl, rfl⟩ := trodVars_none hV
  obtain ⟨a0, rfl, rfl, rfl, wf0⟩ := open_int Try.underlying3 (hval 0 3 v0 rfl rfl) h0
  have bd0 := wf_i64 wf0
  obtain ⟨xs1, rd1, bl1, bx1⟩ := openInts Try.underlying22 Try.underlying3 (by kernel_rfl) h1 (okWide_slice Try.underlying22 (hval 1 22 v1 rfl rfl))
  clear hA0 hval0
  refine (walk_FnExactMakeComplex W a0 bd0 v1 xs1 rd1 bl1 bx1).mono fun e W' ⟨he, bel⟩ => ?_
  subst he
  exact ⟨_, rfl, _, _, _, [], _, [], hW', trodAll_mk1 (shut_bool Try.underlying4 _), hB W' bel, rfl, bel.frame _, fun h => by cases h⟩

theorem FnExactMakeComplex_holds : Rows.FnExactMakeComplexSaid :=
  OpenClaim.holds_of_wide 14 Try.f14 rfl rfl rfl rfl rfl rfl rfl ⟨rfl, rfl, rfl, rfl, rfl⟩ rfl rfl rfl rfl rfl (by kernel_rfl) Try.func14 (by kernel_rfl)
    (of_decide_eq_true (by kernel_rfl)) (by unfold Func.isWrapper; first | (rw [if_pos (by decide +kernel)]; kernel_rfl) | (rw [if_neg (by decide +kernel)]; exact ⟨rfl, rfl⟩))
    (fun os started H enc _ => lifted_FnExactMakeComplex os started H enc)
end Go.Proofs.Ytjbojjjajnoidab
