/- The law FnExactConeOf. No condition. -/
import Derived.Test.YtmkacjpjcfffmabW4A
import Derived.Test.YtmkacjpjcfffmabBox
import Derived.Test.YtmkacjpjcfffmabOpen
namespace Go.Proofs.Ytmkacjpjcfffmab
open Go.ChangeShapes Go.WideShapes Go.ChangeAt Go.RowKit
open Go.ChangeMaps (open_string shut_string)
set_option linter.unusedVariables false

theorem both_FnExactConeOf (n : Int) (xs : List Int) (hl : xs.length ≤ 1048576) (bx : ∀ x ∈ xs, -9223372036854775808 ≤ x ∧ x ≤ 9223372036854775807) : ∃ (N : Int) (XS : List Int) (B : Bool), XS.length ≤ 1073741824 ∧
    (∀ (W : World) (u : Value), IntsAt W W.heap.size u xs → Calls Try.prog 33 #[.agg #[.int .i64 n, u]] W fun e w' => RetCB 3 W N XS B e w') ∧
    (∀ (W : World) (u : Value), IntsAt W W.heap.size u xs → Calls Try.prog 34 #[.agg #[.int .i64 n, u]] W fun e w' => RetCB 3 W N XS B e w') :=
  ⟨cbN (joinOk n 1 xs [1]) (n + 1), cbXs (joinOk n 1 xs [1]) (maxOf (faceP (zs (joinL n xs [1])))), joinOk n 1 xs [1], cbXs_len _ (maxOf_len _), fun W u h => coneOfS n u xs W h hl, fun W u h => coneOfI n u xs W h hl⟩

theorem walk_FnExactConeOf (w : World) (n0 : Int) (u0 : Value) (xs0 : List Int) (rd0 : IntsAt w w.heap.size u0 xs0) (bl0 : xs0.length ≤ 9223372036854775807) (bn0 : -9223372036854775808 ≤ n0 ∧ n0 ≤ 9223372036854775807) (bx0 : ∀ x ∈ xs0, -9223372036854775808 ≤ x ∧ x ≤ 9223372036854775807) : Calls Try.prog 10 #[.agg #[.int .i64 n0, u0]] w fun e w' => RetB w true e w' := by
  obtain ⟨A0, k0, rfl⟩ := reads_shape rd0
  obtain ⟨w1, hW1, at1, b1, z1⟩ := boxC w (.int .i64 n0) (.slice A0 xs0.length k0) 24
  have rp0 := now_ rd0 b1
  obtain ⟨e1_0, e1_1⟩ := at1
  by_cases hgd : 1048576 < xs0.length
  · go_enter Try.func10, Try.ntmps10
    go_wp2_with fail
    refine (szComplex_any n0 _ xs0 _ w1 rp0 (by omega) (by omega) (by omega)).mono ?_
    rw [if_pos (show (1048576 : Int) < xs0.length by omega)]
    rintro e w2 ⟨rfl, b2⟩
    have B := hide (nxt b1 b2)
    clear hW1
    go_wp2
    go_ret
    exact ⟨rfl, B.out⟩
  have hgd2 : xs0.length ≤ 1048576 := by omega
  have Rd0 := hide rp0
  have B1 := hide b1
  clear rd0 rp0 hgd b1
  obtain ⟨N, XS, B, hXl, hS, hI⟩ := both_FnExactConeOf n0 xs0 hgd2 bx0
  go_enter Try.func10, Try.ntmps10
  go_wp2_with fail
  clear hW1
  have c_1 : Hid (Below w1.heap.size w1 w1) := Below.refl _ _
  have p_1 : Hid (AtC w1 w.heap.size (.int .i64 n0) (.slice A0 xs0.length k0)) := ⟨e1_0, e1_1⟩
  obtain ⟨vp_1_0, vp_1_1⟩ := p_1.out
  clear e1_0 e1_1
  refine (szComplex_any n0 _ xs0 _ w1 Rd0.out (by omega) (by omega) (by omega)).mono ?_
  rw [if_neg (show ¬ (1048576 : Int) < xs0.length by omega)]
  rintro e w2 ⟨rfl, b2⟩
  clear vp_1_0 vp_1_1
  have c_2 : Hid (Below w1.heap.size w1 w2) := b2
  have p_2 : Hid (AtC w2 w.heap.size (.int .i64 n0) (.slice A0 xs0.length k0)) := AtC.to p_1.out b2
  clear c_1 p_1
  obtain ⟨vp_2_0, vp_2_1⟩ := p_2.out
  go_wp2_with fail
  refine (toComplex_any n0 _ xs0 w2 (now_ Rd0.out c_2.out) (by omega)).mono ?_
  rintro e w3 ⟨vt, rfl, ot, b3⟩
  clear vp_2_0 vp_2_1
  have c_3 : Hid (Below w1.heap.size w1 w3) := nxt c_2.out b3
  have p_3 : Hid (AtC w3 w.heap.size (.int .i64 n0) (.slice A0 xs0.length k0)) := AtC.to p_2.out b3
  clear c_2 p_2
  obtain ⟨vp_3_0, vp_3_1⟩ := p_3.out
  go_wp2_with fail
  have z_c_W : Hid (w1.heap.size ≤ w3.heap.size) := c_3.out.size
  have bl_p_W : Hid (w.heap.size < w3.heap.size) := p_3.out.lt
  refine (hS w3 _ (own_reads ot)).mono ?_
  rintro e w4 ⟨vW, rfl, oW, b4⟩
  clear vp_3_0 vp_3_1
  have c_4 : Hid (Below w1.heap.size w1 w4) := nxt c_3.out b4
  have p_4 : Hid (AtC w4 w.heap.size (.int .i64 n0) (.slice A0 xs0.length k0)) := AtC.to p_3.out b4
  clear c_3 p_3
  obtain ⟨vp_4_0, vp_4_1⟩ := p_4.out
  obtain ⟨AW, cW, rfl⟩ := own_shape oW
  have W_4 : Hid (OwnV 3 w4 w3.heap.size (.slice AW XS.length cW) (ints XS)) := oW
  clear oW b4
  have lt_W_bW : Hid (∀ j, Value.ownBlock (.slice AW XS.length cW) = some j → j < w4.heap.size) := fun j hj => (own_block W_4.out j hj).2
  obtain ⟨w5, hW5, atbW, b5, z5⟩ := boxC w4 (.int .i64 N) (.slice AW XS.length cW) 27
  have c_5 : Hid (Below w1.heap.size w1 w5) := nxt c_4.out b5
  have p_5 : Hid (AtC w5 w.heap.size (.int .i64 n0) (.slice A0 xs0.length k0)) := AtC.to p_4.out b5
  have W_5 : Hid (OwnV 3 w5 w3.heap.size (.slice AW XS.length cW) (ints XS)) := own_below W_4.out b5
  clear c_4 p_4 W_4
  obtain ⟨vp_5_0, vp_5_1⟩ := p_5.out
  have bW_5 : Hid (AtC w5 w4.heap.size (.int .i64 N) (.slice AW XS.length cW)) := atbW
  obtain ⟨vbW_5_0, vbW_5_1⟩ := bW_5.out
  clear atbW b5
  go_wp2_with fail
  clear vp_4_0 vp_4_1 hW5
  have lt_W_x : Hid (∀ j, Value.ownBlock (.slice AW XS.length cW) = some j → j < w5.heap.size) := fun j hj => (own_block W_5.out j hj).2
  have z_c_x : Hid (w1.heap.size ≤ w5.heap.size) := c_5.out.size
  have bl_p_x : Hid (w.heap.size < w5.heap.size) := p_5.out.lt
  have bl_bW_x : Hid (w4.heap.size < w5.heap.size) := bW_5.out.lt
  refine (toComplex_any n0 _ xs0 w5 (now_ Rd0.out c_5.out) (by omega)).mono ?_
  rintro e w6 ⟨vx, rfl, ox, b6⟩
  clear vp_5_0 vp_5_1 vbW_5_0 vbW_5_1
  have c_6 : Hid (Below w1.heap.size w1 w6) := nxt c_5.out b6
  have p_6 : Hid (AtC w6 w.heap.size (.int .i64 n0) (.slice A0 xs0.length k0)) := AtC.to p_5.out b6
  have W_6 : Hid (OwnV 3 w6 w3.heap.size (.slice AW XS.length cW) (ints XS)) := own_below W_5.out b6
  have bW_6 : Hid (AtC w6 w4.heap.size (.int .i64 N) (.slice AW XS.length cW)) := AtC.to bW_5.out b6
  clear c_5 p_5 W_5 bW_5
  obtain ⟨vp_6_0, vp_6_1⟩ := p_6.out
  obtain ⟨vbW_6_0, vbW_6_1⟩ := bW_6.out
  obtain ⟨Ax, cx, rfl⟩ := own_shape ox
  have x_6 : Hid (OwnV 3 w6 w5.heap.size (.slice Ax xs0.length cx) (ints xs0)) := ox
  clear ox b6
  have lt_W_bx : Hid (∀ j, Value.ownBlock (.slice AW XS.length cW) = some j → j < w6.heap.size) := fun j hj => (own_block W_6.out j hj).2
  have lt_x_bx : Hid (∀ j, Value.ownBlock (.slice Ax xs0.length cx) = some j → j < w6.heap.size) := fun j hj => (own_block x_6.out j hj).2
  obtain ⟨w7, hW7, atbx, b7, z7⟩ := boxC w6 (.int .i64 n0) (.slice Ax xs0.length cx) 27
  have c_7 : Hid (Below w1.heap.size w1 w7) := nxt c_6.out b7
  have p_7 : Hid (AtC w7 w.heap.size (.int .i64 n0) (.slice A0 xs0.length k0)) := AtC.to p_6.out b7
  have W_7 : Hid (OwnV 3 w7 w3.heap.size (.slice AW XS.length cW) (ints XS)) := own_below W_6.out b7
  have bW_7 : Hid (AtC w7 w4.heap.size (.int .i64 N) (.slice AW XS.length cW)) := AtC.to bW_6.out b7
  have x_7 : Hid (OwnV 3 w7 w5.heap.size (.slice Ax xs0.length cx) (ints xs0)) := own_below x_6.out b7
  clear c_6 p_6 W_6 bW_6 x_6
  obtain ⟨vp_7_0, vp_7_1⟩ := p_7.out
  obtain ⟨vbW_7_0, vbW_7_1⟩ := bW_7.out
  have bx_7 : Hid (AtC w7 w6.heap.size (.int .i64 n0) (.slice Ax xs0.length cx)) := atbx
  obtain ⟨vbx_7_0, vbx_7_1⟩ := bx_7.out
  clear atbx b7
  go_wp2_with fail
  clear vp_6_0 vp_6_1 vbW_6_0 vbW_6_1 hW7
  have lt_W_G : Hid (∀ j, Value.ownBlock (.slice AW XS.length cW) = some j → j < w7.heap.size) := fun j hj => (own_block W_7.out j hj).2
  have lt_x_G : Hid (∀ j, Value.ownBlock (.slice Ax xs0.length cx) = some j → j < w7.heap.size) := fun j hj => (own_block x_7.out j hj).2
  have z_c_G : Hid (w1.heap.size ≤ w7.heap.size) := c_7.out.size
  have bl_p_G : Hid (w.heap.size < w7.heap.size) := p_7.out.lt
  have bl_bW_G : Hid (w4.heap.size < w7.heap.size) := bW_7.out.lt
  have bl_bx_G : Hid (w6.heap.size < w7.heap.size) := bx_7.out.lt
  refine (hI w7 _ (own_reads x_7.out)).mono ?_
  rintro e w8 ⟨vG, rfl, oG, b8⟩
  clear vp_7_0 vp_7_1 vbW_7_0 vbW_7_1 vbx_7_0 vbx_7_1
  have c_8 : Hid (Below w1.heap.size w1 w8) := nxt c_7.out b8
  have p_8 : Hid (AtC w8 w.heap.size (.int .i64 n0) (.slice A0 xs0.length k0)) := AtC.to p_7.out b8
  have W_8 : Hid (OwnV 3 w8 w3.heap.size (.slice AW XS.length cW) (ints XS)) := own_below W_7.out b8
  have bW_8 : Hid (AtC w8 w4.heap.size (.int .i64 N) (.slice AW XS.length cW)) := AtC.to bW_7.out b8
  have x_8 : Hid (OwnV 3 w8 w5.heap.size (.slice Ax xs0.length cx) (ints xs0)) := own_below x_7.out b8
  have bx_8 : Hid (AtC w8 w6.heap.size (.int .i64 n0) (.slice Ax xs0.length cx)) := AtC.to bx_7.out b8
  clear c_7 p_7 W_7 bW_7 x_7 bx_7
  obtain ⟨vp_8_0, vp_8_1⟩ := p_8.out
  obtain ⟨vbW_8_0, vbW_8_1⟩ := bW_8.out
  obtain ⟨vbx_8_0, vbx_8_1⟩ := bx_8.out
  obtain ⟨AG, cG, rfl⟩ := own_shape oG
  have G_8 : Hid (OwnV 3 w8 w7.heap.size (.slice AG XS.length cG) (ints XS)) := oG
  clear oG b8
  have lt_W_bG : Hid (∀ j, Value.ownBlock (.slice AW XS.length cW) = some j → j < w8.heap.size) := fun j hj => (own_block W_8.out j hj).2
  have lt_x_bG : Hid (∀ j, Value.ownBlock (.slice Ax xs0.length cx) = some j → j < w8.heap.size) := fun j hj => (own_block x_8.out j hj).2
  have lt_G_bG : Hid (∀ j, Value.ownBlock (.slice AG XS.length cG) = some j → j < w8.heap.size) := fun j hj => (own_block G_8.out j hj).2
  obtain ⟨w9, hW9, atbG, b9, z9⟩ := boxC w8 (.int .i64 N) (.slice AG XS.length cG) 27
  have c_9 : Hid (Below w1.heap.size w1 w9) := nxt c_8.out b9
  have p_9 : Hid (AtC w9 w.heap.size (.int .i64 n0) (.slice A0 xs0.length k0)) := AtC.to p_8.out b9
  have W_9 : Hid (OwnV 3 w9 w3.heap.size (.slice AW XS.length cW) (ints XS)) := own_below W_8.out b9
  have bW_9 : Hid (AtC w9 w4.heap.size (.int .i64 N) (.slice AW XS.length cW)) := AtC.to bW_8.out b9
  have x_9 : Hid (OwnV 3 w9 w5.heap.size (.slice Ax xs0.length cx) (ints xs0)) := own_below x_8.out b9
  have bx_9 : Hid (AtC w9 w6.heap.size (.int .i64 n0) (.slice Ax xs0.length cx)) := AtC.to bx_8.out b9
  have G_9 : Hid (OwnV 3 w9 w7.heap.size (.slice AG XS.length cG) (ints XS)) := own_below G_8.out b9
  clear c_8 p_8 W_8 bW_8 x_8 bx_8 G_8
  obtain ⟨vp_9_0, vp_9_1⟩ := p_9.out
  obtain ⟨vbW_9_0, vbW_9_1⟩ := bW_9.out
  obtain ⟨vbx_9_0, vbx_9_1⟩ := bx_9.out
  have bG_9 : Hid (AtC w9 w8.heap.size (.int .i64 N) (.slice AG XS.length cG)) := atbG
  obtain ⟨vbG_9_0, vbG_9_1⟩ := bG_9.out
  clear atbG b9
  have hne : (B != B) = false := by simp
  go_wp2_with fail
  clear vp_8_0 vp_8_1 vbW_8_0 vbW_8_1 vbx_8_0 vbx_8_1 hW9
  refine (eqComplex_same N _ _ XS w9 (own_reads G_9.out) (own_reads W_9.out) (by omega)).mono ?_
  rintro e w10 ⟨rfl, b10⟩
  clear vp_9_0 vp_9_1 vbW_9_0 vbW_9_1 vbx_9_0 vbx_9_1 vbG_9_0 vbG_9_1
  have c_10 : Hid (Below w1.heap.size w1 w10) := nxt c_9.out b10
  have p_10 : Hid (AtC w10 w.heap.size (.int .i64 n0) (.slice A0 xs0.length k0)) := AtC.to p_9.out b10
  have W_10 : Hid (OwnV 3 w10 w3.heap.size (.slice AW XS.length cW) (ints XS)) := own_below W_9.out b10
  have bW_10 : Hid (AtC w10 w4.heap.size (.int .i64 N) (.slice AW XS.length cW)) := AtC.to bW_9.out b10
  have x_10 : Hid (OwnV 3 w10 w5.heap.size (.slice Ax xs0.length cx) (ints xs0)) := own_below x_9.out b10
  have bx_10 : Hid (AtC w10 w6.heap.size (.int .i64 n0) (.slice Ax xs0.length cx)) := AtC.to bx_9.out b10
  have G_10 : Hid (OwnV 3 w10 w7.heap.size (.slice AG XS.length cG) (ints XS)) := own_below G_9.out b10
  have bG_10 : Hid (AtC w10 w8.heap.size (.int .i64 N) (.slice AG XS.length cG)) := AtC.to bG_9.out b10
  clear c_9 p_9 W_9 bW_9 x_9 bx_9 G_9 bG_9
  obtain ⟨vp_10_0, vp_10_1⟩ := p_10.out
  obtain ⟨vbW_10_0, vbW_10_1⟩ := bW_10.out
  obtain ⟨vbx_10_0, vbx_10_1⟩ := bx_10.out
  obtain ⟨vbG_10_0, vbG_10_1⟩ := bG_10.out
  clear b10
  have Sx11 : Hid (Below w1.heap.size w1 w10.drew ∧ AtC w10.drew w.heap.size (.int .i64 n0) (.slice A0 xs0.length k0) ∧ OwnV 3 w10.drew w3.heap.size (.slice AW XS.length cW) (ints XS) ∧ AtC w10.drew w4.heap.size (.int .i64 N) (.slice AW XS.length cW) ∧ OwnV 3 w10.drew w5.heap.size (.slice Ax xs0.length cx) (ints xs0) ∧ AtC w10.drew w6.heap.size (.int .i64 n0) (.slice Ax xs0.length cx) ∧ OwnV 3 w10.drew w7.heap.size (.slice AG XS.length cG) (ints XS) ∧ AtC w10.drew w8.heap.size (.int .i64 N) (.slice AG XS.length cG)) := ⟨(c_10.out).drew, p_10.out, W_10.out, bW_10.out, x_10.out, bx_10.out, G_10.out, bG_10.out⟩
  have hK11 : Hid (∀ W W' : World, (AtC W w6.heap.size (.int .i64 n0) (.slice Ax xs0.length cx) ∧ AtC W w.heap.size (.int .i64 n0) (.slice A0 xs0.length k0) ∧ Hid (Below w1.heap.size w1 W ∧ AtC W w.heap.size (.int .i64 n0) (.slice A0 xs0.length k0) ∧ OwnV 3 W w3.heap.size (.slice AW XS.length cW) (ints XS) ∧ AtC W w4.heap.size (.int .i64 N) (.slice AW XS.length cW) ∧ OwnV 3 W w5.heap.size (.slice Ax xs0.length cx) (ints xs0) ∧ AtC W w6.heap.size (.int .i64 n0) (.slice Ax xs0.length cx) ∧ OwnV 3 W w7.heap.size (.slice AG XS.length cG) (ints XS) ∧ AtC W w8.heap.size (.int .i64 N) (.slice AG XS.length cG))) → Below W.heap.size W W' → (AtC W' w6.heap.size (.int .i64 n0) (.slice Ax xs0.length cx) ∧ AtC W' w.heap.size (.int .i64 n0) (.slice A0 xs0.length k0) ∧ Hid (Below w1.heap.size w1 W' ∧ AtC W' w.heap.size (.int .i64 n0) (.slice A0 xs0.length k0) ∧ OwnV 3 W' w3.heap.size (.slice AW XS.length cW) (ints XS) ∧ AtC W' w4.heap.size (.int .i64 N) (.slice AW XS.length cW) ∧ OwnV 3 W' w5.heap.size (.slice Ax xs0.length cx) (ints xs0) ∧ AtC W' w6.heap.size (.int .i64 n0) (.slice Ax xs0.length cx) ∧ OwnV 3 W' w7.heap.size (.slice AG XS.length cG) (ints XS) ∧ AtC W' w8.heap.size (.int .i64 N) (.slice AG XS.length cG)))) := fun W W' h k => ⟨h.1.to k, h.2.1.to k, nxt h.2.2.1 k, AtC.to h.2.2.2.1 k, own_below h.2.2.2.2.1 k, AtC.to h.2.2.2.2.2.1 k, own_below h.2.2.2.2.2.2.1 k, AtC.to h.2.2.2.2.2.2.2.1 k, own_below h.2.2.2.2.2.2.2.2.1 k, AtC.to h.2.2.2.2.2.2.2.2.2 k⟩
  go_wp2
  go_region_held3 (fun W => ((W.cell? ⟨w6.heap.size, 0, none⟩ = some (.int .i64 n0) ∧ W.cell? ⟨w6.heap.size, 1, none⟩ = some (.slice Ax xs0.length cx)) ∧ (W.cell? ⟨w.heap.size, 0, none⟩ = some (.int .i64 n0) ∧ W.cell? ⟨w.heap.size, 1, none⟩ = some (.slice A0 xs0.length k0)) ∧ Hid (Below w1.heap.size w1 W ∧ AtC W w.heap.size (.int .i64 n0) (.slice A0 xs0.length k0) ∧ OwnV 3 W w3.heap.size (.slice AW XS.length cW) (ints XS) ∧ AtC W w4.heap.size (.int .i64 N) (.slice AW XS.length cW) ∧ OwnV 3 W w5.heap.size (.slice Ax xs0.length cx) (ints xs0) ∧ AtC W w6.heap.size (.int .i64 n0) (.slice Ax xs0.length cx) ∧ OwnV 3 W w7.heap.size (.slice AG XS.length cG) (ints XS) ∧ AtC W w8.heap.size (.int .i64 N) (.slice AG XS.length cG)))) (first | exact ⟨⟨vbx_10_0, vbx_10_1⟩, ⟨vp_10_0, vp_10_1⟩, Sx11⟩ | exact hK11.out _ _ (by assumption) (by assumption) | go_keep) (first | (go_at_call 13; refine (toComplex_any n0 _ xs0 _ (by rename_i hS _ _; exact now_ Rd0.out hS.2.2.1) (by omega)).mono ?_; rintro e wq11 ⟨vq, rfl, oq, bq⟩) | (go_at_call 15; refine (eqComplex_same n0 _ _ xs0 _ (by rename_i hS _ _; exact own_reads hS.2.2.2.2.2.2.1) (own_reads (by assumption)) (by omega)).mono ?_; rintro e w11 ⟨rfl, bq⟩))
  rename_i hSS
  have hC := hSS.2.2
  clear vp_10_0 vp_10_1 vbW_10_0 vbW_10_1 vbx_10_0 vbx_10_1 vbG_10_0 vbG_10_1
  have c_11 : Hid (Below w1.heap.size w1 w11) := hC.1
  have p_11 : Hid (AtC w11 w.heap.size (.int .i64 n0) (.slice A0 xs0.length k0)) := hC.2.1
  have W_11 : Hid (OwnV 3 w11 w3.heap.size (.slice AW XS.length cW) (ints XS)) := hC.2.2.1
  have bW_11 : Hid (AtC w11 w4.heap.size (.int .i64 N) (.slice AW XS.length cW)) := hC.2.2.2.1
  have x_11 : Hid (OwnV 3 w11 w5.heap.size (.slice Ax xs0.length cx) (ints xs0)) := hC.2.2.2.2.1
  have bx_11 : Hid (AtC w11 w6.heap.size (.int .i64 n0) (.slice Ax xs0.length cx)) := hC.2.2.2.2.2.1
  have G_11 : Hid (OwnV 3 w11 w7.heap.size (.slice AG XS.length cG) (ints XS)) := hC.2.2.2.2.2.2.1
  have bG_11 : Hid (AtC w11 w8.heap.size (.int .i64 N) (.slice AG XS.length cG)) := hC.2.2.2.2.2.2.2
  clear c_10 p_10 W_10 bW_10 x_10 bx_10 G_10 bG_10 hC hSS Sx11 hK11
  obtain ⟨vp_11_0, vp_11_1⟩ := p_11.out
  obtain ⟨vbW_11_0, vbW_11_1⟩ := bW_11.out
  obtain ⟨vbx_11_0, vbx_11_1⟩ := bx_11.out
  obtain ⟨vbG_11_0, vbG_11_1⟩ := bG_11.out
  go_wp2_with fail
  refine (markComplex_any n0 _ xs0 1 w11 x_11.out (by omega) (by omega) (by omega)).mono ?_
  rintro e w12 ⟨rfl, oq12, g12⟩
  clear vp_11_0 vp_11_1 vbW_11_0 vbW_11_1 vbx_11_0 vbx_11_1 vbG_11_0 vbG_11_1
  have c_12 : Hid (Below w1.heap.size w1 w12) := (c_11.out).trans (grown_below g12 (c_11.out).size (fun j hj => Nat.le_trans z_c_x.out (own_block x_11.out j hj).1))
  have p_12 : Hid (AtC w12 w.heap.size (.int .i64 n0) (.slice A0 xs0.length k0)) := AtC.grown p_11.out g12 (fun e => by have h1 := bl_p_x.out; have h2 := (own_block x_11.out _ e).1; omega)
  have W_12 : Hid (OwnV 3 w12 w3.heap.size (.slice AW XS.length cW) (ints XS)) := own_grown W_11.out g12 (fun j hj e => by have h1 := lt_W_x.out j hj; have h2 := (own_block x_11.out j e).1; omega)
  have bW_12 : Hid (AtC w12 w4.heap.size (.int .i64 N) (.slice AW XS.length cW)) := AtC.grown bW_11.out g12 (fun e => by have h1 := bl_bW_x.out; have h2 := (own_block x_11.out _ e).1; omega)
  have bx_12 : Hid (AtC w12 w6.heap.size (.int .i64 n0) (.slice Ax xs0.length cx)) := AtC.grown bx_11.out g12 (fun e => by have h1 := lt_x_bx.out _ e; omega)
  have G_12 : Hid (OwnV 3 w12 w7.heap.size (.slice AG XS.length cG) (ints XS)) := own_grown G_11.out g12 (fun j hj e => by have h1 := (own_block G_11.out j hj).1; have h2 := lt_x_G.out j e; omega)
  have bG_12 : Hid (AtC w12 w8.heap.size (.int .i64 N) (.slice AG XS.length cG)) := AtC.grown bG_11.out g12 (fun e => by have h1 := lt_x_bG.out _ e; omega)
  have x_12 : Hid (OwnV 3 w12 w5.heap.size (.slice Ax xs0.length cx) (ints (marks 1 xs0.length))) := oq12
  clear c_11 p_11 W_11 bW_11 x_11 bx_11 G_11 bG_11 oq12 g12
  obtain ⟨vp_12_0, vp_12_1⟩ := p_12.out
  obtain ⟨vbW_12_0, vbW_12_1⟩ := bW_12.out
  obtain ⟨vbx_12_0, vbx_12_1⟩ := bx_12.out
  obtain ⟨vbG_12_0, vbG_12_1⟩ := bG_12.out
  go_wp2_with fail
  refine (eqComplex_same N _ _ XS w12 (own_reads G_12.out) (own_reads W_12.out) (by omega)).mono ?_
  rintro e w13 ⟨rfl, b13⟩
  clear vp_12_0 vp_12_1 vbW_12_0 vbW_12_1 vbx_12_0 vbx_12_1 vbG_12_0 vbG_12_1
  have c_13 : Hid (Below w1.heap.size w1 w13) := nxt c_12.out b13
  have p_13 : Hid (AtC w13 w.heap.size (.int .i64 n0) (.slice A0 xs0.length k0)) := AtC.to p_12.out b13
  have W_13 : Hid (OwnV 3 w13 w3.heap.size (.slice AW XS.length cW) (ints XS)) := own_below W_12.out b13
  have bW_13 : Hid (AtC w13 w4.heap.size (.int .i64 N) (.slice AW XS.length cW)) := AtC.to bW_12.out b13
  have x_13 : Hid (OwnV 3 w13 w5.heap.size (.slice Ax xs0.length cx) (ints (marks 1 xs0.length))) := own_below x_12.out b13
  have bx_13 : Hid (AtC w13 w6.heap.size (.int .i64 n0) (.slice Ax xs0.length cx)) := AtC.to bx_12.out b13
  have G_13 : Hid (OwnV 3 w13 w7.heap.size (.slice AG XS.length cG) (ints XS)) := own_below G_12.out b13
  have bG_13 : Hid (AtC w13 w8.heap.size (.int .i64 N) (.slice AG XS.length cG)) := AtC.to bG_12.out b13
  clear c_12 p_12 W_12 bW_12 x_12 bx_12 G_12 bG_12
  obtain ⟨vp_13_0, vp_13_1⟩ := p_13.out
  obtain ⟨vbW_13_0, vbW_13_1⟩ := bW_13.out
  obtain ⟨vbx_13_0, vbx_13_1⟩ := bx_13.out
  obtain ⟨vbG_13_0, vbG_13_1⟩ := bG_13.out
  clear b13
  go_wp2_with fail
  refine (markComplex_any N _ XS 1 w13 G_13.out (by omega) (by omega) (by omega)).mono ?_
  rintro e w14 ⟨rfl, oq14, g14⟩
  clear vp_13_0 vp_13_1 vbW_13_0 vbW_13_1 vbx_13_0 vbx_13_1 vbG_13_0 vbG_13_1
  have c_14 : Hid (Below w1.heap.size w1 w14) := (c_13.out).trans (grown_below g14 (c_13.out).size (fun j hj => Nat.le_trans z_c_G.out (own_block G_13.out j hj).1))
  have p_14 : Hid (AtC w14 w.heap.size (.int .i64 n0) (.slice A0 xs0.length k0)) := AtC.grown p_13.out g14 (fun e => by have h1 := bl_p_G.out; have h2 := (own_block G_13.out _ e).1; omega)
  have W_14 : Hid (OwnV 3 w14 w3.heap.size (.slice AW XS.length cW) (ints XS)) := own_grown W_13.out g14 (fun j hj e => by have h1 := lt_W_G.out j hj; have h2 := (own_block G_13.out j e).1; omega)
  have bW_14 : Hid (AtC w14 w4.heap.size (.int .i64 N) (.slice AW XS.length cW)) := AtC.grown bW_13.out g14 (fun e => by have h1 := bl_bW_G.out; have h2 := (own_block G_13.out _ e).1; omega)
  have x_14 : Hid (OwnV 3 w14 w5.heap.size (.slice Ax xs0.length cx) (ints (marks 1 xs0.length))) := own_grown x_13.out g14 (fun j hj e => by have h1 := lt_x_G.out j hj; have h2 := (own_block G_13.out j e).1; omega)
  have bx_14 : Hid (AtC w14 w6.heap.size (.int .i64 n0) (.slice Ax xs0.length cx)) := AtC.grown bx_13.out g14 (fun e => by have h1 := bl_bx_G.out; have h2 := (own_block G_13.out _ e).1; omega)
  have bG_14 : Hid (AtC w14 w8.heap.size (.int .i64 N) (.slice AG XS.length cG)) := AtC.grown bG_13.out g14 (fun e => by have h1 := lt_G_bG.out _ e; omega)
  have G_14 : Hid (OwnV 3 w14 w7.heap.size (.slice AG XS.length cG) (ints (marks 1 XS.length))) := oq14
  clear c_13 p_13 W_13 bW_13 x_13 bx_13 G_13 bG_13 oq14 g14
  obtain ⟨vp_14_0, vp_14_1⟩ := p_14.out
  obtain ⟨vbW_14_0, vbW_14_1⟩ := bW_14.out
  obtain ⟨vbx_14_0, vbx_14_1⟩ := bx_14.out
  obtain ⟨vbG_14_0, vbG_14_1⟩ := bG_14.out
  go_wp2_with fail
  refine (heldComplex_yes N _ XS.length 1 w14 (own_reads G_14.out) (by omega) (by omega) (by omega)).mono ?_
  rintro e w15 ⟨rfl, b15⟩
  clear vp_14_0 vp_14_1 vbW_14_0 vbW_14_1 vbx_14_0 vbx_14_1 vbG_14_0 vbG_14_1
  have c_15 : Hid (Below w1.heap.size w1 w15) := nxt c_14.out b15
  have p_15 : Hid (AtC w15 w.heap.size (.int .i64 n0) (.slice A0 xs0.length k0)) := AtC.to p_14.out b15
  have W_15 : Hid (OwnV 3 w15 w3.heap.size (.slice AW XS.length cW) (ints XS)) := own_below W_14.out b15
  have bW_15 : Hid (AtC w15 w4.heap.size (.int .i64 N) (.slice AW XS.length cW)) := AtC.to bW_14.out b15
  have x_15 : Hid (OwnV 3 w15 w5.heap.size (.slice Ax xs0.length cx) (ints (marks 1 xs0.length))) := own_below x_14.out b15
  have bx_15 : Hid (AtC w15 w6.heap.size (.int .i64 n0) (.slice Ax xs0.length cx)) := AtC.to bx_14.out b15
  have G_15 : Hid (OwnV 3 w15 w7.heap.size (.slice AG XS.length cG) (ints (marks 1 XS.length))) := own_below G_14.out b15
  have bG_15 : Hid (AtC w15 w8.heap.size (.int .i64 N) (.slice AG XS.length cG)) := AtC.to bG_14.out b15
  clear c_14 p_14 W_14 bW_14 x_14 bx_14 G_14 bG_14
  obtain ⟨vp_15_0, vp_15_1⟩ := p_15.out
  obtain ⟨vbW_15_0, vbW_15_1⟩ := bW_15.out
  obtain ⟨vbx_15_0, vbx_15_1⟩ := bx_15.out
  obtain ⟨vbG_15_0, vbG_15_1⟩ := bG_15.out
  clear b15
  go_wp2_with fail
  refine (toComplex_any n0 _ xs0 w15 (now_ Rd0.out c_15.out) (by omega)).mono ?_
  rintro e w16 ⟨vt2, rfl, ot2, b16⟩
  clear vp_15_0 vp_15_1 vbW_15_0 vbW_15_1 vbx_15_0 vbx_15_1 vbG_15_0 vbG_15_1
  have c_16 : Hid (Below w1.heap.size w1 w16) := nxt c_15.out b16
  have p_16 : Hid (AtC w16 w.heap.size (.int .i64 n0) (.slice A0 xs0.length k0)) := AtC.to p_15.out b16
  have W_16 : Hid (OwnV 3 w16 w3.heap.size (.slice AW XS.length cW) (ints XS)) := own_below W_15.out b16
  have bW_16 : Hid (AtC w16 w4.heap.size (.int .i64 N) (.slice AW XS.length cW)) := AtC.to bW_15.out b16
  have x_16 : Hid (OwnV 3 w16 w5.heap.size (.slice Ax xs0.length cx) (ints (marks 1 xs0.length))) := own_below x_15.out b16
  have bx_16 : Hid (AtC w16 w6.heap.size (.int .i64 n0) (.slice Ax xs0.length cx)) := AtC.to bx_15.out b16
  have G_16 : Hid (OwnV 3 w16 w7.heap.size (.slice AG XS.length cG) (ints (marks 1 XS.length))) := own_below G_15.out b16
  have bG_16 : Hid (AtC w16 w8.heap.size (.int .i64 N) (.slice AG XS.length cG)) := AtC.to bG_15.out b16
  clear c_15 p_15 W_15 bW_15 x_15 bx_15 G_15 bG_15
  obtain ⟨vp_16_0, vp_16_1⟩ := p_16.out
  obtain ⟨vbW_16_0, vbW_16_1⟩ := bW_16.out
  obtain ⟨vbx_16_0, vbx_16_1⟩ := bx_16.out
  obtain ⟨vbG_16_0, vbG_16_1⟩ := bG_16.out
  go_wp2_with fail
  have lt_W_H : Hid (∀ j, Value.ownBlock (.slice AW XS.length cW) = some j → j < w16.heap.size) := fun j hj => (own_block W_16.out j hj).2
  have lt_x_H : Hid (∀ j, Value.ownBlock (.slice Ax xs0.length cx) = some j → j < w16.heap.size) := fun j hj => (own_block x_16.out j hj).2
  have lt_G_H : Hid (∀ j, Value.ownBlock (.slice AG XS.length cG) = some j → j < w16.heap.size) := fun j hj => (own_block G_16.out j hj).2
  have z_c_H : Hid (w1.heap.size ≤ w16.heap.size) := c_16.out.size
  have bl_p_H : Hid (w.heap.size < w16.heap.size) := p_16.out.lt
  have bl_bW_H : Hid (w4.heap.size < w16.heap.size) := bW_16.out.lt
  have bl_bx_H : Hid (w6.heap.size < w16.heap.size) := bx_16.out.lt
  have bl_bG_H : Hid (w8.heap.size < w16.heap.size) := bG_16.out.lt
  refine (hI w16 _ (own_reads ot2)).mono ?_
  rintro e w17 ⟨vH, rfl, oH, b17⟩
  clear vp_16_0 vp_16_1 vbW_16_0 vbW_16_1 vbx_16_0 vbx_16_1 vbG_16_0 vbG_16_1
  have c_17 : Hid (Below w1.heap.size w1 w17) := nxt c_16.out b17
  have p_17 : Hid (AtC w17 w.heap.size (.int .i64 n0) (.slice A0 xs0.length k0)) := AtC.to p_16.out b17
  have W_17 : Hid (OwnV 3 w17 w3.heap.size (.slice AW XS.length cW) (ints XS)) := own_below W_16.out b17
  have bW_17 : Hid (AtC w17 w4.heap.size (.int .i64 N) (.slice AW XS.length cW)) := AtC.to bW_16.out b17
  have x_17 : Hid (OwnV 3 w17 w5.heap.size (.slice Ax xs0.length cx) (ints (marks 1 xs0.length))) := own_below x_16.out b17
  have bx_17 : Hid (AtC w17 w6.heap.size (.int .i64 n0) (.slice Ax xs0.length cx)) := AtC.to bx_16.out b17
  have G_17 : Hid (OwnV 3 w17 w7.heap.size (.slice AG XS.length cG) (ints (marks 1 XS.length))) := own_below G_16.out b17
  have bG_17 : Hid (AtC w17 w8.heap.size (.int .i64 N) (.slice AG XS.length cG)) := AtC.to bG_16.out b17
  clear c_16 p_16 W_16 bW_16 x_16 bx_16 G_16 bG_16
  obtain ⟨vp_17_0, vp_17_1⟩ := p_17.out
  obtain ⟨vbW_17_0, vbW_17_1⟩ := bW_17.out
  obtain ⟨vbx_17_0, vbx_17_1⟩ := bx_17.out
  obtain ⟨vbG_17_0, vbG_17_1⟩ := bG_17.out
  obtain ⟨AH, cH, rfl⟩ := own_shape oH
  have H_17 : Hid (OwnV 3 w17 w16.heap.size (.slice AH XS.length cH) (ints XS)) := oH
  clear oH b17
  have lt_W_bH : Hid (∀ j, Value.ownBlock (.slice AW XS.length cW) = some j → j < w17.heap.size) := fun j hj => (own_block W_17.out j hj).2
  have lt_x_bH : Hid (∀ j, Value.ownBlock (.slice Ax xs0.length cx) = some j → j < w17.heap.size) := fun j hj => (own_block x_17.out j hj).2
  have lt_G_bH : Hid (∀ j, Value.ownBlock (.slice AG XS.length cG) = some j → j < w17.heap.size) := fun j hj => (own_block G_17.out j hj).2
  have lt_H_bH : Hid (∀ j, Value.ownBlock (.slice AH XS.length cH) = some j → j < w17.heap.size) := fun j hj => (own_block H_17.out j hj).2
  obtain ⟨w18, hW18, atbH, b18, z18⟩ := boxC w17 (.int .i64 N) (.slice AH XS.length cH) 27
  have c_18 : Hid (Below w1.heap.size w1 w18) := nxt c_17.out b18
  have p_18 : Hid (AtC w18 w.heap.size (.int .i64 n0) (.slice A0 xs0.length k0)) := AtC.to p_17.out b18
  have W_18 : Hid (OwnV 3 w18 w3.heap.size (.slice AW XS.length cW) (ints XS)) := own_below W_17.out b18
  have bW_18 : Hid (AtC w18 w4.heap.size (.int .i64 N) (.slice AW XS.length cW)) := AtC.to bW_17.out b18
  have x_18 : Hid (OwnV 3 w18 w5.heap.size (.slice Ax xs0.length cx) (ints (marks 1 xs0.length))) := own_below x_17.out b18
  have bx_18 : Hid (AtC w18 w6.heap.size (.int .i64 n0) (.slice Ax xs0.length cx)) := AtC.to bx_17.out b18
  have G_18 : Hid (OwnV 3 w18 w7.heap.size (.slice AG XS.length cG) (ints (marks 1 XS.length))) := own_below G_17.out b18
  have bG_18 : Hid (AtC w18 w8.heap.size (.int .i64 N) (.slice AG XS.length cG)) := AtC.to bG_17.out b18
  have H_18 : Hid (OwnV 3 w18 w16.heap.size (.slice AH XS.length cH) (ints XS)) := own_below H_17.out b18
  clear c_17 p_17 W_17 bW_17 x_17 bx_17 G_17 bG_17 H_17
  obtain ⟨vp_18_0, vp_18_1⟩ := p_18.out
  obtain ⟨vbW_18_0, vbW_18_1⟩ := bW_18.out
  obtain ⟨vbx_18_0, vbx_18_1⟩ := bx_18.out
  obtain ⟨vbG_18_0, vbG_18_1⟩ := bG_18.out
  have bH_18 : Hid (AtC w18 w17.heap.size (.int .i64 N) (.slice AH XS.length cH)) := atbH
  obtain ⟨vbH_18_0, vbH_18_1⟩ := bH_18.out
  clear atbH b18
  go_wp2_with fail
  clear vp_17_0 vp_17_1 vbW_17_0 vbW_17_1 vbx_17_0 vbx_17_1 vbG_17_0 vbG_17_1 hW18
  refine (eqComplex_same N _ _ XS w18 (own_reads H_18.out) (own_reads W_18.out) (by omega)).mono ?_
  rintro e w19 ⟨rfl, b19⟩
  clear vp_18_0 vp_18_1 vbW_18_0 vbW_18_1 vbx_18_0 vbx_18_1 vbG_18_0 vbG_18_1 vbH_18_0 vbH_18_1
  have c_19 : Hid (Below w1.heap.size w1 w19) := nxt c_18.out b19
  have p_19 : Hid (AtC w19 w.heap.size (.int .i64 n0) (.slice A0 xs0.length k0)) := AtC.to p_18.out b19
  have W_19 : Hid (OwnV 3 w19 w3.heap.size (.slice AW XS.length cW) (ints XS)) := own_below W_18.out b19
  have bW_19 : Hid (AtC w19 w4.heap.size (.int .i64 N) (.slice AW XS.length cW)) := AtC.to bW_18.out b19
  have x_19 : Hid (OwnV 3 w19 w5.heap.size (.slice Ax xs0.length cx) (ints (marks 1 xs0.length))) := own_below x_18.out b19
  have bx_19 : Hid (AtC w19 w6.heap.size (.int .i64 n0) (.slice Ax xs0.length cx)) := AtC.to bx_18.out b19
  have G_19 : Hid (OwnV 3 w19 w7.heap.size (.slice AG XS.length cG) (ints (marks 1 XS.length))) := own_below G_18.out b19
  have bG_19 : Hid (AtC w19 w8.heap.size (.int .i64 N) (.slice AG XS.length cG)) := AtC.to bG_18.out b19
  have H_19 : Hid (OwnV 3 w19 w16.heap.size (.slice AH XS.length cH) (ints XS)) := own_below H_18.out b19
  have bH_19 : Hid (AtC w19 w17.heap.size (.int .i64 N) (.slice AH XS.length cH)) := AtC.to bH_18.out b19
  clear c_18 p_18 W_18 bW_18 x_18 bx_18 G_18 bG_18 H_18 bH_18
  obtain ⟨vp_19_0, vp_19_1⟩ := p_19.out
  obtain ⟨vbW_19_0, vbW_19_1⟩ := bW_19.out
  obtain ⟨vbx_19_0, vbx_19_1⟩ := bx_19.out
  obtain ⟨vbG_19_0, vbG_19_1⟩ := bG_19.out
  obtain ⟨vbH_19_0, vbH_19_1⟩ := bH_19.out
  clear b19
  go_wp2_with fail
  refine (heldComplex_yes N _ XS.length 1 w19 (own_reads G_19.out) (by omega) (by omega) (by omega)).mono ?_
  rintro e w20 ⟨rfl, b20⟩
  clear vp_19_0 vp_19_1 vbW_19_0 vbW_19_1 vbx_19_0 vbx_19_1 vbG_19_0 vbG_19_1 vbH_19_0 vbH_19_1
  have c_20 : Hid (Below w1.heap.size w1 w20) := nxt c_19.out b20
  have p_20 : Hid (AtC w20 w.heap.size (.int .i64 n0) (.slice A0 xs0.length k0)) := AtC.to p_19.out b20
  have W_20 : Hid (OwnV 3 w20 w3.heap.size (.slice AW XS.length cW) (ints XS)) := own_below W_19.out b20
  have bW_20 : Hid (AtC w20 w4.heap.size (.int .i64 N) (.slice AW XS.length cW)) := AtC.to bW_19.out b20
  have x_20 : Hid (OwnV 3 w20 w5.heap.size (.slice Ax xs0.length cx) (ints (marks 1 xs0.length))) := own_below x_19.out b20
  have bx_20 : Hid (AtC w20 w6.heap.size (.int .i64 n0) (.slice Ax xs0.length cx)) := AtC.to bx_19.out b20
  have G_20 : Hid (OwnV 3 w20 w7.heap.size (.slice AG XS.length cG) (ints (marks 1 XS.length))) := own_below G_19.out b20
  have bG_20 : Hid (AtC w20 w8.heap.size (.int .i64 N) (.slice AG XS.length cG)) := AtC.to bG_19.out b20
  have H_20 : Hid (OwnV 3 w20 w16.heap.size (.slice AH XS.length cH) (ints XS)) := own_below H_19.out b20
  have bH_20 : Hid (AtC w20 w17.heap.size (.int .i64 N) (.slice AH XS.length cH)) := AtC.to bH_19.out b20
  clear c_19 p_19 W_19 bW_19 x_19 bx_19 G_19 bG_19 H_19 bH_19
  obtain ⟨vp_20_0, vp_20_1⟩ := p_20.out
  obtain ⟨vbW_20_0, vbW_20_1⟩ := bW_20.out
  obtain ⟨vbx_20_0, vbx_20_1⟩ := bx_20.out
  obtain ⟨vbG_20_0, vbG_20_1⟩ := bG_20.out
  obtain ⟨vbH_20_0, vbH_20_1⟩ := bH_20.out
  clear b20
  go_wp2
  go_ret
  exact ⟨rfl, B1.out.trans (c_20.out.mono (by omega))⟩

set_option maxRecDepth 100000 in
theorem lifted_FnExactConeOf (os : Os) (started : os.Started) (H : Type) (enc : TypeId × Value → H) :
    ReturnsInHanded {} Try.checked os 10 .any (Rows.fnExactConeOfSpec.pre6 enc Try.prog Try.f10 Rows.fnExactConeOfRow.domain false) (Rows.fnExactConeOfSpec.post enc Try.prog Try.f10 false true false false) := by
  refine returnsInHanded_of_change (C := Try.checked) own started (by kernel_rfl) Try.func10
    (ChangeSpec.witness6 (enc := enc) (C := Try.checked) false ⟨#[], #[.agg #[.int .i64 0, .slice none 0 0]], []⟩ 8 (by kernel_rfl) (by kernel_rfl) (by kernel_rfl) (by kernel_rfl)) ?_
  intro W base args ds gs before hval0 hW hcnd _
  have hval : ∀ (j : Nat) t v, Try.f10.params[j]? = some t → args[j]? = some v → Value.okWide Try.prog W .any base t v := hval0
  have hW' := hW
  obtain ⟨p, q, hA0, hV, rfl, hfz, hnd⟩ := hW
  have hA : DataW.TrodAll enc Try.prog W 0 (fun _ => true) true Try.f10.params.toList args.toList ds p := hA0
  rw [Try.params10] at hA hval
  have hB := fun W' => back_all (enc := enc) (W' := W') laidOut _ _ _ _ (show AllR Try.prog [24] from ⟨⟨by kernel_rfl, of_decide_eq_true (by kernel_rfl)⟩, trivial⟩) hA
  obtain ⟨v0, vs0, d0, ds0, p0, q0, hargs, rfl, rfl, h0, r0⟩ := trodAll_cons hA
  obtain ⟨rfl, rfl, rfl⟩ := trodAll_nil r0
  obtain rfl : args = #[v0] := by cases args; simp_all
  obtain ⟨rfl, rfl⟩ := trodVars_none hV
  obtain ⟨n0, u0, xs0, rfl, rd0, bl0, bn0, bx0⟩ := openComplex Try.underlying24 (by kernel_rfl) (by kernel_rfl) Try.underlying3 Try.underlying22 Try.underlying3 (by kernel_rfl) (hval 0 24 v0 rfl rfl) h0
  clear hA0 hval0
  refine (walk_FnExactConeOf W n0 u0 xs0 rd0 bl0 bn0 bx0).mono fun e W' ⟨he, bel⟩ => ?_
  subst he
  exact ⟨_, rfl, _, _, _, [], _, [], hW', trodAll_mk1 (shut_bool Try.underlying4 _), hB W' bel, rfl, bel.frame _, fun h => by cases h⟩

theorem FnExactConeOf_holds : Rows.FnExactConeOfSaid :=
  OpenClaim.holds_of_wide 10 Try.f10 rfl rfl rfl rfl rfl rfl rfl ⟨rfl, rfl, rfl, rfl, rfl⟩ rfl rfl rfl rfl rfl (by kernel_rfl) Try.func10 (by kernel_rfl)
    (of_decide_eq_true (by kernel_rfl)) (by unfold Func.isWrapper; first | (rw [if_pos (by decide +kernel)]; kernel_rfl) | (rw [if_neg (by decide +kernel)]; exact ⟨rfl, rfl⟩))
    (fun os started H enc _ => lifted_FnExactConeOf os started H enc)
end Go.Proofs.Ytmkacjpjcfffmab
