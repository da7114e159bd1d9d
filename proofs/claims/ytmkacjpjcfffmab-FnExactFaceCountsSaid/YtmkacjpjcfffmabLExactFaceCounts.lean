/- The law FnExactFaceCounts. No condition. -/
import Derived.Test.YtmkacjpjcfffmabW41
import Derived.Test.YtmkacjpjcfffmabW43
import Derived.Test.YtmkacjpjcfffmabBox
import Derived.Test.YtmkacjpjcfffmabOpen
namespace Go.Proofs.Ytmkacjpjcfffmab
open Go.ChangeShapes Go.WideShapes Go.ChangeAt Go.RowKit
open Go.ChangeMaps (open_string shut_string)
set_option linter.unusedVariables false

theorem both_FnExactFaceCounts (n : Int) (xs : List Int) (hl : xs.length ≤ 1048576) (bx : ∀ x ∈ xs, -9223372036854775808 ≤ x ∧ x ≤ 9223372036854775807) : ∃ (XS : List Int), XS.length ≤ 1073741824 ∧
    (∀ (W : World) (u : Value), IntsAt W W.heap.size u xs → Calls Try.prog 22 #[.agg #[.int .i64 n, u]] W fun e w' => RetI 3 W XS e w') ∧
    (∀ (W : World) (u : Value), IntsAt W W.heap.size u xs → Calls Try.prog 23 #[.agg #[.int .i64 n, u]] W fun e w' => RetI 3 W XS e w') :=
  ⟨faceCounts n xs, Nat.le_trans (faceCounts_len n xs) (by omega), fun W u h => faceCountsS n u xs W h (by omega), fun W u h => faceCountsI n u xs W h (by omega)⟩

theorem walk_FnExactFaceCounts (w : World) (n0 : Int) (u0 : Value) (xs0 : List Int) (rd0 : IntsAt w w.heap.size u0 xs0) (bl0 : xs0.length ≤ 9223372036854775807) (bn0 : -9223372036854775808 ≤ n0 ∧ n0 ≤ 9223372036854775807) (bx0 : ∀ x ∈ xs0, -9223372036854775808 ≤ x ∧ x ≤ 9223372036854775807) : Calls Try.prog 5 #[.agg #[.int .i64 n0, u0]] w fun e w' => RetB w true e w' := by
  obtain ⟨A0, k0, rfl⟩ := reads_shape rd0
  obtain ⟨w1, hW1, at1, b1, z1⟩ := boxC w (.int .i64 n0) (.slice A0 xs0.length k0) 24
  have rp0 := now_ rd0 b1
  obtain ⟨e1_0, e1_1⟩ := at1
  by_cases hgd : 1048576 < xs0.length
  · go_enter Try.func5, Try.ntmps5
    go_wp2_with fail
    refine (szComplex_any n0 _ xs0 _ w1 rp0 (by omega) (by omega) (by omega)).mono ?_
    rw [if_pos (show (1048576 : Int) < xs0.length by omega)]
    rintro e w2 ⟨rfl, b2⟩
    have B := hide (nxt b1 b2)
    clear hW1
    go_wp2
    go_ret
    exact ⟨rfl, B.out⟩
  have hgd2 : xs0.length ≤ 1048576 := by omega
  have Rd0 := hide rp0
  have B1 := hide b1
  clear rd0 rp0 hgd b1
  obtain ⟨XS, hXl, hS, hI⟩ := both_FnExactFaceCounts n0 xs0 hgd2 bx0
  go_enter Try.func5, Try.ntmps5
  go_wp2_with fail
  clear hW1
  have c_1 : Hid (Below w1.heap.size w1 w1) := Below.refl _ _
  have p_1 : Hid (AtC w1 w.heap.size (.int .i64 n0) (.slice A0 xs0.length k0)) := ⟨e1_0, e1_1⟩
  obtain ⟨vp_1_0, vp_1_1⟩ := p_1.out
  clear e1_0 e1_1
  refine (szComplex_any n0 _ xs0 _ w1 Rd0.out (by omega) (by omega) (by omega)).mono ?_
  rw [if_neg (show ¬ (1048576 : Int) < xs0.length by omega)]
  rintro e w2 ⟨rfl, b2⟩
  clear vp_1_0 vp_1_1
  have c_2 : Hid (Below w1.heap.size w1 w2) := b2
  have p_2 : Hid (AtC w2 w.heap.size (.int .i64 n0) (.slice A0 xs0.length k0)) := AtC.to p_1.out b2
  clear c_1 p_1
  obtain ⟨vp_2_0, vp_2_1⟩ := p_2.out
  go_wp2_with fail
  refine (toComplex_any n0 _ xs0 w2 (now_ Rd0.out c_2.out) (by omega)).mono ?_
  rintro e w3 ⟨vt, rfl, ot, b3⟩
  clear vp_2_0 vp_2_1
  have c_3 : Hid (Below w1.heap.size w1 w3) := nxt c_2.out b3
  have p_3 : Hid (AtC w3 w.heap.size (.int .i64 n0) (.slice A0 xs0.length k0)) := AtC.to p_2.out b3
  clear c_2 p_2
  obtain ⟨vp_3_0, vp_3_1⟩ := p_3.out
  go_wp2_with fail
  have z_c_W : Hid (w1.heap.size ≤ w3.heap.size) := c_3.out.size
  have bl_p_W : Hid (w.heap.size < w3.heap.size) := p_3.out.lt
  refine (hS w3 _ (own_reads ot)).mono ?_
  rintro e w4 ⟨vW, rfl, oW, b4⟩
  clear vp_3_0 vp_3_1
  have c_4 : Hid (Below w1.heap.size w1 w4) := nxt c_3.out b4
  have p_4 : Hid (AtC w4 w.heap.size (.int .i64 n0) (.slice A0 xs0.length k0)) := AtC.to p_3.out b4
  clear c_3 p_3
  obtain ⟨vp_4_0, vp_4_1⟩ := p_4.out
  obtain ⟨AW, cW, rfl⟩ := own_shape oW
  have W_4 : Hid (OwnV 3 w4 w3.heap.size (.slice AW XS.length cW) (ints XS)) := oW
  clear oW b4
  go_wp2_with fail
  have lt_W_x : Hid (∀ j, Value.ownBlock (.slice AW XS.length cW) = some j → j < w4.heap.size) := fun j hj => (own_block W_4.out j hj).2
  have z_c_x : Hid (w1.heap.size ≤ w4.heap.size) := c_4.out.size
  have bl_p_x : Hid (w.heap.size < w4.heap.size) := p_4.out.lt
  refine (toComplex_any n0 _ xs0 w4 (now_ Rd0.out c_4.out) (by omega)).mono ?_
  rintro e w5 ⟨vx, rfl, ox, b5⟩
  clear vp_4_0 vp_4_1
  have c_5 : Hid (Below w1.heap.size w1 w5) := nxt c_4.out b5
  have p_5 : Hid (AtC w5 w.heap.size (.int .i64 n0) (.slice A0 xs0.length k0)) := AtC.to p_4.out b5
  have W_5 : Hid (OwnV 3 w5 w3.heap.size (.slice AW XS.length cW) (ints XS)) := own_below W_4.out b5
  clear c_4 p_4 W_4
  obtain ⟨vp_5_0, vp_5_1⟩ := p_5.out
  obtain ⟨Ax, cx, rfl⟩ := own_shape ox
  have x_5 : Hid (OwnV 3 w5 w4.heap.size (.slice Ax xs0.length cx) (ints xs0)) := ox
  clear ox b5
  have lt_W_bx : Hid (∀ j, Value.ownBlock (.slice AW XS.length cW) = some j → j < w5.heap.size) := fun j hj => (own_block W_5.out j hj).2
  have lt_x_bx : Hid (∀ j, Value.ownBlock (.slice Ax xs0.length cx) = some j → j < w5.heap.size) := fun j hj => (own_block x_5.out j hj).2
  obtain ⟨w6, hW6, atbx, b6, z6⟩ := boxC w5 (.int .i64 n0) (.slice Ax xs0.length cx) 27
  have c_6 : Hid (Below w1.heap.size w1 w6) := nxt c_5.out b6
  have p_6 : Hid (AtC w6 w.heap.size (.int .i64 n0) (.slice A0 xs0.length k0)) := AtC.to p_5.out b6
  have W_6 : Hid (OwnV 3 w6 w3.heap.size (.slice AW XS.length cW) (ints XS)) := own_below W_5.out b6
  have x_6 : Hid (OwnV 3 w6 w4.heap.size (.slice Ax xs0.length cx) (ints xs0)) := own_below x_5.out b6
  clear c_5 p_5 W_5 x_5
  obtain ⟨vp_6_0, vp_6_1⟩ := p_6.out
  have bx_6 : Hid (AtC w6 w5.heap.size (.int .i64 n0) (.slice Ax xs0.length cx)) := atbx
  obtain ⟨vbx_6_0, vbx_6_1⟩ := bx_6.out
  clear atbx b6
  go_wp2_with fail
  clear vp_5_0 vp_5_1 hW6
  have lt_W_G : Hid (∀ j, Value.ownBlock (.slice AW XS.length cW) = some j → j < w6.heap.size) := fun j hj => (own_block W_6.out j hj).2
  have lt_x_G : Hid (∀ j, Value.ownBlock (.slice Ax xs0.length cx) = some j → j < w6.heap.size) := fun j hj => (own_block x_6.out j hj).2
  have z_c_G : Hid (w1.heap.size ≤ w6.heap.size) := c_6.out.size
  have bl_p_G : Hid (w.heap.size < w6.heap.size) := p_6.out.lt
  have bl_bx_G : Hid (w5.heap.size < w6.heap.size) := bx_6.out.lt
  refine (hI w6 _ (own_reads x_6.out)).mono ?_
  rintro e w7 ⟨vG, rfl, oG, b7⟩
  clear vp_6_0 vp_6_1 vbx_6_0 vbx_6_1
  have c_7 : Hid (Below w1.heap.size w1 w7) := nxt c_6.out b7
  have p_7 : Hid (AtC w7 w.heap.size (.int .i64 n0) (.slice A0 xs0.length k0)) := AtC.to p_6.out b7
  have W_7 : Hid (OwnV 3 w7 w3.heap.size (.slice AW XS.length cW) (ints XS)) := own_below W_6.out b7
  have x_7 : Hid (OwnV 3 w7 w4.heap.size (.slice Ax xs0.length cx) (ints xs0)) := own_below x_6.out b7
  have bx_7 : Hid (AtC w7 w5.heap.size (.int .i64 n0) (.slice Ax xs0.length cx)) := AtC.to bx_6.out b7
  clear c_6 p_6 W_6 x_6 bx_6
  obtain ⟨vp_7_0, vp_7_1⟩ := p_7.out
  obtain ⟨vbx_7_0, vbx_7_1⟩ := bx_7.out
  obtain ⟨AG, cG, rfl⟩ := own_shape oG
  have G_7 : Hid (OwnV 3 w7 w6.heap.size (.slice AG XS.length cG) (ints XS)) := oG
  clear oG b7
  go_wp2_with fail
  refine (eqIntS_same _ _ XS w7 (own_reads G_7.out) (own_reads W_7.out) (by omega)).mono ?_
  rintro e w8 ⟨rfl, b8⟩
  clear vp_7_0 vp_7_1 vbx_7_0 vbx_7_1
  have c_8 : Hid (Below w1.heap.size w1 w8) := nxt c_7.out b8
  have p_8 : Hid (AtC w8 w.heap.size (.int .i64 n0) (.slice A0 xs0.length k0)) := AtC.to p_7.out b8
  have W_8 : Hid (OwnV 3 w8 w3.heap.size (.slice AW XS.length cW) (ints XS)) := own_below W_7.out b8
  have x_8 : Hid (OwnV 3 w8 w4.heap.size (.slice Ax xs0.length cx) (ints xs0)) := own_below x_7.out b8
  have bx_8 : Hid (AtC w8 w5.heap.size (.int .i64 n0) (.slice Ax xs0.length cx)) := AtC.to bx_7.out b8
  have G_8 : Hid (OwnV 3 w8 w6.heap.size (.slice AG XS.length cG) (ints XS)) := own_below G_7.out b8
  clear c_7 p_7 W_7 x_7 bx_7 G_7
  obtain ⟨vp_8_0, vp_8_1⟩ := p_8.out
  obtain ⟨vbx_8_0, vbx_8_1⟩ := bx_8.out
  clear b8
  have Sx9 : Hid (Below w1.heap.size w1 w8.drew ∧ AtC w8.drew w.heap.size (.int .i64 n0) (.slice A0 xs0.length k0) ∧ OwnV 3 w8.drew w3.heap.size (.slice AW XS.length cW) (ints XS) ∧ OwnV 3 w8.drew w4.heap.size (.slice Ax xs0.length cx) (ints xs0) ∧ AtC w8.drew w5.heap.size (.int .i64 n0) (.slice Ax xs0.length cx) ∧ OwnV 3 w8.drew w6.heap.size (.slice AG XS.length cG) (ints XS)) := ⟨(c_8.out).drew, p_8.out, W_8.out, x_8.out, bx_8.out, G_8.out⟩
  have hK9 : Hid (∀ W W' : World, (AtC W w5.heap.size (.int .i64 n0) (.slice Ax xs0.length cx) ∧ AtC W w.heap.size (.int .i64 n0) (.slice A0 xs0.length k0) ∧ Hid (Below w1.heap.size w1 W ∧ AtC W w.heap.size (.int .i64 n0) (.slice A0 xs0.length k0) ∧ OwnV 3 W w3.heap.size (.slice AW XS.length cW) (ints XS) ∧ OwnV 3 W w4.heap.size (.slice Ax xs0.length cx) (ints xs0) ∧ AtC W w5.heap.size (.int .i64 n0) (.slice Ax xs0.length cx) ∧ OwnV 3 W w6.heap.size (.slice AG XS.length cG) (ints XS))) → Below W.heap.size W W' → (AtC W' w5.heap.size (.int .i64 n0) (.slice Ax xs0.length cx) ∧ AtC W' w.heap.size (.int .i64 n0) (.slice A0 xs0.length k0) ∧ Hid (Below w1.heap.size w1 W' ∧ AtC W' w.heap.size (.int .i64 n0) (.slice A0 xs0.length k0) ∧ OwnV 3 W' w3.heap.size (.slice AW XS.length cW) (ints XS) ∧ OwnV 3 W' w4.heap.size (.slice Ax xs0.length cx) (ints xs0) ∧ AtC W' w5.heap.size (.int .i64 n0) (.slice Ax xs0.length cx) ∧ OwnV 3 W' w6.heap.size (.slice AG XS.length cG) (ints XS)))) := fun W W' h k => ⟨h.1.to k, h.2.1.to k, nxt h.2.2.1 k, AtC.to h.2.2.2.1 k, own_below h.2.2.2.2.1 k, own_below h.2.2.2.2.2.1 k, AtC.to h.2.2.2.2.2.2.1 k, own_below h.2.2.2.2.2.2.2 k⟩
  go_wp2
  go_region_held3 (fun W => ((W.cell? ⟨w5.heap.size, 0, none⟩ = some (.int .i64 n0) ∧ W.cell? ⟨w5.heap.size, 1, none⟩ = some (.slice Ax xs0.length cx)) ∧ (W.cell? ⟨w.heap.size, 0, none⟩ = some (.int .i64 n0) ∧ W.cell? ⟨w.heap.size, 1, none⟩ = some (.slice A0 xs0.length k0)) ∧ Hid (Below w1.heap.size w1 W ∧ AtC W w.heap.size (.int .i64 n0) (.slice A0 xs0.length k0) ∧ OwnV 3 W w3.heap.size (.slice AW XS.length cW) (ints XS) ∧ OwnV 3 W w4.heap.size (.slice Ax xs0.length cx) (ints xs0) ∧ AtC W w5.heap.size (.int .i64 n0) (.slice Ax xs0.length cx) ∧ OwnV 3 W w6.heap.size (.slice AG XS.length cG) (ints XS)))) (first | exact ⟨⟨vbx_8_0, vbx_8_1⟩, ⟨vp_8_0, vp_8_1⟩, Sx9⟩ | exact hK9.out _ _ (by assumption) (by assumption) | go_keep) (first | (go_at_call 13; refine (toComplex_any n0 _ xs0 _ (by rename_i hS _ _; exact now_ Rd0.out hS.2.2.1) (by omega)).mono ?_; rintro e wq9 ⟨vq, rfl, oq, bq⟩) | (go_at_call 15; refine (eqComplex_same n0 _ _ xs0 _ (by rename_i hS _ _; exact own_reads hS.2.2.2.2.2.1) (own_reads (by assumption)) (by omega)).mono ?_; rintro e w9 ⟨rfl, bq⟩))
  rename_i hSS
  have hC := hSS.2.2
  clear vp_8_0 vp_8_1 vbx_8_0 vbx_8_1
  have c_9 : Hid (Below w1.heap.size w1 w9) := hC.1
  have p_9 : Hid (AtC w9 w.heap.size (.int .i64 n0) (.slice A0 xs0.length k0)) := hC.2.1
  have W_9 : Hid (OwnV 3 w9 w3.heap.size (.slice AW XS.length cW) (ints XS)) := hC.2.2.1
  have x_9 : Hid (OwnV 3 w9 w4.heap.size (.slice Ax xs0.length cx) (ints xs0)) := hC.2.2.2.1
  have bx_9 : Hid (AtC w9 w5.heap.size (.int .i64 n0) (.slice Ax xs0.length cx)) := hC.2.2.2.2.1
  have G_9 : Hid (OwnV 3 w9 w6.heap.size (.slice AG XS.length cG) (ints XS)) := hC.2.2.2.2.2
  clear c_8 p_8 W_8 x_8 bx_8 G_8 hC hSS Sx9 hK9
  obtain ⟨vp_9_0, vp_9_1⟩ := p_9.out
  obtain ⟨vbx_9_0, vbx_9_1⟩ := bx_9.out
  go_wp2_with fail
  refine (markComplex_any n0 _ xs0 1 w9 x_9.out (by omega) (by omega) (by omega)).mono ?_
  rintro e w10 ⟨rfl, oq10, g10⟩
  clear vp_9_0 vp_9_1 vbx_9_0 vbx_9_1
  have c_10 : Hid (Below w1.heap.size w1 w10) := (c_9.out).trans (grown_below g10 (c_9.out).size (fun j hj => Nat.le_trans z_c_x.out (own_block x_9.out j hj).1))
  have p_10 : Hid (AtC w10 w.heap.size (.int .i64 n0) (.slice A0 xs0.length k0)) := AtC.grown p_9.out g10 (fun e => by have h1 := bl_p_x.out; have h2 := (own_block x_9.out _ e).1; omega)
  have W_10 : Hid (OwnV 3 w10 w3.heap.size (.slice AW XS.length cW) (ints XS)) := own_grown W_9.out g10 (fun j hj e => by have h1 := lt_W_x.out j hj; have h2 := (own_block x_9.out j e).1; omega)
  have bx_10 : Hid (AtC w10 w5.heap.size (.int .i64 n0) (.slice Ax xs0.length cx)) := AtC.grown bx_9.out g10 (fun e => by have h1 := lt_x_bx.out _ e; omega)
  have G_10 : Hid (OwnV 3 w10 w6.heap.size (.slice AG XS.length cG) (ints XS)) := own_grown G_9.out g10 (fun j hj e => by have h1 := (own_block G_9.out j hj).1; have h2 := lt_x_G.out j e; omega)
  have x_10 : Hid (OwnV 3 w10 w4.heap.size (.slice Ax xs0.length cx) (ints (marks 1 xs0.length))) := oq10
  clear c_9 p_9 W_9 x_9 bx_9 G_9 oq10 g10
  obtain ⟨vp_10_0, vp_10_1⟩ := p_10.out
  obtain ⟨vbx_10_0, vbx_10_1⟩ := bx_10.out
  go_wp2_with fail
  refine (eqIntS_same _ _ XS w10 (own_reads G_10.out) (own_reads W_10.out) (by omega)).mono ?_
  rintro e w11 ⟨rfl, b11⟩
  clear vp_10_0 vp_10_1 vbx_10_0 vbx_10_1
  have c_11 : Hid (Below w1.heap.size w1 w11) := nxt c_10.out b11
  have p_11 : Hid (AtC w11 w.heap.size (.int .i64 n0) (.slice A0 xs0.length k0)) := AtC.to p_10.out b11
  have W_11 : Hid (OwnV 3 w11 w3.heap.size (.slice AW XS.length cW) (ints XS)) := own_below W_10.out b11
  have x_11 : Hid (OwnV 3 w11 w4.heap.size (.slice Ax xs0.length cx) (ints (marks 1 xs0.length))) := own_below x_10.out b11
  have bx_11 : Hid (AtC w11 w5.heap.size (.int .i64 n0) (.slice Ax xs0.length cx)) := AtC.to bx_10.out b11
  have G_11 : Hid (OwnV 3 w11 w6.heap.size (.slice AG XS.length cG) (ints XS)) := own_below G_10.out b11
  clear c_10 p_10 W_10 x_10 bx_10 G_10
  obtain ⟨vp_11_0, vp_11_1⟩ := p_11.out
  obtain ⟨vbx_11_0, vbx_11_1⟩ := bx_11.out
  clear b11
  go_wp2_with fail
  refine (markIntS_any _ XS 1 w11 G_11.out (by omega) (by omega) (by omega)).mono ?_
  rintro e w12 ⟨rfl, oq12, g12⟩
  clear vp_11_0 vp_11_1 vbx_11_0 vbx_11_1
  have c_12 : Hid (Below w1.heap.size w1 w12) := (c_11.out).trans (grown_below g12 (c_11.out).size (fun j hj => Nat.le_trans z_c_G.out (own_block G_11.out j hj).1))
  have p_12 : Hid (AtC w12 w.heap.size (.int .i64 n0) (.slice A0 xs0.length k0)) := AtC.grown p_11.out g12 (fun e => by have h1 := bl_p_G.out; have h2 := (own_block G_11.out _ e).1; omega)
  have W_12 : Hid (OwnV 3 w12 w3.heap.size (.slice AW XS.length cW) (ints XS)) := own_grown W_11.out g12 (fun j hj e => by have h1 := lt_W_G.out j hj; have h2 := (own_block G_11.out j e).1; omega)
  have x_12 : Hid (OwnV 3 w12 w4.heap.size (.slice Ax xs0.length cx) (ints (marks 1 xs0.length))) := own_grown x_11.out g12 (fun j hj e => by have h1 := lt_x_G.out j hj; have h2 := (own_block G_11.out j e).1; omega)
  have bx_12 : Hid (AtC w12 w5.heap.size (.int .i64 n0) (.slice Ax xs0.length cx)) := AtC.grown bx_11.out g12 (fun e => by have h1 := bl_bx_G.out; have h2 := (own_block G_11.out _ e).1; omega)
  have G_12 : Hid (OwnV 3 w12 w6.heap.size (.slice AG XS.length cG) (ints (marks 1 XS.length))) := oq12
  clear c_11 p_11 W_11 x_11 bx_11 G_11 oq12 g12
  obtain ⟨vp_12_0, vp_12_1⟩ := p_12.out
  obtain ⟨vbx_12_0, vbx_12_1⟩ := bx_12.out
  go_wp2_with fail
  refine (heldIntS_yes _ XS.length 1 w12 (own_reads G_12.out) (by omega) (by omega) (by omega)).mono ?_
  rintro e w13 ⟨rfl, b13⟩
  clear vp_12_0 vp_12_1 vbx_12_0 vbx_12_1
  have c_13 : Hid (Below w1.heap.size w1 w13) := nxt c_12.out b13
  have p_13 : Hid (AtC w13 w.heap.size (.int .i64 n0) (.slice A0 xs0.length k0)) := AtC.to p_12.out b13
  have W_13 : Hid (OwnV 3 w13 w3.heap.size (.slice AW XS.length cW) (ints XS)) := own_below W_12.out b13
  have x_13 : Hid (OwnV 3 w13 w4.heap.size (.slice Ax xs0.length cx) (ints (marks 1 xs0.length))) := own_below x_12.out b13
  have bx_13 : Hid (AtC w13 w5.heap.size (.int .i64 n0) (.slice Ax xs0.length cx)) := AtC.to bx_12.out b13
  have G_13 : Hid (OwnV 3 w13 w6.heap.size (.slice AG XS.length cG) (ints (marks 1 XS.length))) := own_below G_12.out b13
  clear c_12 p_12 W_12 x_12 bx_12 G_12
  obtain ⟨vp_13_0, vp_13_1⟩ := p_13.out
  obtain ⟨vbx_13_0, vbx_13_1⟩ := bx_13.out
  clear b13
  go_wp2_with fail
  refine (toComplex_any n0 _ xs0 w13 (now_ Rd0.out c_13.out) (by omega)).mono ?_
  rintro e w14 ⟨vt2, rfl, ot2, b14⟩
  clear vp_13_0 vp_13_1 vbx_13_0 vbx_13_1
  have c_14 : Hid (Below w1.heap.size w1 w14) := nxt c_13.out b14
  have p_14 : Hid (AtC w14 w.heap.size (.int .i64 n0) (.slice A0 xs0.length k0)) := AtC.to p_13.out b14
  have W_14 : Hid (OwnV 3 w14 w3.heap.size (.slice AW XS.length cW) (ints XS)) := own_below W_13.out b14
  have x_14 : Hid (OwnV 3 w14 w4.heap.size (.slice Ax xs0.length cx) (ints (marks 1 xs0.length))) := own_below x_13.out b14
  have bx_14 : Hid (AtC w14 w5.heap.size (.int .i64 n0) (.slice Ax xs0.length cx)) := AtC.to bx_13.out b14
  have G_14 : Hid (OwnV 3 w14 w6.heap.size (.slice AG XS.length cG) (ints (marks 1 XS.length))) := own_below G_13.out b14
  clear c_13 p_13 W_13 x_13 bx_13 G_13
  obtain ⟨vp_14_0, vp_14_1⟩ := p_14.out
  obtain ⟨vbx_14_0, vbx_14_1⟩ := bx_14.out
  go_wp2_with fail
  have lt_W_H : Hid (∀ j, Value.ownBlock (.slice AW XS.length cW) = some j → j < w14.heap.size) := fun j hj => (own_block W_14.out j hj).2
  have lt_x_H : Hid (∀ j, Value.ownBlock (.slice Ax xs0.length cx) = some j → j < w14.heap.size) := fun j hj => (own_block x_14.out j hj).2
  have lt_G_H : Hid (∀ j, Value.ownBlock (.slice AG XS.length cG) = some j → j < w14.heap.size) := fun j hj => (own_block G_14.out j hj).2
  have z_c_H : Hid (w1.heap.size ≤ w14.heap.size) := c_14.out.size
  have bl_p_H : Hid (w.heap.size < w14.heap.size) := p_14.out.lt
  have bl_bx_H : Hid (w5.heap.size < w14.heap.size) := bx_14.out.lt
  refine (hI w14 _ (own_reads ot2)).mono ?_
  rintro e w15 ⟨vH, rfl, oH, b15⟩
  clear vp_14_0 vp_14_1 vbx_14_0 vbx_14_1
  have c_15 : Hid (Below w1.heap.size w1 w15) := nxt c_14.out b15
  have p_15 : Hid (AtC w15 w.heap.size (.int .i64 n0) (.slice A0 xs0.length k0)) := AtC.to p_14.out b15
  have W_15 : Hid (OwnV 3 w15 w3.heap.size (.slice AW XS.length cW) (ints XS)) := own_below W_14.out b15
  have x_15 : Hid (OwnV 3 w15 w4.heap.size (.slice Ax xs0.length cx) (ints (marks 1 xs0.length))) := own_below x_14.out b15
  have bx_15 : Hid (AtC w15 w5.heap.size (.int .i64 n0) (.slice Ax xs0.length cx)) := AtC.to bx_14.out b15
  have G_15 : Hid (OwnV 3 w15 w6.heap.size (.slice AG XS.length cG) (ints (marks 1 XS.length))) := own_below G_14.out b15
  clear c_14 p_14 W_14 x_14 bx_14 G_14
  obtain ⟨vp_15_0, vp_15_1⟩ := p_15.out
  obtain ⟨vbx_15_0, vbx_15_1⟩ := bx_15.out
  obtain ⟨AH, cH, rfl⟩ := own_shape oH
  have H_15 : Hid (OwnV 3 w15 w14.heap.size (.slice AH XS.length cH) (ints XS)) := oH
  clear oH b15
  go_wp2_with fail
  refine (eqIntS_same _ _ XS w15 (own_reads H_15.out) (own_reads W_15.out) (by omega)).mono ?_
  rintro e w16 ⟨rfl, b16⟩
  clear vp_15_0 vp_15_1 vbx_15_0 vbx_15_1
  have c_16 : Hid (Below w1.heap.size w1 w16) := nxt c_15.out b16
  have p_16 : Hid (AtC w16 w.heap.size (.int .i64 n0) (.slice A0 xs0.length k0)) := AtC.to p_15.out b16
  have W_16 : Hid (OwnV 3 w16 w3.heap.size (.slice AW XS.length cW) (ints XS)) := own_below W_15.out b16
  have x_16 : Hid (OwnV 3 w16 w4.heap.size (.slice Ax xs0.length cx) (ints (marks 1 xs0.length))) := own_below x_15.out b16
  have bx_16 : Hid (AtC w16 w5.heap.size (.int .i64 n0) (.slice Ax xs0.length cx)) := AtC.to bx_15.out b16
  have G_16 : Hid (OwnV 3 w16 w6.heap.size (.slice AG XS.length cG) (ints (marks 1 XS.length))) := own_below G_15.out b16
  have H_16 : Hid (OwnV 3 w16 w14.heap.size (.slice AH XS.length cH) (ints XS)) := own_below H_15.out b16
  clear c_15 p_15 W_15 x_15 bx_15 G_15 H_15
  obtain ⟨vp_16_0, vp_16_1⟩ := p_16.out
  obtain ⟨vbx_16_0, vbx_16_1⟩ := bx_16.out
  clear b16
  go_wp2_with fail
  refine (heldIntS_yes _ XS.length 1 w16 (own_reads G_16.out) (by omega) (by omega) (by omega)).mono ?_
  rintro e w17 ⟨rfl, b17⟩
  clear vp_16_0 vp_16_1 vbx_16_0 vbx_16_1
  have c_17 : Hid (Below w1.heap.size w1 w17) := nxt c_16.out b17
  have p_17 : Hid (AtC w17 w.heap.size (.int .i64 n0) (.slice A0 xs0.length k0)) := AtC.to p_16.out b17
  have W_17 : Hid (OwnV 3 w17 w3.heap.size (.slice AW XS.length cW) (ints XS)) := own_below W_16.out b17
  have x_17 : Hid (OwnV 3 w17 w4.heap.size (.slice Ax xs0.length cx) (ints (marks 1 xs0.length))) := own_below x_16.out b17
  have bx_17 : Hid (AtC w17 w5.heap.size (.int .i64 n0) (.slice Ax xs0.length cx)) := AtC.to bx_16.out b17
  have G_17 : Hid (OwnV 3 w17 w6.heap.size (.slice AG XS.length cG) (ints (marks 1 XS.length))) := own_below G_16.out b17
  have H_17 : Hid (OwnV 3 w17 w14.heap.size (.slice AH XS.length cH) (ints XS)) := own_below H_16.out b17
  clear c_16 p_16 W_16 x_16 bx_16 G_16 H_16
  obtain ⟨vp_17_0, vp_17_1⟩ := p_17.out
  obtain ⟨vbx_17_0, vbx_17_1⟩ := bx_17.out
  clear b17
  go_wp2
  go_ret
  exact ⟨rfl, B1.out.trans (c_17.out.mono (by omega))⟩

set_option maxRecDepth 100000 in
theorem lifted_FnExactFaceCounts (os : Os) (started : os.Started) (H : Type) (enc : TypeId × Value → H) :
    ReturnsInHanded {} Try.checked os 5 .any (Rows.fnExactFaceCountsSpec.pre6 enc Try.prog Try.f5 Rows.fnExactFaceCountsRow.domain false) (Rows.fnExactFaceCountsSpec.post enc Try.prog Try.f5 false true false false) := by
  refine returnsInHanded_of_change (C := Try.checked) own started (by kernel_rfl) Try.func5
    (ChangeSpec.witness6 (enc := enc) (C := Try.checked) false ⟨#[], #[.agg #[.int .i64 0, .slice none 0 0]], []⟩ 8 (by kernel_rfl) (by kernel_rfl) (by kernel_rfl) (by kernel_rfl)) ?_
  intro W base args ds gs before hval0 hW hcnd _
  have hval : ∀ (j : Nat) t v, Try.f5.params[j]? = some t → args[j]? = some v → Value.okWide Try.prog W .any base t v := hval0
  have hW' := hW
  obtain ⟨p, q, hA0, hV, rfl, hfz, hnd⟩ := hW
  have hA : DataW.TrodAll enc Try.prog W 0 (fun _ => true) true Try.f5.params.toList args.toList ds p := hA0
  rw [Try.params5] at hA hval
  have hB := fun W' => back_all (enc := enc) (W' := W') laidOut _ _ _ _ (show AllR Try.prog [24] from ⟨⟨by kernel_rfl, of_decide_eq_true (by kernel_rfl)⟩, trivial⟩) hA
  obtain ⟨v0, vs0, d0, ds0, p0, q0, hargs, rfl, rfl, h0, r0⟩ := trodAll_cons hA
  obtain ⟨rfl, rfl, rfl⟩ := trodAll_nil r0
  obtain rfl : args = #[v0] := by cases args; simp_all
  obtain ⟨rfl, rfl⟩ := trodVars_none hV
  obtain ⟨n0, u0, xs0, rfl, rd0, bl0, bn0, bx0⟩ := openComplex Try.underlying24 (by kernel_rfl) (by kernel_rfl) Try.underlying3 Try.underlying22 Try.underlying3 (by kernel_rfl) (hval 0 24 v0 rfl rfl) h0
  clear hA0 hval0
  refine (walk_FnExactFaceCounts W n0 u0 xs0 rd0 bl0 bn0 bx0).mono fun e W' ⟨he, bel⟩ => ?_
  subst he
  exact ⟨_, rfl, _, _, _, [], _, [], hW', trodAll_mk1 (shut_bool Try.underlying4 _), hB W' bel, rfl, bel.frame _, fun h => by cases h⟩

theorem FnExactFaceCounts_holds : Rows.FnExactFaceCountsSaid :=
  OpenClaim.holds_of_wide 5 Try.f5 rfl rfl rfl rfl rfl rfl rfl ⟨rfl, rfl, rfl, rfl, rfl⟩ rfl rfl rfl rfl rfl (by kernel_rfl) Try.func5 (by kernel_rfl)
    (of_decide_eq_true (by kernel_rfl)) (by unfold Func.isWrapper; first | (rw [if_pos (by decide +kernel)]; kernel_rfl) | (rw [if_neg (by decide +kernel)]; exact ⟨rfl, rfl⟩))
    (fun os started H enc _ => lifted_FnExactFaceCounts os started H enc)
end Go.Proofs.Ytmkacjpjcfffmab
